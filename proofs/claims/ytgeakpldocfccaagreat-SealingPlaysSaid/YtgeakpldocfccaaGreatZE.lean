/- Epochs: predicates. -/
import Derived.Test.YtgeakpldocfccaaGreatZC
import Derived.Test.YtgeakpldocfccaaGreatZD
import Derived.Test.YtgeakpldocfccaaGreatZA
set_option linter.unusedVariables false
set_option linter.unusedSimpArgs false
set_option maxRecDepth 100000
set_option maxHeartbeats 4000000
namespace Go.Proofs.YtgeakpldocfccaaGreat
open Go Go.Mx Go.Proofs
def Q1r.M (o1 : Option Addr) (a1 a0 : Int) (R : RW) (w : World) : Prop :=
 bif decide (a1 < 0) then (
 R (.tuple #[.pointer none, .int .i64 1]) w) else (
 bif decide (a1 ≥ 8) then (
 R (.tuple #[.pointer none, .int .i64 1]) w) else (
 bif Option.isNone o1 then (
 R (.tuple #[.pointer none, .int .i64 23]) w) else (
 thenW (w.alloc (.cells #[.pointer o1, .int .i64 a1, .int .u64 a0, .slice none 0 0, .slice none 0 0] 109)) fun a2 =>
 R (.tuple #[.pointer (some (blk w.heap.size)), .int .i64 0]) a2)))

theorem Q1r.ok (o1 : Option Addr) (a1 a0 : Int) {R : RW} {w : World} (h : Q1r.M o1 a1 a0 R w) : Calls Tryz.prog 18 #[.pointer o1, .int .i64 a1, .int .u64 a0] w fun e w' => ∃ v, e = .returned v ∧ R v w' :=
  Q0i follows (H := []) (args := [.pointer o1, .int .i64 a1, .int .u64 a0]) (cast (by kernel_rfl) h)

def Q1r.N (o1 : Option Addr) (a0 a1 : Int) (R : RW) (w : World) : Prop :=
 (a0 < 0 →
 R (.tuple #[.pointer none, .int .i64 1]) w) ∧
 ((0 : Int) ≤ a0 →
 (a0 ≥ 8 →
 R (.tuple #[.pointer none, .int .i64 1]) w) ∧
 (a0 < 8 →
 (o1 = none →
 R (.tuple #[.pointer none, .int .i64 23]) w) ∧
 (o1 ≠ none →
 ∀ (a2 : World) (q8 : Nat), Ext no w a2 → Blk a2 q8 109 [.pointer o1, .int .i64 a0, .int .u64 a1, .slice none 0 0, .slice none 0 0] → w.heap.size ≤ q8 → q8 < a2.heap.size →
 R (.tuple #[.pointer (some (blk q8)), .int .i64 0]) a2)))

theorem Q1r.up (o1 : Option Addr) (a1 a0 : Int) {R : RW} {w : World} (h : Q1r.N o1 a1 a0 R w) : Q1r.M o1 a1 a0 R w := by
  unfold Q1r.M
  unfold Q1r.N at h
  refine bif_of (fun c4 => ?_) (fun c4 => ?_)
  ·have h := h.1 (of_decide_eq_true c4)
   exact h
  have h := h.2 (Int.not_lt.1 (of_decide_eq_false c4))
  refine bif_of (fun c5 => ?_) (fun c5 => ?_)
  ·have h := h.1 (of_decide_eq_true c5)
   exact h
  have h := h.2 (Int.not_le.1 (of_decide_eq_false c5))
  refine bif_of (fun c6 => ?_) (fun c6 => ?_)
  ·have h := h.1 (Q1T c6)
   exact h
  have h := h.2 (Q1O c6)
  refine Q01 fun a2 e7 => ?_
  have h := h a2 w.heap.size ((Ext.refl no w).x_alloc e7) (Blk.of_new e7) ((Ext.refl no w)).size (Q0A e7)
  exact h

theorem Q1r.go (o1 : Option Addr) (a1 a0 : Int) {R : RW} {w : World} (h : Q1r.N o1 a1 a0 R w) : Calls Tryz.prog 18 #[.pointer o1, .int .i64 a1, .int .u64 a0] w fun e w' => ∃ v, e = .returned v ∧ R v w' := Q1r.ok o1 a1 a0 (Q1r.up o1 a1 a0 h)
def Q14.M (r1 : Option Addr) (a0 : Int) (R : RW) (w : World) : Prop :=
 bif Option.isNone r1 then (
 R (.tuple #[.int .u64 0, .int .i64 23]) w) else (
 bif decide (a0 < 0) then (
 R (.tuple #[.int .u64 0, .int .i64 2]) w) else (
 r1.elim False fun a3 =>
 ∃ (ac : Option Addr) (a6 ad : Nat), w.cell? (a3.add 3) = some (.slice ac a6 ad) ∧
 bif decide (a0 ≥ (a6 : Int)) then (
 R (.tuple #[.int .u64 0, .int .i64 2]) w) else (
 r1.elim False fun a5 =>
 ∃ (a8 : Option Addr) (a4 ab : Nat), w.cell? (a5.add 3) = some (.slice a8 a4 ab) ∧
 a8.elim False fun a7 =>
 0 ≤ (a0 : Int) ∧ (a0 : Int) < (a4 : Int) ∧
 ∃ (x8 : Int), w.cell? (a7.add (Int.toNat a0 * 1)) = some (.int .u64 x8) ∧
 bif x8 == 0 then (
 R (.tuple #[.int .u64 0, .int .i64 11]) w) else (
 r1.elim False fun a9 =>
 ∃ (a1 : Option Addr) (a2 aa : Nat), w.cell? (a9.add 3) = some (.slice a1 a2 aa) ∧
 a1.elim False fun af =>
 0 ≤ (a0 : Int) ∧ (a0 : Int) < (a2 : Int) ∧
 ∃ (ae : Int), w.cell? (af.add (Int.toNat a0 * 1)) = some (.int .u64 ae) ∧
 R (.tuple #[.int .u64 ae, .int .i64 0]) w))))

theorem Q14.ok (r1 : Option Addr) (a0 : Int) {R : RW} {w : World} (h : Q14.M r1 a0 R w) : Calls Tryz.prog 68 #[.pointer r1, .int .i64 a0] w fun e w' => ∃ v, e = .returned v ∧ R v w' :=
  Q0i follows (H := []) (args := [.pointer r1, .int .i64 a0]) (cast (by kernel_rfl) h)

def Q14.N (r1 : Option Addr) (a0 : Int) (R : RW) (w : World) : Prop :=
 (r1 = none →
 R (.tuple #[.int .u64 0, .int .i64 23]) w) ∧
 (r1 ≠ none →
 (a0 < 0 →
 R (.tuple #[.int .u64 0, .int .i64 2]) w) ∧
 ((0 : Int) ≤ a0 →
 ∃ a5 : Addr, r1 = some a5 ∧
 ∃ (a9 : Option Addr) (a1 aa : Nat), w.cell? (a5.add 3) = some (.slice a9 a1 aa) ∧
 (a0 ≥ (a1 : Int) →
 R (.tuple #[.int .u64 0, .int .i64 2]) w) ∧
 (a0 < (a1 : Int) →
 ∃ (a2 : Option Addr) (a4 a7 : Nat), w.cell? (a5.add 3) = some (.slice a2 a4 a7) ∧
 ∃ ae : Addr, a2 = some ae ∧
 0 ≤ (a0 : Int) ∧ (a0 : Int) < (a4 : Int) ∧
 ∃ (ab : Int), w.cell? (ae.add (Int.toNat a0 * 1)) = some (.int .u64 ab) ∧
 (ab = 0 →
 R (.tuple #[.int .u64 0, .int .i64 11]) w) ∧
 (ab ≠ 0 →
 ∃ (a3 : Option Addr) (a6 a8 : Nat), w.cell? (a5.add 3) = some (.slice a3 a6 a8) ∧
 ∃ ac : Addr, a3 = some ac ∧
 0 ≤ (a0 : Int) ∧ (a0 : Int) < (a6 : Int) ∧
 ∃ (ad : Int), w.cell? (ac.add (Int.toNat a0 * 1)) = some (.int .u64 ad) ∧
 R (.tuple #[.int .u64 ad, .int .i64 0]) w))))

theorem Q14.up (r1 : Option Addr) (a0 : Int) {R : RW} {w : World} (h : Q14.N r1 a0 R w) : Q14.M r1 a0 R w := by
  unfold Q14.M
  unfold Q14.N at h
  refine bif_of (fun c3 => ?_) (fun c3 => ?_)
  ·have h := h.1 (Q1T c3)
   exact h
  have h := h.2 (Q1O c3)
  refine bif_of (fun c4 => ?_) (fun c4 => ?_)
  ·have h := h.1 (of_decide_eq_true c4)
   exact h
  have h := h.2 (Int.not_lt.1 (of_decide_eq_false c4))
  obtain ⟨a5, af, h⟩ := h
  refine Q05 af ?_
  obtain ⟨aa, a8, a9, an, h⟩ := h
  refine ⟨aa, a8, a9, an, ?_⟩
  refine bif_of (fun c8 => ?_) (fun c8 => ?_)
  ·have h := h.1 (of_decide_eq_true c8)
   exact h
  have h := h.2 (Int.not_le.1 (of_decide_eq_false c8))
  refine Q05 af ?_
  obtain ⟨a1, a2, a7, am, h⟩ := h
  refine ⟨a1, a2, a7, am, ?_⟩
  obtain ⟨ao, ab, h⟩ := h
  refine Q05 ab ?_
  obtain ⟨ag, ai, h⟩ := h
  refine ⟨ag, ai, ?_⟩
  obtain ⟨al, ad, h⟩ := h
  refine ⟨al, ad, ?_⟩
  refine bif_of (fun ae => ?_) (fun ae => ?_)
  ·have h := h.1 (beq_t ae)
   exact h
  have h := h.2 (beq_f ae)
  refine Q05 af ?_
  obtain ⟨a3, a4, a6, aj, h⟩ := h
  refine ⟨a3, a4, a6, aj, ?_⟩
  obtain ⟨ap, ah, h⟩ := h
  refine Q05 ah ?_
  obtain ⟨ag, ai, h⟩ := h
  refine ⟨ag, ai, ?_⟩
  obtain ⟨ak, ac, h⟩ := h
  refine ⟨ak, ac, ?_⟩
  exact h

theorem Q14.go (r1 : Option Addr) (a0 : Int) {R : RW} {w : World} (h : Q14.N r1 a0 R w) : Calls Tryz.prog 68 #[.pointer r1, .int .i64 a0] w fun e w' => ∃ v, e = .returned v ∧ R v w' := Q14.ok r1 a0 (Q14.up r1 a0 h)
theorem Q14.run (r1 : Option Addr) (a0 : Int) {V : Value} {Q : World → Prop} {w : World} (h : Q14.N r1 a0 (fun v w' => v = V ∧ Q w') w) : Calls Tryz.prog 68 #[.pointer r1, .int .i64 a0] w (Ret V Q) := (Q14.go r1 a0 h).mono fun e w' ⟨v, he, hv, hq⟩ => ⟨by rw [he, hv], hq⟩

def Q1h.M (a3 : Int) (R : RW) (w : World) : Prop :=
 Calls Tryz.prog 85 #[.slice none 0 0, .int .u64 (IntKind.u64.wrap a3)] w fun a4 a5 => ∃ (a0 : Option Addr) (a1 a2 : Nat), a4 = .returned (.slice a0 a1 a2) ∧
 R (.slice a0 a1 a2) a5

theorem Q1h.ok (a0 : Int) {R : RW} {w : World} (h : Q1h.M a0 R w) : Calls Tryz.prog 48 #[.int .i64 a0] w fun e w' => ∃ v, e = .returned v ∧ R v w' :=
  Q0i follows (H := []) (args := [.int .i64 a0]) (cast (by kernel_rfl) h)

def Q1h.N (a3 : Int) (R : RW) (w : World) : Prop :=
 Calls Tryz.prog 85 #[.slice none 0 0, .int .u64 (IntKind.u64.wrap a3)] w fun a4 a5 => ∃ (a0 : Option Addr) (a1 a2 : Nat), a4 = .returned (.slice a0 a1 a2) ∧
 R (.slice a0 a1 a2) a5

theorem Q1h.up (a0 : Int) {R : RW} {w : World} (h : Q1h.N a0 R w) : Q1h.M a0 R w := by
  unfold Q1h.M
  unfold Q1h.N at h
  refine h.mono fun a4 a5 h => ?_
  obtain ⟨a1, a2, a3, he, h⟩ := h
  refine ⟨a1, a2, a3, he, ?_⟩
  exact h

theorem Q1h.go (a0 : Int) {R : RW} {w : World} (h : Q1h.N a0 R w) : Calls Tryz.prog 48 #[.int .i64 a0] w fun e w' => ∃ v, e = .returned v ∧ R v w' := Q1h.ok a0 (Q1h.up a0 h)
abbrev Q1b.J1 (j8 : Option Addr) (j9 a8 : Nat) (a5 : Int) (I0 : Nat → List Value → World → Prop) (m5 : Nat) (n1 : Int) (R : RW) (a1 : World) : Prop :=
 0 ≤ ((IntKind.i64.wrap ((56 : Int) - (IntKind.i64.wrap ((8 : Int) * a5)))) : Int) ∧
 thenW (a1.alloc (.cells #[.int .u8 (IntKind.u8.wrap (Int.fdiv n1 (2 ^ (min (Int.toNat (IntKind.i64.wrap ((56 : Int) - (IntKind.i64.wrap ((8 : Int) * a5))))) (IntKind.bits .u64)))))] 5)) fun a6 =>
 ∃ (a3 : Option Addr) (a2 a4 : Nat) (a0 : World), (Builtin.append_ #[25, 25] 25 #[.slice j8 j9 a8, .slice (some (blk a1.heap.size)) 1 1]).run Tryz.prog a6 = .ok (.slice a3 a2 a4) a0 ∧
 ∃ a7, a7 < m5 ∧ I0 a7 [.slice a3 a2 a4, .int .i64 (IntKind.i64.wrap (a5 + 1))] a0

def Q1b.M (n1 : Int) (R : RW) (w : World) : Prop :=
 ∃ (I0 : Nat → List Value → World → Prop) (m4 : Nat), I0 m4 [.slice none 0 0, .int .i64 0] w ∧ ∀ (m5 : Nat) (a1 : World) (a2 : Option Addr) (a3 a0 : Nat) (t3 : Int), I0 m5 [.slice a2 a3 a0, .int .i64 t3] a1 →
 bif decide (t3 < 8) then (
 Q1b.J1 a2 a3 a0 t3 I0 m5 n1 R a1) else (
 R (.slice a2 a3 a0) a1)

theorem Q1b.ok (n1 : Int) {R : RW} {w : World} (h : Q1b.M n1 R w) : Calls Tryz.prog 49 #[.int .u64 n1] w fun e w' => ∃ v, e = .returned v ∧ R v w' :=
  Q0i follows (H := [(0, [0], [(2, (.one .slice)), (4, (.one (.int .i64)))])]) (args := [.int .u64 n1]) (cast (by kernel_rfl) h)

def Q1b.N (n1 : Int) (R : RW) (w : World) : Prop :=
 ∃ (I0 : Nat → List Value → World → Prop) (m4 : Nat), I0 m4 [.slice none 0 0, .int .i64 0] w ∧ ∀ (m5 : Nat) (a4 : World) (a7 : Option Addr) (a8 a6 : Nat) (t3 : Int), I0 m5 [.slice a7 a8 a6, .int .i64 t3] a4 →
 (t3 < 8 →
 (-9223372036854775808 : Int) ≤ ((8 : Int) * t3) ∧ ((8 : Int) * t3) < 9223372036854775808 ∧
 (-9223372036854775808 : Int) ≤ ((56 : Int) - ((8 : Int) * t3)) ∧ ((56 : Int) - ((8 : Int) * t3)) < 9223372036854775808 ∧
 0 ≤ (((56 : Int) - ((8 : Int) * t3)) : Int) ∧
 ∀ (a5 : World) (q9 : Nat), Ext no a4 a5 → Blk a5 q9 5 [.int .u8 (IntKind.u8.wrap (Int.fdiv n1 (2 ^ (min (Int.toNat ((56 : Int) - ((8 : Int) * t3))) (IntKind.bits .u64)))))] → a4.heap.size ≤ q9 → q9 < a5.heap.size →
 ∃ (a0 : Option Addr) (a3 a2 : Nat) (a1 : World), (Builtin.append_ #[25, 25] 25 #[.slice a7 a8 a6, .slice (some (blk q9)) 1 1]).run Tryz.prog a5 = .ok (.slice a0 a3 a2) a1 ∧
 (-9223372036854775808 : Int) ≤ (t3 + 1) ∧ (t3 + 1) < 9223372036854775808 ∧
 ∃ a9, a9 < m5 ∧ I0 a9 [.slice a0 a3 a2, .int .i64 (t3 + 1)] a1) ∧
 ((8 : Int) ≤ t3 →
 R (.slice a7 a8 a6) a4)

theorem Q1b.up (n1 : Int) {R : RW} {w : World} (h : Q1b.N n1 R w) : Q1b.M n1 R w := by
  unfold Q1b.M
  unfold Q1b.N at h
  obtain ⟨I0, m4, h0, h⟩ := h
  refine ⟨I0, m4, h0, fun m5 a2 a9 aa a7 t3 hI => ?_⟩
  have h := h m5 a2 a9 aa a7 t3 hI
  refine bif_fo (fun c7 => ?_) (fun c7 => ?_)
  ·have h := h.2 (Int.not_lt.1 (of_decide_eq_false c7))
   exact h
  have h := h.1 (of_decide_eq_true c7)
  unfold Q1b.J1
  obtain ⟨a0, a1, h⟩ := h
  try rw [w64 a0 a1]
  obtain ⟨a0, a1, h⟩ := h
  try rw [w64 a0 a1]
  obtain ⟨hp, h⟩ := h
  refine ⟨hp, ?_⟩
  refine Q01 fun ab e8 => ?_
  have h := h ab a2.heap.size ((Ext.refl no a2).x_alloc e8) (Blk.of_new e8) ((Ext.refl no a2)).size (Q0A e8)
  obtain ⟨a3, a6, a5, a4, hr, h⟩ := h
  refine ⟨a3, a6, a5, a4, hr, ?_⟩
  obtain ⟨a0, a1, h⟩ := h
  try rw [w64 a0 a1]
  obtain ⟨a8, hk, h⟩ := h
  exact ⟨a8, hk, h⟩

theorem Q1b.go (n1 : Int) {R : RW} {w : World} (h : Q1b.N n1 R w) : Calls Tryz.prog 49 #[.int .u64 n1] w fun e w' => ∃ v, e = .returned v ∧ R v w' := Q1b.ok n1 (Q1b.up n1 h)
abbrev Q13.J1 (a9 : Int) (I0 : Nat → List Value → World → Prop) (m6 : Nat) (r1 : Option Addr) (R : RW) (az : World) : Prop :=
 thenW (az.drew) fun ah =>
 r1.elim False fun b1 =>
 ∃ (aw : Option Addr), ah.cell? (b1.add 0) = some (.pointer aw) ∧
 r1.elim False fun b7 =>
 ∃ (a1 : Option Addr) (a2 af : Nat), ah.cell? (b7.add 3) = some (.slice a1 a2 af) ∧
 a1.elim False fun b6 =>
 0 ≤ (a9 : Int) ∧ (a9 : Int) < (a2 : Int) ∧
 ∃ (ay : Int), ah.cell? (b6.add (Int.toNat a9 * 1)) = some (.int .u64 ay) ∧
 r1.elim False fun ba =>
 ∃ (a3 : Option Addr) (a4 ae : Nat), ah.cell? (ba.add 4) = some (.slice a3 a4 ae) ∧
 a3.elim False fun b3 =>
 0 ≤ (a9 : Int) ∧ (a9 : Int) < (a4 : Int) ∧
 ∃ (ap : Option Addr) (aq ao : Nat), ah.cell? (b3.add (Int.toNat a9 * 1)) = some (.slice ap aq ao) ∧
 Calls Tryz.prog 48 #[.int .i64 a9] ah fun ax ai => ∃ (a6 : Option Addr) (a8 a5 : Nat), ax = .returned (.slice a6 a8 a5) ∧
 ai.cell? (b3.add (Int.toNat a9 * 1)) = some (.slice ap aq ao) ∧
 ai.cell? (ba.add 4) = some (.slice a3 a4 ae) ∧
 ai.cell? (b6.add (Int.toNat a9 * 1)) = some (.int .u64 ay) ∧
 ai.cell? (b7.add 3) = some (.slice a1 a2 af) ∧
 ai.cell? (b1.add 0) = some (.pointer aw) ∧
 Calls Tryz.prog 34 #[.pointer aw, .int .u64 ay, .slice a6 a8 a5, .slice ap aq ao] ai fun b0 ar => ∃ (a7 : Option Addr) (a0 aj : Nat) (ac : Int), b0 = .returned (.tuple #[.slice a7 a0 aj, .int .i64 ac]) ∧
 bif ac != 0 then (
 R (.tuple #[]) ar) else (
 bif (a0 : Int) != 8 then (
 R (.tuple #[]) ar) else (
 ∃ (I2 : Nat → List Value → World → Prop) (bg : Nat), I2 bg [.int .i64 0] ar ∧ ∀ (b9 : Nat) (al : World) (au : Int), I2 b9 [.int .i64 au] al →
 bif decide (au < (a0 : Int)) then (
 a7.elim False fun bf =>
 0 ≤ (au : Int) ∧ (au : Int) < (a0 : Int) ∧
 ∃ (b4 : Int), al.cell? (bf.add (Int.toNat au * 1)) = some (.int .u8 b4) ∧
 thenW (al.drew) fun ak =>
 r1.elim False fun bd =>
 ∃ (ag : Option Addr) (ab an : Nat), ak.cell? (bd.add 3) = some (.slice ag ab an) ∧
 r1.elim False fun bc =>
 ∃ (ad : Option Addr) (aa am : Nat), ak.cell? (bc.add 3) = some (.slice ad aa am) ∧
 ad.elim False fun be =>
 0 ≤ ((IntKind.i64.wrap (a9 - 1)) : Int) ∧ ((IntKind.i64.wrap (a9 - 1)) : Int) < (aa : Int) ∧
 ∃ (bb : Int), ak.cell? (be.add (Int.toNat (IntKind.i64.wrap (a9 - 1)) * 1)) = some (.int .u64 bb) ∧
 0 ≤ (8 : Int) ∧
 ag.elim False fun b2 =>
 0 ≤ ((IntKind.i64.wrap (a9 - 1)) : Int) ∧ ((IntKind.i64.wrap (a9 - 1)) : Int) < (ab : Int) ∧
 Q0e ak ((b2.add (Int.toNat (IntKind.i64.wrap (a9 - 1)) * 1)).add 0) ∧
 thenW (ak.setCell ((b2.add (Int.toNat (IntKind.i64.wrap (a9 - 1)) * 1)).add 0) (.int .u64 (IntKind.u64.wrap ((BitVec.ofInt (IntKind.bits .u64) (IntKind.u64.wrap (bb * 2 ^ (min (Int.toNat 8) (IntKind.bits .u64)))) ||| BitVec.ofInt (IntKind.bits .u64) (IntKind.u64.wrap b4)).toNat)))) fun av =>
 ∃ b5, b5 < b9 ∧ I2 b5 [.int .i64 (IntKind.i64.wrap (au + 1))] av) else (
 ∃ b8, b8 < m6 ∧ I0 b8 [.int .i64 (IntKind.i64.wrap (a9 - 1))] al)))

def Q13.M (r1 : Option Addr) (R : RW) (w : World) : Prop :=
 r1.elim False fun a2 =>
 ∃ (aa : Option Addr) (a3 ac : Nat), w.cell? (a2.add 3) = some (.slice aa a3 ac) ∧
 ∃ (I0 : Nat → List Value → World → Prop) (m5 : Nat), I0 m5 [.int .i64 (IntKind.i64.wrap ((a3 : Int) - 1))] w ∧ ∀ (m6 : Nat) (a7 : World) (a6 : Int), I0 m6 [.int .i64 a6] a7 →
 bif decide (a6 > 0) then (
 r1.elim False fun a8 =>
 ∃ (a5 : Option Addr) (a4 ab : Nat), a7.cell? (a8.add 3) = some (.slice a5 a4 ab) ∧
 a5.elim False fun ag =>
 0 ≤ (a6 : Int) ∧ (a6 : Int) < (a4 : Int) ∧
 ∃ (ad : Int), a7.cell? (ag.add (Int.toNat a6 * 1)) = some (.int .u64 ad) ∧
 bif ad != 0 then (
 r1.elim False fun af =>
 ∃ (a0 : Option Addr) (a1 a9 : Nat), a7.cell? (af.add 3) = some (.slice a0 a1 a9) ∧
 a0.elim False fun ah =>
 0 ≤ ((IntKind.i64.wrap (a6 - 1)) : Int) ∧ ((IntKind.i64.wrap (a6 - 1)) : Int) < (a1 : Int) ∧
 ∃ (ae : Int), a7.cell? (ah.add (Int.toNat (IntKind.i64.wrap (a6 - 1)) * 1)) = some (.int .u64 ae) ∧
 bif ae == 0 then (
 Q13.J1 a6 I0 m6 r1 R a7) else (
 R (.tuple #[]) a7)) else (
 R (.tuple #[]) a7)) else (
 R (.tuple #[]) a7)

theorem Q13.ok (r1 : Option Addr) {R : RW} {w : World} (h : Q13.M r1 R w) : Calls Tryz.prog 66 #[.pointer r1] w fun e w' => ∃ v, e = .returned v ∧ R v w' :=
  Q0i follows (H := [(0, [0], [(2, (.one (.int .i64)))]), (2, [0, 2, 69, 70], [(71, (.one (.int .i64)))])]) (args := [.pointer r1]) (cast (by kernel_rfl) h)

def Q13.N (r1 : Option Addr) (R : RW) (w : World) : Prop :=
 ∃ a2 : Addr, r1 = some a2 ∧
 ∃ (ay : Option Addr) (a8 b2 : Nat), w.cell? (a2.add 3) = some (.slice ay a8 b2) ∧
 (-9223372036854775808 : Int) ≤ ((a8 : Int) - 1) ∧ ((a8 : Int) - 1) < 9223372036854775808 ∧
 ∃ (I0 : Nat → List Value → World → Prop) (m6 : Nat), I0 m6 [.int .i64 ((a8 : Int) - 1)] w ∧ ∀ (m7 : Nat) (aj : World) (a1 : Int), I0 m7 [.int .i64 a1] aj →
 (a1 > 0 →
 ∃ (ai : Option Addr) (ae ax : Nat), aj.cell? (a2.add 3) = some (.slice ai ae ax) ∧
 ∃ bm : Addr, ai = some bm ∧
 0 ≤ (a1 : Int) ∧ (a1 : Int) < (ae : Int) ∧
 ∃ (bf : Int), aj.cell? (bm.add (Int.toNat a1 * 1)) = some (.int .u64 bf) ∧
 (bf ≠ 0 →
 ∃ (ah : Option Addr) (ak av : Nat), aj.cell? (a2.add 3) = some (.slice ah ak av) ∧
 (-9223372036854775808 : Int) ≤ (a1 - 1) ∧ (a1 - 1) < 9223372036854775808 ∧
 ∃ bh : Addr, ah = some bh ∧
 0 ≤ ((a1 - 1) : Int) ∧ ((a1 - 1) : Int) < (ak : Int) ∧
 ∃ (ba : Int), aj.cell? (bh.add (Int.toNat (a1 - 1) * 1)) = some (.int .u64 ba) ∧
 (ba = 0 →
 ∃ (b7 : Option Addr), aj.cell? (a2.add 0) = some (.pointer b7) ∧
 ∃ (a3 : Option Addr) (a6 ag : Nat), aj.cell? (a2.add 3) = some (.slice a3 a6 ag) ∧
 ∃ b9 : Addr, a3 = some b9 ∧
 0 ≤ (a1 : Int) ∧ (a1 : Int) < (a6 : Int) ∧
 ∃ (b6 : Int), aj.cell? (b9.add (Int.toNat a1 * 1)) = some (.int .u64 b6) ∧
 ∃ (a5 : Option Addr) (a7 af : Nat), aj.cell? (a2.add 4) = some (.slice a5 a7 af) ∧
 ∃ b8 : Addr, a5 = some b8 ∧
 0 ≤ (a1 : Int) ∧ (a1 : Int) < (a7 : Int) ∧
 ∃ (b1 : Option Addr) (b0 b3 : Nat), aj.cell? (b8.add (Int.toNat a1 * 1)) = some (.slice b1 b0 b3) ∧
 ∀ (b5 : World), Ext no aj b5 →
 Calls Tryz.prog 48 #[.int .i64 a1] b5 fun be ap => ∃ (a9 : Option Addr) (ab ac : Nat), be = .returned (.slice a9 ab ac) ∧
 ap.cell? (b8.add (Int.toNat a1 * 1)) = some (.slice b1 b0 b3) ∧
 ap.cell? (a2.add 4) = some (.slice a5 a7 af) ∧
 ap.cell? (b9.add (Int.toNat a1 * 1)) = some (.int .u64 b6) ∧
 ap.cell? (a2.add 3) = some (.slice a3 a6 ag) ∧
 ap.cell? (a2.add 0) = some (.pointer b7) ∧
 Calls Tryz.prog 34 #[.pointer b7, .int .u64 b6, .slice a9 ab ac, .slice b1 b0 b3] ap fun bb b4 => ∃ (aa : Option Addr) (a0 aq : Nat) (a4 : Int), bb = .returned (.tuple #[.slice aa a0 aq, .int .i64 a4]) ∧
 (a4 ≠ 0 →
 R (.tuple #[]) b4) ∧
 (a4 = 0 →
 ((a0 : Int) ≠ 8 →
 R (.tuple #[]) b4) ∧
 ((a0 : Int) = 8 →
 ∃ (I2 : Nat → List Value → World → Prop) (bp : Nat), I2 bp [.int .i64 0] b4 ∧ ∀ (bo : Nat) (ad : World) (aw : Int), I2 bo [.int .i64 aw] ad →
 (aw < (a0 : Int) →
 ∃ bn : Addr, aa = some bn ∧
 0 ≤ (aw : Int) ∧ (aw : Int) < (a0 : Int) ∧
 ∃ (bk : Int), ad.cell? (bn.add (Int.toNat aw * 1)) = some (.int .u8 bk) ∧
 ∃ (al : Option Addr) (ao ar : Nat), ad.cell? (a2.add 3) = some (.slice al ao ar) ∧
 (-9223372036854775808 : Int) ≤ (a1 - 1) ∧ (a1 - 1) < 9223372036854775808 ∧
 ∃ (an : Option Addr) (am au : Nat), ad.cell? (a2.add 3) = some (.slice an am au) ∧
 (-9223372036854775808 : Int) ≤ (a1 - 1) ∧ (a1 - 1) < 9223372036854775808 ∧
 ∃ bg : Addr, an = some bg ∧
 0 ≤ ((a1 - 1) : Int) ∧ ((a1 - 1) : Int) < (am : Int) ∧
 ∃ (bj : Int), ad.cell? (bg.add (Int.toNat (a1 - 1) * 1)) = some (.int .u64 bj) ∧
 ∃ bd : Addr, al = some bd ∧
 0 ≤ ((a1 - 1) : Int) ∧ ((a1 - 1) : Int) < (ao : Int) ∧
 ∀ (az : World), Ext no ad az →
 Q0e az ((bd.add (Int.toNat (a1 - 1) * 1)).add 0) ∧
 thenW (az.setCell ((bd.add (Int.toNat (a1 - 1) * 1)).add 0) (.int .u64 (IntKind.u64.wrap ((BitVec.ofInt (IntKind.bits .u64) (IntKind.u64.wrap (bj * 256)) ||| BitVec.ofInt (IntKind.bits .u64) (IntKind.u64.wrap bk)).toNat)))) fun bc =>
 (-9223372036854775808 : Int) ≤ (aw + 1) ∧ (aw + 1) < 9223372036854775808 ∧
 ∃ bi, bi < bo ∧ I2 bi [.int .i64 (aw + 1)] bc) ∧
 ((a0 : Int) ≤ aw →
 (-9223372036854775808 : Int) ≤ (a1 - 1) ∧ (a1 - 1) < 9223372036854775808 ∧
 ∃ bl, bl < m7 ∧ I0 bl [.int .i64 (a1 - 1)] ad)))) ∧
 (ba ≠ 0 →
 R (.tuple #[]) aj)) ∧
 (bf = 0 →
 R (.tuple #[]) aj)) ∧
 (a1 ≤ 0 →
 R (.tuple #[]) aj)

theorem Q13.up (r1 : Option Addr) {R : RW} {w : World} (h : Q13.N r1 R w) : Q13.M r1 R w := by
  unfold Q13.M
  unfold Q13.N at h
  obtain ⟨a2, ay, h⟩ := h
  refine Q05 ay ?_
  obtain ⟨b0, az, b1, c6, h⟩ := h
  refine ⟨b0, az, b1, c6, ?_⟩
  obtain ⟨a5, a9, h⟩ := h
  try rw [w64 a5 a9]
  obtain ⟨I0, m6, h0, h⟩ := h
  refine ⟨I0, m6, h0, fun m7 c3 c5 hI => ?_⟩
  have h := h m7 c3 c5 hI
  refine bif_fo (fun c9 => ?_) (fun c9 => ?_)
  ·have h := h.2 (Int.not_lt.1 (of_decide_eq_false c9))
   exact h
  have h := h.1 (of_decide_eq_true c9)
  refine Q05 ay ?_
  obtain ⟨ak, aq, ag, bg, h⟩ := h
  refine ⟨ak, aq, ag, bg, ?_⟩
  obtain ⟨cu, be, h⟩ := h
  refine Q05 be ?_
  obtain ⟨a0, a1, h⟩ := h
  refine ⟨a0, a1, ?_⟩
  obtain ⟨cm, bh, h⟩ := h
  refine ⟨cm, bh, ?_⟩
  refine bif_fo (fun bs => ?_) (fun bs => ?_)
  ·have h := h.2 (bne_f bs)
   exact h
  have h := h.1 (bne_t bs)
  refine Q05 ay ?_
  obtain ⟨aj, an, al, bt, h⟩ := h
  refine ⟨aj, an, al, bt, ?_⟩
  obtain ⟨a5, a9, h⟩ := h
  try rw [w64 a5 a9]
  obtain ⟨cr, b6, h⟩ := h
  refine Q05 b6 ?_
  obtain ⟨a0, a1, h⟩ := h
  refine ⟨a0, a1, ?_⟩
  obtain ⟨cj, bm, h⟩ := h
  refine ⟨cj, bm, ?_⟩
  refine bif_fo (fun b3 => ?_) (fun b3 => ?_)
  ·have h := h.2 (beq_f b3)
   exact h
  have h := h.1 (beq_t b3)
  unfold Q13.J1
  refine Q01 fun bl ch => ?_
  have a3 := (Ext.refl no c3).x_drew ch
  refine Q05 ay ?_
  obtain ⟨cc, bc, h⟩ := h
  refine ⟨cc, (a3).cell bc id, ?_⟩
  refine Q05 ay ?_
  obtain ⟨ac, ae, ai, bv, h⟩ := h
  refine ⟨ac, ae, ai, (a3).cell bv id, ?_⟩
  obtain ⟨ct, bx, h⟩ := h
  refine Q05 bx ?_
  obtain ⟨a0, a1, h⟩ := h
  refine ⟨a0, a1, ?_⟩
  obtain ⟨cg, br, h⟩ := h
  refine ⟨cg, (a3).cell br id, ?_⟩
  refine Q05 ay ?_
  obtain ⟨ad, ax, aw, c2, h⟩ := h
  refine ⟨ad, ax, aw, (a3).cell c2 id, ?_⟩
  obtain ⟨cs, b7, h⟩ := h
  refine Q05 b7 ?_
  obtain ⟨a0, a1, h⟩ := h
  refine ⟨a0, a1, ?_⟩
  obtain ⟨bf, bk, bq, bj, h⟩ := h
  refine ⟨bf, bk, bq, (a3).cell bj id, ?_⟩
  have h := h bl a3
  refine h.mono fun cl cp h => ?_
  obtain ⟨a6, a7, a8, he, h⟩ := h
  refine ⟨a6, a7, a8, he, ?_⟩
  obtain ⟨bb, b8, bp, c0, ba, h⟩ := h
  refine ⟨bb, b8, bp, c0, ba, ?_⟩
  refine h.mono fun cd co h => ?_
  obtain ⟨ab, a4, aa, ah, he, h⟩ := h
  refine ⟨ab, a4, aa, ah, he, ?_⟩
  refine bif_of (fun b4 => ?_) (fun b4 => ?_)
  ·have h := h.1 (bne_t b4)
   exact h
  have h := h.2 (bne_f b4)
  refine bif_of (fun bw => ?_) (fun bw => ?_)
  ·have h := h.1 (bne_t bw)
   exact h
  have h := h.2 (bne_f bw)
  obtain ⟨I2, ce, h0, h⟩ := h
  refine ⟨I2, ce, h0, fun cf b2 cb hI => ?_⟩
  have h := h cf b2 cb hI
  refine bif_fo (fun bn => ?_) (fun bn => ?_)
  ·have h := h.2 (Int.not_lt.1 (of_decide_eq_false bn))
   obtain ⟨a5, a9, h⟩ := h
   try rw [w64 a5 a9]
   obtain ⟨c7, hk, h⟩ := h
   exact ⟨c7, hk, h⟩
  have h := h.1 (of_decide_eq_true bn)
  obtain ⟨cq, bu, h⟩ := h
  refine Q05 bu ?_
  obtain ⟨a0, a1, h⟩ := h
  refine ⟨a0, a1, ?_⟩
  obtain ⟨c8, c1, h⟩ := h
  refine ⟨c8, c1, ?_⟩
  refine Q01 fun b5 ck => ?_
  have ao := (Ext.refl no b2).x_drew ck
  refine Q05 ay ?_
  obtain ⟨am, av, ar, bz, h⟩ := h
  refine ⟨am, av, ar, (ao).cell bz id, ?_⟩
  obtain ⟨a5, a9, h⟩ := h
  try rw [w64 a5 a9]
  refine Q05 ay ?_
  obtain ⟨ap, af, au, b9, h⟩ := h
  refine ⟨ap, af, au, (ao).cell b9 id, ?_⟩
  obtain ⟨a5, a9, h⟩ := h
  try rw [w64 a5 a9]
  obtain ⟨cv, bd, h⟩ := h
  refine Q05 bd ?_
  obtain ⟨a0, a1, h⟩ := h
  refine ⟨a0, a1, ?_⟩
  obtain ⟨c4, bi, h⟩ := h
  refine ⟨c4, (ao).cell bi id, ?_⟩
  refine ⟨by decide, ?_⟩
  try rw [show (2 ^ (min (Int.toNat 8) (IntKind.bits .u64)) : Int) = 256 from rfl]
  obtain ⟨cw, bo, h⟩ := h
  refine Q05 bo ?_
  obtain ⟨a0, a1, h⟩ := h
  refine ⟨a0, a1, ?_⟩
  have h := h b5 ao
  obtain ⟨hcs, h⟩ := h
  refine ⟨hcs, Q01 fun ca cn => ?_⟩
  replace h := Q1l h cn
  obtain ⟨a5, a9, h⟩ := h
  try rw [w64 a5 a9]
  obtain ⟨ci, hk, h⟩ := h
  exact ⟨ci, hk, h⟩

theorem Q13.go (r1 : Option Addr) {R : RW} {w : World} (h : Q13.N r1 R w) : Calls Tryz.prog 66 #[.pointer r1] w fun e w' => ∃ v, e = .returned v ∧ R v w' := Q13.ok r1 (Q13.up r1 h)
def Q0M.M (a1 : Int) (a6 : Option Addr) (a5 a7 : Nat) (a4 : Addr) (R : RW) (w : World) : Prop :=
 thenW (w.alloc (.cells #[.int .i64 a1, .slice a6 a5 a7] 116)) fun a9 =>
 thenW (a9.drew) fun a3 =>
 ∃ (a0 : Int), a3.cell? ((blk w.heap.size).add 0) = some (.int .i64 a0) ∧
 ∃ (x7 : Option Addr), a3.cell? a4 = some (.pointer x7) ∧
 x7.elim False fun a8 =>
 ∃ (a2 : Int), a3.cell? (a8.add 1) = some (.int .i64 a2) ∧
 R (.bool (a0 == a2)) a3

theorem Q0M.ok (a0 : Int) (a3 : Option Addr) (a2 a4 : Nat) (a1 : Addr) {R : RW} {w : World} (h : Q0M.M a0 a3 a2 a4 a1 R w) : Calls Tryz.prog 62 #[.agg #[.int .i64 a0, .slice a3 a2 a4], .pointer (some a1)] w fun e w' => ∃ v, e = .returned v ∧ R v w' :=
  Q0i follows (H := []) (args := [.agg #[.int .i64 a0, .slice a3 a2 a4], .pointer (some a1)]) (cast (by kernel_rfl) h)

def Q0M.N (a1 : Int) (a5 : Option Addr) (a4 a6 : Nat) (a2 : Addr) (R : RW) (w : World) : Prop :=
 ∃ (x7 : Option Addr), w.cell? a2 = some (.pointer x7) ∧
 ∃ a8 : Addr, x7 = some a8 ∧
 ∃ (a0 : Int), w.cell? (a8.add 1) = some (.int .i64 a0) ∧
 ∀ (a3 : World), Ext no w a3 →
 R (.bool (a1 == a0)) a3

theorem Q0M.up (a0 : Int) (a4 : Option Addr) (a3 a5 : Nat) (a2 : Addr) {R : RW} {w : World} (h : Q0M.N a0 a4 a3 a5 a2 R w) : Q0M.M a0 a4 a3 a5 a2 R w := by
  unfold Q0M.M
  unfold Q0M.N at h
  refine Q01 fun af e4 => ?_
  have a7 := Blk.of_new e4
  have ae := ((Ext.refl no w)).size
  have ad := (Ext.refl no w).x_alloc e4
  refine Q01 fun ab e5 => ?_
  have a6 := ad.x_drew e5
  have a7 := a7.x_drew e5
  refine ⟨a0, a7.celli 0 rfl rfl, ?_⟩
  obtain ⟨x7, ac, h⟩ := h
  refine ⟨x7, (a6).cell ac id, ?_⟩
  obtain ⟨a8, a9, h⟩ := h
  refine Q05 a9 ?_
  obtain ⟨a1, aa, h⟩ := h
  refine ⟨a1, (a6).cell aa id, ?_⟩
  have h := h ab a6
  exact h

theorem Q0M.go (a0 : Int) (a3 : Option Addr) (a2 a4 : Nat) (a1 : Addr) {R : RW} {w : World} (h : Q0M.N a0 a3 a2 a4 a1 R w) : Calls Tryz.prog 62 #[.agg #[.int .i64 a0, .slice a3 a2 a4], .pointer (some a1)] w fun e w' => ∃ v, e = .returned v ∧ R v w' := Q0M.ok a0 a3 a2 a4 a1 (Q0M.up a0 a3 a2 a4 a1 h)
theorem Q0M.run (a0 : Int) (a3 : Option Addr) (a2 a4 : Nat) (a1 : Addr) {V : Value} {Q : World → Prop} {w : World} (h : Q0M.N a0 a3 a2 a4 a1 (fun v w' => v = V ∧ Q w') w) : Calls Tryz.prog 62 #[.agg #[.int .i64 a0, .slice a3 a2 a4], .pointer (some a1)] w (Ret V Q) := (Q0M.go a0 a3 a2 a4 a1 h).mono fun e w' ⟨v, he, hv, hq⟩ => ⟨by rw [he, hv], hq⟩

def Q07.M (ag : Option Addr) (af ah a9 : Nat) (ad ab : Array Value) (R : RW) (w : World) : Prop :=
 ∃ (I0 : Nat → List Value → World → Prop) (m4 : Nat), I0 m4 [.int .i64 0] w ∧ ∀ (m5 : Nat) (a8 : World) (t3 : Int), I0 m5 [.int .i64 t3] a8 →
 bif decide (t3 < (af : Int)) then (
 ag.elim False fun a7 =>
 0 ≤ (t3 : Int) ∧ (t3 : Int) < (af : Int) ∧
 ∃ (a0 : Int) (a1 : Option Addr) (a2 a3 : Nat), cellsAt a8 (a7.add (Int.toNat t3 * 2)) [.int .i64 a0, .slice a1 a2 a3] 0 ∧
 bif enters Tryz.prog a9 then Calls Tryz.prog a9 (ad.toList ++ ([.agg #[.int .i64 a0, .slice a1 a2 a3]] : List Value) ++ ab.toList).toArray a8 (fun aa a5 => ∃ (a6 : Bool), aa = .returned (.bool a6) ∧
 bif a6 then (
 R (.int .i64 t3) a5) else (
 ∃ ac, ac < m5 ∧ I0 ac [.int .i64 (IntKind.i64.wrap (t3 + 1))] a5)) else (∃ (a6 : Bool) (a4 : World), (Q1t a9 (ad.toList ++ ([.agg #[.int .i64 a0, .slice a1 a2 a3]] : List Value) ++ ab.toList).toArray).run Tryz.prog a8 = .ok (.bool a6) a4 ∧
 bif a6 then (
 R (.int .i64 t3) a4) else (
 ∃ ae, ae < m5 ∧ I0 ae [.int .i64 (IntKind.i64.wrap (t3 + 1))] a4))) else (
 R (.int .i64 (-1)) a8)

theorem Q07.ok (a4 : Option Addr) (a2 a5 a3 : Nat) (a1 a0 : Array Value) {R : RW} {w : World} (h : Q07.M a4 a2 a5 a3 a1 a0 R w) : Calls Tryz.prog 63 #[.slice a4 a2 a5, .func (.func a3) a1 a0] w fun e w' => ∃ v, e = .returned v ∧ R v w' :=
  Q0i follows (H := [(0, [0, 1, 7], [(8, (.one (.int .i64)))])]) (args := [.slice a4 a2 a5, .func (.func a3) a1 a0]) (cast (by kernel_rfl) h)

def Q07.N (ae : Option Addr) (a9 af ab : Nat) (ad ac : Array Value) (R : RW) (w : World) : Prop :=
 ∃ (I0 : Nat → List Value → World → Prop) (m4 : Nat), I0 m4 [.int .i64 0] w ∧ ∀ (m5 : Nat) (a5 : World) (t3 : Int), I0 m5 [.int .i64 t3] a5 →
 (t3 < (a9 : Int) →
 ∃ a8 : Addr, ae = some a8 ∧
 0 ≤ (t3 : Int) ∧ (t3 : Int) < (a9 : Int) ∧
 ∃ (a0 : Int) (a2 : Option Addr) (a1 a3 : Nat), cellsAt a5 (a8.add (Int.toNat t3 * 2)) [.int .i64 a0, .slice a2 a1 a3] 0 ∧
 enters Tryz.prog ab = true ∧ Calls Tryz.prog ab (ad.toList ++ ([.agg #[.int .i64 a0, .slice a2 a1 a3]] : List Value) ++ ac.toList).toArray a5 (fun a7 a4 => ∃ (a6 : Bool), a7 = .returned (.bool a6) ∧
 (a6 = true →
 R (.int .i64 t3) a4) ∧
 (a6 = false →
 (-9223372036854775808 : Int) ≤ (t3 + 1) ∧ (t3 + 1) < 9223372036854775808 ∧
 ∃ aa, aa < m5 ∧ I0 aa [.int .i64 (t3 + 1)] a4))) ∧
 ((a9 : Int) ≤ t3 →
 R (.int .i64 (-1)) a5)

theorem Q07.up (a5 : Option Addr) (a9 aa ab : Nat) (a7 a6 : Array Value) {R : RW} {w : World} (h : Q07.N a5 a9 aa ab a7 a6 R w) : Q07.M a5 a9 aa ab a7 a6 R w := by
  unfold Q07.M
  unfold Q07.N at h
  obtain ⟨I0, m4, h0, h⟩ := h
  refine ⟨I0, m4, h0, fun m5 ad t3 hI => ?_⟩
  have h := h m5 ad t3 hI
  refine bif_fo (fun c7 => ?_) (fun c7 => ?_)
  ·have h := h.2 (Int.not_lt.1 (of_decide_eq_false c7))
   exact h
  have h := h.1 (of_decide_eq_true c7)
  obtain ⟨a8, ac, h⟩ := h
  refine Q05 ac ?_
  obtain ⟨ah, ai, h⟩ := h
  refine ⟨ah, ai, ?_⟩
  obtain ⟨a0, a3, a1, a2, am, h⟩ := h
  refine ⟨a0, a3, a1, a2, am, ?_⟩
  obtain ⟨hen, h⟩ := h
  refine bif_tt hen ?_
  refine h.mono fun ae aj h => ?_
  obtain ⟨ak, he, h⟩ := h
  refine ⟨ak, he, ?_⟩
  refine bif_of (fun a4 => ?_) (fun a4 => ?_)
  ·have h := h.1 a4
   exact h
  have h := h.2 a4
  obtain ⟨al, ag, h⟩ := h
  try rw [w64 al ag]
  obtain ⟨af, hk, h⟩ := h
  exact ⟨af, hk, h⟩

theorem Q07.go (a4 : Option Addr) (a2 a5 a3 : Nat) (a1 a0 : Array Value) {R : RW} {w : World} (h : Q07.N a4 a2 a5 a3 a1 a0 R w) : Calls Tryz.prog 63 #[.slice a4 a2 a5, .func (.func a3) a1 a0] w fun e w' => ∃ v, e = .returned v ∧ R v w' := Q07.ok a4 a2 a5 a3 a1 a0 (Q07.up a4 a2 a5 a3 a1 a0 h)
theorem Q07.run (a4 : Option Addr) (a2 a5 a3 : Nat) (a1 a0 : Array Value) {V : Value} {Q : World → Prop} {w : World} (h : Q07.N a4 a2 a5 a3 a1 a0 (fun v w' => v = V ∧ Q w') w) : Calls Tryz.prog 63 #[.slice a4 a2 a5, .func (.func a3) a1 a0] w (Ret V Q) := (Q07.go a4 a2 a5 a3 a1 a0 h).mono fun e w' ⟨v, he, hv, hq⟩ => ⟨by rw [he, hv], hq⟩

abbrev Q0m.J1 (au : Int) (ar a7 : Addr) (R : RW) (al : World) : Prop :=
 thenW (al.drew) fun a8 =>
 ∃ (ae : Option Addr), a8.cell? a7 = some (.pointer ae) ∧
 ∃ (af : Option Addr), a8.cell? a7 = some (.pointer af) ∧
 af.elim False fun ak =>
 ∃ (a0 : Option Addr) (a1 a2 : Nat), a8.cell? (ak.add 4) = some (.slice a0 a1 a2) ∧
 ∃ (ad : Option Addr) (a9 ac : Nat), a8.cell? (ar.add 5) = some (.slice ad a9 ac) ∧
 Calls Tryz.prog 65 #[.slice ad a9 ac] a8 fun an a6 => ∃ (a4 : Option Addr) (a3 a5 : Nat), an = .returned (.slice a4 a3 a5) ∧
 a6.cell? (ak.add 4) = some (.slice a0 a1 a2) ∧
 a6.cell? a7 = some (.pointer af) ∧
 a6.cell? a7 = some (.pointer ae) ∧
 thenW (a6.alloc (.cells #[.slice a4 a3 a5] 25)) fun aa =>
 aa.cell? (ak.add 4) = some (.slice a0 a1 a2) ∧
 aa.cell? a7 = some (.pointer af) ∧
 aa.cell? a7 = some (.pointer ae) ∧
 ∃ (ag : Option Addr) (aj ah : Nat) (ab : World), (Builtin.append_ #[59, 59] 59 #[.slice a0 a1 a2, .slice (some (blk a6.heap.size)) 1 1]).run Tryz.prog aa = .ok (.slice ag aj ah) ab ∧
 ab.cell? a7 = some (.pointer ae) ∧
 ae.elim False fun am =>
 Q0e ab ((am.add 4).add 0) ∧
 thenW (ab.setCell ((am.add 4).add 0) (.slice ag aj ah)) fun ai =>
 ∃ (ao : Option Addr), ai.cell? a7 = some (.pointer ao) ∧
 Calls Tryz.prog 66 #[.pointer ao] ai fun aq ap => aq = .returned (.tuple #[]) ∧
 R (.int .i64 au) ap

abbrev Q0m.J2 (ah ai : Int) (ag a6 : Addr) (R : RW) (af : World) : Prop :=
 thenW (af.drew) fun a3 =>
 ∃ (a7 : Option Addr), a3.cell? a6 = some (.pointer a7) ∧
 ∃ (ab : Option Addr), a3.cell? a6 = some (.pointer ab) ∧
 ab.elim False fun ad =>
 ∃ (a2 : Option Addr) (a1 a0 : Nat), a3.cell? (ad.add 3) = some (.slice a2 a1 a0) ∧
 thenW (a3.alloc (.cells #[.int .u64 ai] 26)) fun a5 =>
 a5.cell? (ad.add 3) = some (.slice a2 a1 a0) ∧
 a5.cell? a6 = some (.pointer ab) ∧
 a5.cell? a6 = some (.pointer a7) ∧
 ∃ (aa : Option Addr) (a8 a9 : Nat) (a4 : World), (Builtin.append_ #[22, 22] 22 #[.slice a2 a1 a0, .slice (some (blk a3.heap.size)) 1 1]).run Tryz.prog a5 = .ok (.slice aa a8 a9) a4 ∧
 a4.cell? a6 = some (.pointer a7) ∧
 a7.elim False fun ae =>
 Q0e a4 ((ae.add 3).add 0) ∧
 thenW (a4.setCell ((ae.add 3).add 0) (.slice aa a8 a9)) fun ac =>
 Q0m.J1 ah ag a6 R ac

abbrev Q0m.J3 (ah ac : Addr) (R : RW) (ae : World) : Prop :=
 ∃ (a1 : Option Addr) (a6 a8 : Nat), ae.cell? (ah.add 4) = some (.slice a1 a6 a8) ∧
 Calls Tryz.prog 63 #[.slice a1 a6 a8, .func (.func 62) #[] #[.pointer (some ac)]] ae fun aj ag => ∃ (a0 : Int), aj = .returned (.int .i64 a0) ∧
 bif decide (a0 ≥ 0) then (
 thenW (ag.drew) fun a9 =>
 ∃ (an : Option Addr), a9.cell? ac = some (.pointer an) ∧
 an.elim False fun ao =>
 ∃ (am : Option Addr), a9.cell? (ao.add 0) = some (.pointer am) ∧
 ∃ (al : Option Addr), a9.cell? ac = some (.pointer al) ∧
 al.elim False fun aq =>
 ∃ (a3 : Int), a9.cell? (aq.add 2) = some (.int .u64 a3) ∧
 ∃ (a5 : Option Addr) (a2 aa : Nat), a9.cell? (ah.add 4) = some (.slice a5 a2 aa) ∧
 a5.elim False fun ap =>
 0 ≤ (a0 : Int) ∧ (a0 : Int) < (a2 : Int) ∧
 ∃ (af : Option Addr) (ab ad : Nat), a9.cell? ((ap.add (Int.toNat a0 * 2)).add 1) = some (.slice af ab ad) ∧
 Calls Tryz.prog 64 #[.pointer am, .int .u64 a3, .slice af ab ad] a9 fun ai ak => ∃ (a4 a7 : Int), ai = .returned (.tuple #[.int .u64 a4, .int .i64 a7]) ∧
 Q0m.J2 a7 a4 ah ac R ak) else (
 Q0m.J2 11 0 ah ac R ag)

def Q0m.M (r1 : Option Addr) (al aq ag ak : Int) (ae : Option Addr) (ah af : Nat) (an : Option Addr) (am ao : Nat) (R : RW) (w : World) : Prop :=
 thenW (w.alloc (.cells #[.pointer r1] 39)) fun ar =>
 thenW (ar.alloc (.cells #[.int .i64 al, .int .i64 aq, .int .u64 ag, .int .i64 ak, .slice ae ah af, .slice an am ao] 72)) fun ap =>
 ∃ (aw : Option Addr), ap.cell? (blk w.heap.size) = some (.pointer aw) ∧
 bif Option.isNone aw then (
 R (.int .i64 23) ap) else (
 ∃ (ab : Int), ap.cell? ((blk ar.heap.size).add 0) = some (.int .i64 ab) ∧
 bif ab != 3 then (
 R (.int .i64 1) ap) else (
 ∃ (a8 ac a0 a4 : Int) (a3 : Option Addr) (a1 a2 : Nat) (a9 : Option Addr) (a6 a7 : Nat), cellsAt ap (blk ar.heap.size) [.int .i64 a8, .int .i64 ac, .int .u64 a0, .int .i64 a4, .slice a3 a1 a2, .slice a9 a6 a7] 0 ∧
 Calls Tryz.prog 55 #[.agg #[.int .i64 a8, .int .i64 ac, .int .u64 a0, .int .i64 a4, .slice a3 a1 a2, .slice a9 a6 a7]] ap fun au ad => ∃ (a5 : Bool), au = .returned (.bool a5) ∧
 bif !a5 then (
 R (.int .i64 1) ad) else (
 ∃ (av : Option Addr), ad.cell? (blk w.heap.size) = some (.pointer av) ∧
 av.elim False fun ax =>
 ∃ (ai : Option Addr) (aa aj : Nat), ad.cell? (ax.add 3) = some (.slice ai aa aj) ∧
 bif decide ((aa : Int) ≥ 20) then (
 R (.int .i64 3) ad) else (
 Q0m.J3 (blk ar.heap.size) (blk w.heap.size) R ad))))

theorem Q0m.ok (r1 : Option Addr) (a6 a9 a3 a4 : Int) (a1 : Option Addr) (a2 a0 : Nat) (a5 : Option Addr) (a8 a7 : Nat) {R : RW} {w : World} (h : Q0m.M r1 a6 a9 a3 a4 a1 a2 a0 a5 a8 a7 R w) : Calls Tryz.prog 25 #[.pointer r1, .agg #[.int .i64 a6, .int .i64 a9, .int .u64 a3, .int .i64 a4, .slice a1 a2 a0, .slice a5 a8 a7]] w fun e w' => ∃ v, e = .returned v ∧ R v w' :=
  Q0i follows (H := []) (args := [.pointer r1, .agg #[.int .i64 a6, .int .i64 a9, .int .u64 a3, .int .i64 a4, .slice a1 a2 a0, .slice a5 a8 a7]]) (cast (by kernel_rfl) h)

def Q0m.N (r1 : Option Addr) (b0 c4 ba bl : Int) (ae : Option Addr) (ad au : Nat) (b5 : Option Addr) (b2 b1 : Nat) (R : RW) (w : World) : Prop :=
 ∀ (bo : World) (q9 : Nat), Ext no w bo → Blk bo q9 39 [.pointer r1] → w.heap.size ≤ q9 → q9 < bo.heap.size →
 ∃ (cx : Option Addr), bo.cell? (blk q9) = some (.pointer cx) ∧
 (cx = none →
 ∀ (af : World), Ext no bo af →
 R (.int .i64 23) af) ∧
 (cx ≠ none →
 (b0 ≠ 3 →
 ∀ (af : World), Ext no bo af →
 R (.int .i64 1) af) ∧
 (b0 = 3 →
 ∀ (af : World) (bp : Nat), Ext no bo af → Priv bo af [bp] →
 Calls Tryz.prog 55 #[.agg #[.int .i64 b0, .int .i64 c4, .int .u64 ba, .int .i64 bl, .slice ae ad au, .slice b5 b2 b1]] af fun cu b3 => ∃ (ak : Bool), cu = .returned (.bool ak) ∧
 Keep [bp] af b3 ∧
 (ak = false →
 R (.int .i64 1) b3) ∧
 (ak = true →
 ∃ (d7 : Option Addr), b3.cell? (blk q9) = some (.pointer d7) ∧
 ∃ d5 : Addr, d7 = some d5 ∧
 ∃ (bd : Option Addr) (aj bj : Nat), b3.cell? (d5.add 3) = some (.slice bd aj bj) ∧
 ((aj : Int) ≥ 20 →
 R (.int .i64 3) b3) ∧
 ((aj : Int) < 20 →
 Calls Tryz.prog 63 #[.slice ae ad au, .func (.func 62) #[] #[.pointer (some (blk q9))]] b3 fun cr a5 => ∃ (a0 : Int), cr = .returned (.int .i64 a0) ∧
 Keep [bp] b3 a5 ∧
 (a0 ≥ 0 →
 ∃ (d4 : Option Addr), a5.cell? (blk q9) = some (.pointer d4) ∧
 ∃ d0 : Addr, d4 = some d0 ∧
 ∃ (d1 : Option Addr), a5.cell? (d0.add 0) = some (.pointer d1) ∧
 ∃ (d8 : Option Addr), a5.cell? (blk q9) = some (.pointer d8) ∧
 ∃ d2 : Addr, d8 = some d2 ∧
 ∃ (aw : Int), a5.cell? (d2.add 2) = some (.int .u64 aw) ∧
 ∃ d3 : Addr, ae = some d3 ∧
 0 ≤ (a0 : Int) ∧ (a0 : Int) < (ad : Int) ∧
 ∃ (c2 : Option Addr) (ca cf : Nat), a5.cell? ((d3.add (Int.toNat a0 * 2)).add 1) = some (.slice c2 ca cf) ∧
 ∀ (bx : World), Ext no a5 bx →
 Calls Tryz.prog 64 #[.pointer d1, .int .u64 aw, .slice c2 ca cf] bx fun cz b8 => ∃ (ao ap : Int), cz = .returned (.tuple #[.int .u64 ao, .int .i64 ap]) ∧
 Keep [bp] bx b8 ∧
 ∃ (cn : Option Addr), b8.cell? (blk q9) = some (.pointer cn) ∧
 ∃ (ct : Option Addr), b8.cell? (blk q9) = some (.pointer ct) ∧
 ∃ cw : Addr, ct = some cw ∧
 ∃ (al : Option Addr) (am an : Nat), b8.cell? (cw.add 3) = some (.slice al am an) ∧
 ∀ (ay : World) (cp : Nat), Ext no b8 ay → Blk ay cp 26 [.int .u64 ao] → b8.heap.size ≤ cp → cp < ay.heap.size →
 ay.cell? (cw.add 3) = some (.slice al am an) ∧
 ay.cell? (blk q9) = some (.pointer ct) ∧
 ay.cell? (blk q9) = some (.pointer cn) ∧
 ∃ (c8 : Option Addr) (cd c9 : Nat) (bb : World), (Builtin.append_ #[22, 22] 22 #[.slice al am an, .slice (some (blk cp)) 1 1]).run Tryz.prog ay = .ok (.slice c8 cd c9) bb ∧
 Keep [bp] ay bb ∧
 bb.cell? (blk q9) = some (.pointer cn) ∧
 ∃ cl : Addr, cn = some cl ∧
 Q0e bb ((cl.add 3).add 0) ∧
 (∀ p ∈ [bp], p ≠ Addr.block (cl.add 3)) ∧
 thenW (bb.setCell ((cl.add 3).add 0) (.slice c8 cd c9)) fun bm =>
 ∃ (c6 : Option Addr), bm.cell? (blk q9) = some (.pointer c6) ∧
 ∃ (cm : Option Addr), bm.cell? (blk q9) = some (.pointer cm) ∧
 ∃ ck : Addr, cm = some ck ∧
 ∃ (a7 : Option Addr) (a6 a8 : Nat), bm.cell? (ck.add 4) = some (.slice a7 a6 a8) ∧
 ∀ (cb : World), Ext no bm cb →
 Calls Tryz.prog 65 #[.slice b5 b2 b1] cb fun cq bc => ∃ (az : Option Addr) (ar ax : Nat), cq = .returned (.slice az ar ax) ∧
 bc.cell? (ck.add 4) = some (.slice a7 a6 a8) ∧
 bc.cell? (blk q9) = some (.pointer cm) ∧
 bc.cell? (blk q9) = some (.pointer c6) ∧
 ∀ (b4 : World) (cj : Nat), Ext no bc b4 → Blk b4 cj 25 [.slice az ar ax] → bc.heap.size ≤ cj → cj < b4.heap.size →
 b4.cell? (ck.add 4) = some (.slice a7 a6 a8) ∧
 b4.cell? (blk q9) = some (.pointer cm) ∧
 b4.cell? (blk q9) = some (.pointer c6) ∧
 ∃ (ce : Option Addr) (c3 cc : Nat) (bg : World), (Builtin.append_ #[59, 59] 59 #[.slice a7 a6 a8, .slice (some (blk cj)) 1 1]).run Tryz.prog b4 = .ok (.slice ce c3 cc) bg ∧
 bg.cell? (blk q9) = some (.pointer c6) ∧
 ∃ cs : Addr, c6 = some cs ∧
 Q0e bg ((cs.add 4).add 0) ∧
 thenW (bg.setCell ((cs.add 4).add 0) (.slice ce c3 cc)) fun ch =>
 ∃ (d6 : Option Addr), ch.cell? (blk q9) = some (.pointer d6) ∧
 Calls Tryz.prog 66 #[.pointer d6] ch fun cy cv => cy = .returned (.tuple #[]) ∧
 R (.int .i64 ap) cv) ∧
 (a0 < 0 →
 ∃ (co : Option Addr), a5.cell? (blk q9) = some (.pointer co) ∧
 ∃ (c1 : Option Addr), a5.cell? (blk q9) = some (.pointer c1) ∧
 ∃ bz : Addr, c1 = some bz ∧
 ∃ (ab : Option Addr) (a9 ac : Nat), a5.cell? (bz.add 3) = some (.slice ab a9 ac) ∧
 ∀ (a4 : World) (bi : Nat), Ext no a5 a4 → Blk a4 bi 26 [.int .u64 0] → a5.heap.size ≤ bi → bi < a4.heap.size →
 a4.cell? (bz.add 3) = some (.slice ab a9 ac) ∧
 a4.cell? (blk q9) = some (.pointer c1) ∧
 a4.cell? (blk q9) = some (.pointer co) ∧
 ∃ (bu : Option Addr) (bt bn : Nat) (aq : World), (Builtin.append_ #[22, 22] 22 #[.slice ab a9 ac, .slice (some (blk bi)) 1 1]).run Tryz.prog a4 = .ok (.slice bu bt bn) aq ∧
 Keep [bp] a4 aq ∧
 aq.cell? (blk q9) = some (.pointer co) ∧
 ∃ bh : Addr, co = some bh ∧
 Q0e aq ((bh.add 3).add 0) ∧
 (∀ p ∈ [bp], p ≠ Addr.block (bh.add 3)) ∧
 thenW (aq.setCell ((bh.add 3).add 0) (.slice bu bt bn)) fun b6 =>
 ∃ (b9 : Option Addr), b6.cell? (blk q9) = some (.pointer b9) ∧
 ∃ (be : Option Addr), b6.cell? (blk q9) = some (.pointer be) ∧
 ∃ bk : Addr, be = some bk ∧
 ∃ (a3 : Option Addr) (a2 a1 : Nat), b6.cell? (bk.add 4) = some (.slice a3 a2 a1) ∧
 ∀ (bs : World), Ext no b6 bs →
 Calls Tryz.prog 65 #[.slice b5 b2 b1] bs fun c5 av => ∃ (ag : Option Addr) (ai ah : Nat), c5 = .returned (.slice ag ai ah) ∧
 av.cell? (bk.add 4) = some (.slice a3 a2 a1) ∧
 av.cell? (blk q9) = some (.pointer be) ∧
 av.cell? (blk q9) = some (.pointer b9) ∧
 ∀ (aa : World) (bf : Nat), Ext no av aa → Blk aa bf 25 [.slice ag ai ah] → av.heap.size ≤ bf → bf < aa.heap.size →
 aa.cell? (bk.add 4) = some (.slice a3 a2 a1) ∧
 aa.cell? (blk q9) = some (.pointer be) ∧
 aa.cell? (blk q9) = some (.pointer b9) ∧
 ∃ (bq : Option Addr) (br bw : Nat) (b7 : World), (Builtin.append_ #[59, 59] 59 #[.slice a3 a2 a1, .slice (some (blk bf)) 1 1]).run Tryz.prog aa = .ok (.slice bq br bw) b7 ∧
 b7.cell? (blk q9) = some (.pointer b9) ∧
 ∃ c0 : Addr, b9 = some c0 ∧
 Q0e b7 ((c0.add 4).add 0) ∧
 thenW (b7.setCell ((c0.add 4).add 0) (.slice bq br bw)) fun bv =>
 ∃ (cg : Option Addr), bv.cell? (blk q9) = some (.pointer cg) ∧
 Calls Tryz.prog 66 #[.pointer cg] bv fun c7 ci => c7 = .returned (.tuple #[]) ∧
 R (.int .i64 11) ci)))))

theorem Q0m.up (r1 : Option Addr) (a8 ah a5 a9 : Int) (a3 : Option Addr) (a2 a1 : Nat) (a7 : Option Addr) (a6 a4 : Nat) {R : RW} {w : World} (h : Q0m.N r1 a8 ah a5 a9 a3 a2 a1 a7 a6 a4 R w) : Q0m.M r1 a8 ah a5 a9 a3 a2 a1 a7 a6 a4 R w := by
  unfold Q0m.M
  unfold Q0m.N at h
  refine Q01 fun ce e8 => ?_
  have h := h ce w.heap.size ((Ext.refl no w).x_alloc e8) (Blk.of_new e8) ((Ext.refl no w)).size (Q0A e8)
  refine Q01 fun bb eh => ?_
  have a0 := Blk.of_new eh
  have f7 := ((Ext.refl no ce)).size
  have b5 := (Ext.refl no ce).x_alloc eh
  obtain ⟨fa, d2, h⟩ := h
  refine ⟨fa, (b5).cell d2 id, ?_⟩
  refine bif_of (fun cz => ?_) (fun cz => ?_)
  ·have h := h.1 (Q1T cz)
   have h := h bb b5
   exact h
  have h := h.2 (Q1O cz)
  refine ⟨a8, a0.celli 0 rfl rfl, ?_⟩
  refine bif_of (fun du => ?_) (fun du => ?_)
  ·have h := h.1 (bne_t du)
   have h := h bb b5
   exact h
  have h := h.2 (bne_f du)
  refine ⟨a8, ah, a5, a9, a3, a2, a1, a7, a6, a4, ⟨a0.celli 0 rfl rfl, a0.celli 1 rfl rfl, a0.celli 2 rfl rfl, a0.celli 3 rfl rfl, a0.celli 4 rfl rfl, a0.celli 5 rfl rfl, trivial⟩, ?_⟩
  have h := h bb (ce.heap.size) b5 (Priv.cons f7 a0.lt Priv.nil)
  refine h.mono fun f0 f6 h => ?_
  obtain ⟨b2, he, hk, h⟩ := h
  refine ⟨b2, he, ?_⟩
  have a0 := hk.blk a0 (by simp)
  refine bif_of (fun cg => ?_) (fun cg => ?_)
  ·have h := h.1 (not_t cg)
   exact h
  have h := h.2 (not_f cg)
  obtain ⟨f5, dj, h⟩ := h
  refine ⟨f5, dj, ?_⟩
  obtain ⟨fj, ch, h⟩ := h
  refine Q05 ch ?_
  obtain ⟨ay, az, b4, e5, h⟩ := h
  refine ⟨ay, az, b4, e5, ?_⟩
  refine bif_of (fun d4 => ?_) (fun d4 => ?_)
  ·have h := h.1 (of_decide_eq_true d4)
   exact h
  have h := h.2 (Int.not_le.1 (of_decide_eq_false d4))
  unfold Q0m.J3
  refine ⟨a3, a2, a1, a0.celli 4 rfl rfl, ?_⟩
  refine h.mono fun es bl h => ?_
  obtain ⟨aa, he, hk, h⟩ := h
  refine ⟨aa, he, ?_⟩
  have a0 := hk.blk a0 (by simp)
  refine bif_fo (fun cu => ?_) (fun cu => ?_)
  ·have h := h.2 (Int.not_le.1 (of_decide_eq_false cu))
   unfold Q0m.J2
   refine Q01 fun di eg => ?_
   have au := (Ext.refl no bl).x_drew eg
   have a0 := a0.x_drew eg
   obtain ⟨f1, ci, h⟩ := h
   refine ⟨f1, (au).cell ci id, ?_⟩
   obtain ⟨ds, dy, h⟩ := h
   refine ⟨ds, (au).cell dy id, ?_⟩
   obtain ⟨er, c8, h⟩ := h
   refine Q05 c8 ?_
   obtain ⟨an, ai, ao, cd, h⟩ := h
   refine ⟨an, ai, ao, (au).cell cd id, ?_⟩
   refine Q01 fun c5 ba => ?_
   have a0 := a0.x_alloc ba
   have h := h c5 di.heap.size (au.x_alloc ba) (Blk.of_new ba) (au).size (Q0A ba)
   obtain ⟨c0, cb, c3, h⟩ := h
   refine ⟨c0, cb, c3, ?_⟩
   obtain ⟨c1, bw, bg, bz, hr, hk, h⟩ := h
   refine ⟨c1, bw, bg, bz, hr, ?_⟩
   have a0 := hk.blk a0 (by simp)
   obtain ⟨be, h⟩ := h
   refine ⟨be, ?_⟩
   obtain ⟨eq, c6, h⟩ := h
   refine Q05 c6 ?_
   obtain ⟨hcs, hof, h⟩ := h
   refine ⟨hcs, Q01 fun bt c9 => ?_⟩
   replace h := Q1l h c9
   have a0 := a0.off (by rw [Q1g]; exact hof _ (by simp)) c9
   unfold Q0m.J1
   refine Q01 fun bu bp => ?_
   have ab := (Ext.refl no bt).x_drew bp
   have a0 := a0.x_drew bp
   obtain ⟨ct, bn, h⟩ := h
   refine ⟨ct, (ab).cell bn id, ?_⟩
   obtain ⟨ck, bi, h⟩ := h
   refine ⟨ck, (ab).cell bi id, ?_⟩
   obtain ⟨eu, bv, h⟩ := h
   refine Q05 bv ?_
   obtain ⟨aw, aj, ag, bj, h⟩ := h
   refine ⟨aw, aj, ag, (ab).cell bj id, ?_⟩
   refine ⟨a7, a6, a4, a0.celli 5 rfl rfl, ?_⟩
   have h := h bu ab
   refine h.mono fun ec aq h => ?_
   obtain ⟨ad, af, ae, he, h⟩ := h
   refine ⟨ad, af, ae, he, ?_⟩
   obtain ⟨bh, bk, bo, h⟩ := h
   refine ⟨bh, bk, bo, ?_⟩
   refine Q01 fun bs bc => ?_
   have h := h bs aq.heap.size ((Ext.refl no aq).x_alloc bc) (Blk.of_new bc) ((Ext.refl no aq)).size (Q0A bc)
   obtain ⟨br, cc, bf, h⟩ := h
   refine ⟨br, cc, bf, ?_⟩
   obtain ⟨bm, bq, c4, bx, hr, h⟩ := h
   refine ⟨bm, bq, c4, bx, hr, ?_⟩
   obtain ⟨c7, h⟩ := h
   refine ⟨c7, ?_⟩
   obtain ⟨ey, ca, h⟩ := h
   refine Q05 ca ?_
   obtain ⟨hcs, h⟩ := h
   refine ⟨hcs, Q01 fun ee e4 => ?_⟩
   replace h := Q1l h e4
   obtain ⟨dz, c2, h⟩ := h
   refine ⟨dz, c2, ?_⟩
   refine h.mono fun ed ek h => ?_
   obtain ⟨he, h⟩ := h
   refine ⟨he, ?_⟩
   exact h
  have h := h.1 (of_decide_eq_true cu)
  refine Q01 fun cs ei => ?_
  have ac := (Ext.refl no bl).x_drew ei
  have a0 := a0.x_drew ei
  obtain ⟨ez, de, h⟩ := h
  refine ⟨ez, (ac).cell de id, ?_⟩
  obtain ⟨fd, da, h⟩ := h
  refine Q05 da ?_
  obtain ⟨et, dg, h⟩ := h
  refine ⟨et, (ac).cell dg id, ?_⟩
  obtain ⟨f9, cv, h⟩ := h
  refine ⟨f9, (ac).cell cv id, ?_⟩
  obtain ⟨fh, cq, h⟩ := h
  refine Q05 cq ?_
  obtain ⟨ar, cn, h⟩ := h
  refine ⟨ar, (ac).cell cn id, ?_⟩
  refine ⟨a3, a2, a1, a0.celli 4 rfl rfl, ?_⟩
  obtain ⟨fi, d3, h⟩ := h
  refine Q05 d3 ?_
  obtain ⟨eo, ev, h⟩ := h
  refine ⟨eo, ev, ?_⟩
  obtain ⟨cj, db, dt, cl, h⟩ := h
  refine ⟨cj, db, dt, (ac).cell cl id, ?_⟩
  have h := h cs ac
  refine h.mono fun fc e0 h => ?_
  obtain ⟨ak, am, he, hk, h⟩ := h
  refine ⟨ak, am, he, ?_⟩
  have a0 := hk.blk a0 (by simp)
  unfold Q0m.J2
  refine Q01 fun dn ej => ?_
  have al := (Ext.refl no e0).x_drew ej
  have a0 := a0.x_drew ej
  obtain ⟨f2, e7, h⟩ := h
  refine ⟨f2, (al).cell e7 id, ?_⟩
  obtain ⟨ew, d9, h⟩ := h
  refine ⟨ew, (al).cell d9 id, ?_⟩
  obtain ⟨fk, eb, h⟩ := h
  refine Q05 eb ?_
  obtain ⟨b6, b7, b9, dq, h⟩ := h
  refine ⟨b6, b7, b9, (al).cell dq id, ?_⟩
  refine Q01 fun e2 cf => ?_
  have a0 := a0.x_alloc cf
  have h := h e2 dn.heap.size (al.x_alloc cf) (Blk.of_new cf) (al).size (Q0A cf)
  obtain ⟨dk, cp, dm, h⟩ := h
  refine ⟨dk, cp, dm, ?_⟩
  obtain ⟨d5, dh, d7, dc, hr, hk, h⟩ := h
  refine ⟨d5, dh, d7, dc, hr, ?_⟩
  have a0 := hk.blk a0 (by simp)
  obtain ⟨cy, h⟩ := h
  refine ⟨cy, ?_⟩
  obtain ⟨fg, cr, h⟩ := h
  refine Q05 cr ?_
  obtain ⟨hcs, hof, h⟩ := h
  refine ⟨hcs, Q01 fun dx el => ?_⟩
  replace h := Q1l h el
  have a0 := a0.off (by rw [Q1g]; exact hof _ (by simp)) el
  unfold Q0m.J1
  refine Q01 fun dd ef => ?_
  have b1 := (Ext.refl no dx).x_drew ef
  have a0 := a0.x_drew ef
  obtain ⟨ep, e9, h⟩ := h
  refine ⟨ep, (b1).cell e9 id, ?_⟩
  obtain ⟨ex, ea, h⟩ := h
  refine ⟨ex, (b1).cell ea id, ?_⟩
  obtain ⟨fe, dl, h⟩ := h
  refine Q05 dl ?_
  obtain ⟨b3, b0, b8, e1, h⟩ := h
  refine ⟨b3, b0, b8, (b1).cell e1 id, ?_⟩
  refine ⟨a7, a6, a4, a0.celli 5 rfl rfl, ?_⟩
  have h := h dd b1
  refine h.mono fun em bd h => ?_
  obtain ⟨ax, ap, av, he, h⟩ := h
  refine ⟨ax, ap, av, he, ?_⟩
  obtain ⟨dv, d6, d8, h⟩ := h
  refine ⟨dv, d6, d8, ?_⟩
  refine Q01 fun dw e6 => ?_
  have h := h dw bd.heap.size ((Ext.refl no bd).x_alloc e6) (Blk.of_new e6) ((Ext.refl no bd)).size (Q0A e6)
  obtain ⟨e3, d0, cm, h⟩ := h
  refine ⟨e3, d0, cm, ?_⟩
  obtain ⟨dr, co, df, cw, hr, h⟩ := h
  refine ⟨dr, co, df, cw, hr, ?_⟩
  obtain ⟨dp, h⟩ := h
  refine ⟨dp, ?_⟩
  obtain ⟨ff, d1, h⟩ := h
  refine Q05 d1 ?_
  obtain ⟨hcs, h⟩ := h
  refine ⟨hcs, Q01 fun f8 en => ?_⟩
  replace h := Q1l h en
  obtain ⟨f3, cx, h⟩ := h
  refine ⟨f3, cx, ?_⟩
  refine h.mono fun fb f4 h => ?_
  obtain ⟨he, h⟩ := h
  refine ⟨he, ?_⟩
  exact h

theorem Q0m.go (r1 : Option Addr) (a6 a9 a3 a4 : Int) (a1 : Option Addr) (a2 a0 : Nat) (a5 : Option Addr) (a8 a7 : Nat) {R : RW} {w : World} (h : Q0m.N r1 a6 a9 a3 a4 a1 a2 a0 a5 a8 a7 R w) : Calls Tryz.prog 25 #[.pointer r1, .agg #[.int .i64 a6, .int .i64 a9, .int .u64 a3, .int .i64 a4, .slice a1 a2 a0, .slice a5 a8 a7]] w fun e w' => ∃ v, e = .returned v ∧ R v w' := Q0m.ok r1 a6 a9 a3 a4 a1 a2 a0 a5 a8 a7 (Q0m.up r1 a6 a9 a3 a4 a1 a2 a0 a5 a8 a7 h)
theorem Q0m.run (r1 : Option Addr) (a6 a9 a3 a4 : Int) (a1 : Option Addr) (a2 a0 : Nat) (a5 : Option Addr) (a8 a7 : Nat) {V : Value} {Q : World → Prop} {w : World} (h : Q0m.N r1 a6 a9 a3 a4 a1 a2 a0 a5 a8 a7 (fun v w' => v = V ∧ Q w') w) : Calls Tryz.prog 25 #[.pointer r1, .agg #[.int .i64 a6, .int .i64 a9, .int .u64 a3, .int .i64 a4, .slice a1 a2 a0, .slice a5 a8 a7]] w (Ret V Q) := (Q0m.go r1 a6 a9 a3 a4 a1 a2 a0 a5 a8 a7 h).mono fun e w' ⟨v, he, hv, hq⟩ => ⟨by rw [he, hv], hq⟩

abbrev Q10.J1 (ag : Option Addr) (aj af : Nat) (ai : Addr) (ad ac : Int) (I0 : Nat → List Value → World → Prop) (ae : Addr) (ah : Nat) (R : RW) (a3 : World) : Prop :=
 ∃ (a2 : Option Addr) (a1 a0 : Nat), a3.cell? (ae.add 4) = some (.slice a2 a1 a0) ∧
 ∃ (a4 : Int), a3.cell? (ai.add 0) = some (.int .i64 a4) ∧
 thenW (a3.alloc (.cells #[.int .i64 a4, .slice ag aj af] 116)) fun a9 =>
 ∃ (a8 : Option Addr) (a6 a7 : Nat) (a5 : World), (Builtin.append_ #[70, 70] 70 #[.slice a2 a1 a0, .slice (some (blk a3.heap.size)) 1 1]).run Tryz.prog a9 = .ok (.slice a8 a6 a7) a5 ∧
 Q0e a5 ((ae.add 4).add 0) ∧
 thenW (a5.setCell ((ae.add 4).add 0) (.slice a8 a6 a7)) fun aa =>
 ∃ ab, ab < ah ∧ I0 ab [.int .u64 ad, .int .i64 (IntKind.i64.wrap (ac + 1))] aa

abbrev Q10.J2 (aw aq : Int) (I0 : Nat → List Value → World → Prop) (av : Addr) (ax : Option Addr) (ay : Nat) (al : Option Addr) (am : Nat) (R : RW) (ai : World) : Prop :=
 al.elim False fun az =>
 0 ≤ (aq : Int) ∧ (aq : Int) < (am : Int) ∧
 ∃ (aj a6 ag ak ac : Int), cellsAt ai (az.add (Int.toNat aq * 5)) [.int .i64 aj, .int .u64 a6, .int .i64 ag, .int .i64 ak, .int .i64 ac] 0 ∧
 thenW (ai.alloc (.cells #[.int .i64 0, .int .u64 0, .int .i64 0, .int .i64 0, .int .i64 0] 111)) fun ar =>
 putsK ar (blk ai.heap.size) [.int .i64 aj, .int .u64 a6, .int .i64 ag, .int .i64 ak, .int .i64 ac] 0 fun ap =>
 ∃ (aa : Int), ap.cell? ((blk ai.heap.size).add 1) = some (.int .u64 aa) ∧
 Calls Tryz.prog 47 #[.pointer ax, .int .u64 aa, .int .u64 aw] ap fun au an => ∃ (ae : Option Addr) (af ah : Nat) (ad : Int), au = .returned (.tuple #[.slice ae af ah, .int .i64 ad]) ∧
 bif ad != 0 then (
 putsK an av [.int .i64 0, .int .i64 0, .int .u64 0, .int .i64 0, .slice none 0 0, .slice none 0 0] 0 fun ao =>
 ∃ (a8 ab a3 a4 : Int) (a0 : Option Addr) (a1 a2 : Nat) (a7 : Option Addr) (a5 a9 : Nat), cellsAt ao av [.int .i64 a8, .int .i64 ab, .int .u64 a3, .int .i64 a4, .slice a0 a1 a2, .slice a7 a5 a9] 0 ∧
 R (.tuple #[.agg #[.int .i64 a8, .int .i64 ab, .int .u64 a3, .int .i64 a4, .slice a0 a1 a2, .slice a7 a5 a9], .int .u64 0, .int .i64 ad]) ao) else (
 Q10.J1 ae af ah (blk ai.heap.size) aw aq I0 av ay R an)

abbrev Q10.J3 (bo : Int) (bw : Option Addr) (bv : Int) (bu bf : Addr) (R : RW) (b6 : World) : Prop :=
 ∃ (b7 : Int), b6.cell? (bu.add 1) = some (.int .i64 b7) ∧
 bif decide (b7 ≥ 0) then (
 ∃ (b8 : Int), b6.cell? (bu.add 1) = some (.int .i64 b8) ∧
 Calls Tryz.prog 48 #[.int .i64 (IntKind.i64.wrap (b8 + 1))] b6 fun bs bt => ∃ (aq : Option Addr) (ay ax : Nat), bs = .returned (.slice aq ay ax) ∧
 Calls Tryz.prog 49 #[.int .u64 bv] bt fun bp bq => ∃ (aw : Option Addr) (av b3 : Nat), bp = .returned (.slice aw av b3) ∧
 Calls Tryz.prog 29 #[.pointer bw, .int .u64 bo, .slice aq ay ax, .slice aw av b3] bq fun br bn => ∃ (b2 : Option Addr) (b4 ar : Nat) (bj : Int), br = .returned (.tuple #[.slice b2 b4 ar, .int .i64 bj]) ∧
 Q0e bn ((bf.add 5).add 0) ∧
 thenW (bn.setCell ((bf.add 5).add 0) (.slice b2 b4 ar)) fun bm =>
 ∃ (b9 bh ap b0 : Int) (am : Option Addr) (ae ak : Nat) (ba : Option Addr) (bg bd : Nat), cellsAt bm bf [.int .i64 b9, .int .i64 bh, .int .u64 ap, .int .i64 b0, .slice am ae ak, .slice ba bg bd] 0 ∧
 putsK bm bf [.int .i64 b9, .int .i64 bh, .int .u64 ap, .int .i64 b0, .slice am ae ak, .slice ba bg bd] 0 fun bk =>
 ∃ (ac b1 a2 a9 : Int) (a1 : Option Addr) (a4 a0 : Nat) (ah : Option Addr) (aj ao : Nat), cellsAt bk bf [.int .i64 ac, .int .i64 b1, .int .u64 a2, .int .i64 a9, .slice a1 a4 a0, .slice ah aj ao] 0 ∧
 R (.tuple #[.agg #[.int .i64 ac, .int .i64 b1, .int .u64 a2, .int .i64 a9, .slice a1 a4 a0, .slice ah aj ao], .int .u64 bo, .int .i64 0]) bk) else (
 ∃ (bb bi ai az : Int) (al : Option Addr) (ad ag : Nat) (b5 : Option Addr) (be bc : Nat), cellsAt b6 bf [.int .i64 bb, .int .i64 bi, .int .u64 ai, .int .i64 az, .slice al ad ag, .slice b5 be bc] 0 ∧
 putsK b6 bf [.int .i64 bb, .int .i64 bi, .int .u64 ai, .int .i64 az, .slice al ad ag, .slice b5 be bc] 0 fun bl =>
 ∃ (af au a5 a8 : Int) (a6 : Option Addr) (a3 a7 : Nat) (aa : Option Addr) (an ab : Nat), cellsAt bl bf [.int .i64 af, .int .i64 au, .int .u64 a5, .int .i64 a8, .slice a6 a3 a7, .slice aa an ab] 0 ∧
 R (.tuple #[.agg #[.int .i64 af, .int .i64 au, .int .u64 a5, .int .i64 a8, .slice a6 a3 a7, .slice aa an ab], .int .u64 bo, .int .i64 0]) bl)

abbrev Q10.J4 (ao b0 : Addr) (ar : Option Addr) (b1 : Int) (R : RW) (ax : World) : Prop :=
 Calls Tryz.prog 45 #[.pointer ar] ax fun ay ap => ∃ (ak : Int), ay = .returned (.int .u64 ak) ∧
 Q0e ap ((ao.add 0).add 0) ∧
 thenW (ap.setCell ((ao.add 0).add 0) (.int .i64 3)) fun aq =>
 ∃ (aj : Option Addr) (ai am : Nat) (ab : Int), cellsAt aq b0 [.slice aj ai am, .int .i64 ab] 0 ∧
 Calls Tryz.prog 46 #[.agg #[.slice aj ai am, .int .i64 ab]] aq fun au av => ∃ (ag : Option Addr) (ac an : Nat), au = .returned (.slice ag ac an) ∧
 ∃ (I0 : Nat → List Value → World → Prop) (b2 : Nat), I0 b2 [.int .u64 ak, .int .i64 0] av ∧ ∀ (az : Nat) (ah : World) (af aw : Int), I0 az [.int .u64 af, .int .i64 aw] ah →
 bif decide (aw < (ac : Int)) then (
 Q10.J2 af aw I0 ao ar az ag ac R ah) else (
 ∃ (ad : Option Addr) (a9 ae : Nat), ah.cell? (ao.add 4) = some (.slice ad a9 ae) ∧
 bif (a9 : Int) == 0 then (
 putsK ah ao [.int .i64 0, .int .i64 0, .int .u64 0, .int .i64 0, .slice none 0 0, .slice none 0 0] 0 fun al =>
 ∃ (a7 aa a2 a4 : Int) (a0 : Option Addr) (a1 a3 : Nat) (a8 : Option Addr) (a5 a6 : Nat), cellsAt al ao [.int .i64 a7, .int .i64 aa, .int .u64 a2, .int .i64 a4, .slice a0 a1 a3, .slice a8 a5 a6] 0 ∧
 R (.tuple #[.agg #[.int .i64 a7, .int .i64 aa, .int .u64 a2, .int .i64 a4, .slice a0 a1 a3, .slice a8 a5 a6], .int .u64 0, .int .i64 10]) al) else (
 Q10.J3 af ar b1 b0 ao R ah))

def Q10.M (o1 ar : Option Addr) (aq ap : Nat) (aj al : Int) (R : RW) (w : World) : Prop :=
 thenW (w.alloc (.cells #[.slice ar aq ap, .int .i64 aj] 64)) fun am =>
 thenW (am.alloc (.cells #[.int .i64 0, .int .i64 0, .int .u64 0, .int .i64 0, .slice none 0 0, .slice none 0 0] 72)) fun ao =>
 bif Option.isNone o1 then (
 ∃ (ai ak ad ae : Int) (ab : Option Addr) (a9 a6 : Nat) (ah : Option Addr) (af ag : Nat), cellsAt ao (blk am.heap.size) [.int .i64 ai, .int .i64 ak, .int .u64 ad, .int .i64 ae, .slice ab a9 a6, .slice ah af ag] 0 ∧
 putsK ao (blk am.heap.size) [.int .i64 ai, .int .i64 ak, .int .u64 ad, .int .i64 ae, .slice ab a9 a6, .slice ah af ag] 0 fun an =>
 ∃ (a7 ac a0 a4 : Int) (a3 : Option Addr) (a2 a1 : Nat) (a5 : Option Addr) (aa a8 : Nat), cellsAt an (blk am.heap.size) [.int .i64 a7, .int .i64 ac, .int .u64 a0, .int .i64 a4, .slice a3 a2 a1, .slice a5 aa a8] 0 ∧
 R (.tuple #[.agg #[.int .i64 a7, .int .i64 ac, .int .u64 a0, .int .i64 a4, .slice a3 a2 a1, .slice a5 aa a8], .int .u64 0, .int .i64 23]) an) else (
 Q10.J4 (blk am.heap.size) (blk w.heap.size) o1 al R ao)

theorem Q10.ok (o1 a2 : Option Addr) (a4 a3 : Nat) (a0 a1 : Int) {R : RW} {w : World} (h : Q10.M o1 a2 a4 a3 a0 a1 R w) : Calls Tryz.prog 21 #[.pointer o1, .agg #[.slice a2 a4 a3, .int .i64 a0], .int .u64 a1] w fun e w' => ∃ v, e = .returned v ∧ R v w' :=
  Q0i follows (H := [(0, [0, 2, 4, 6, 20, 21], [(7, (.one (.int .u64))), (22, (.one (.int .i64)))])]) (args := [.pointer o1, .agg #[.slice a2 a4 a3, .int .i64 a0], .int .u64 a1]) (cast (by kernel_rfl) h)

def Q10.N (o1 bx : Option Addr) (bv bt : Nat) (a1 bc : Int) (R : RW) (w : World) : Prop :=
 (o1 = none →
 ∀ (c3 : World), Ext no w c3 →
 R (.tuple #[.agg #[.int .i64 0, .int .i64 0, .int .u64 0, .int .i64 0, .slice none 0 0, .slice none 0 0], .int .u64 0, .int .i64 23]) c3) ∧
 (o1 ≠ none →
 ∀ (bo : World) (bn aq : Nat), Ext no w bo → Priv w bo [bn, aq] →
 Calls Tryz.prog 45 #[.pointer o1] bo fun bq bb => ∃ (b4 : Int), bq = .returned (.int .u64 b4) ∧
 Keep [bn, aq] bo bb ∧
 ∀ (b9 : World), Ext (fun b => b = aq) bb b9 →
 Calls Tryz.prog 46 #[.agg #[.slice bx bv bt, .int .i64 a1]] b9 fun br bm => ∃ (aw : Option Addr) (aa b6 : Nat), br = .returned (.slice aw aa b6) ∧
 Keep [bn, aq] b9 bm ∧
 ∃ (I0 : Nat → List Value → World → Prop) (c5 : Nat), I0 c5 [.int .u64 b4, .int .i64 0, .int .i64 3, .int .i64 0, .int .u64 0, .int .i64 0, .slice none 0 0, .slice none 0 0] bm ∧ ∀ (c4 : Nat) (ai : World) (a6 b0 a9 au a4 a5 : Int) (a2 : Option Addr) (a0 a3 : Nat) (al : Option Addr) (an am : Nat), I0 c4 [.int .u64 a6, .int .i64 b0, .int .i64 a9, .int .i64 au, .int .u64 a4, .int .i64 a5, .slice a2 a0 a3, .slice al an am] ai →
 (b0 < (aa : Int) →
 ∃ c2 : Addr, aw = some c2 ∧
 0 ≤ (b0 : Int) ∧ (b0 : Int) < (aa : Int) ∧
 ∃ (ay a7 az bh ax : Int), cellsAt ai (c2.add (Int.toNat b0 * 5)) [.int .i64 ay, .int .u64 a7, .int .i64 az, .int .i64 bh, .int .i64 ax] 0 ∧
 ∀ (b1 : World) (c0 : Nat), Ext no ai b1 → Priv ai b1 [c0] →
 Calls Tryz.prog 47 #[.pointer o1, .int .u64 a7, .int .u64 a6] b1 fun bs b3 => ∃ (ap : Option Addr) (ar ao : Nat) (a8 : Int), bs = .returned (.tuple #[.slice ap ar ao, .int .i64 a8]) ∧
 Keep [bn, aq, c0] b1 b3 ∧
 (a8 ≠ 0 →
 ∀ (bg : World), Ext (fun b => b = aq) b3 bg →
 R (.tuple #[.agg #[.int .i64 0, .int .i64 0, .int .u64 0, .int .i64 0, .slice none 0 0, .slice none 0 0], .int .u64 0, .int .i64 a8]) bg) ∧
 (a8 = 0 →
 ∀ (av : World) (bp : Nat), Ext no b3 av → Blk av bp 116 [.int .i64 ay, .slice ap ar ao] → b3.heap.size ≤ bp → bp < av.heap.size →
 ∃ (bj : Option Addr) (ba bk : Nat) (b8 : World), (Builtin.append_ #[70, 70] 70 #[.slice a2 a0 a3, .slice (some (blk bp)) 1 1]).run Tryz.prog av = .ok (.slice bj ba bk) b8 ∧
 Keep [bn, aq] av b8 ∧
 (-9223372036854775808 : Int) ≤ (b0 + 1) ∧ (b0 + 1) < 9223372036854775808 ∧
 ∀ (bi : World), Ext (fun b => b = aq) b8 bi →
 ∃ c1, c1 < c4 ∧ I0 c1 [.int .u64 a6, .int .i64 (b0 + 1), .int .i64 a9, .int .i64 au, .int .u64 a4, .int .i64 a5, .slice bj ba bk, .slice al an am] bi)) ∧
 ((aa : Int) ≤ b0 →
 ((a0 : Int) = 0 →
 ∀ (be : World), Ext (fun b => b = aq) ai be →
 R (.tuple #[.agg #[.int .i64 0, .int .i64 0, .int .u64 0, .int .i64 0, .slice none 0 0, .slice none 0 0], .int .u64 0, .int .i64 10]) be) ∧
 ((a0 : Int) ≠ 0 →
 (a1 ≥ 0 →
 (-9223372036854775808 : Int) ≤ (a1 + 1) ∧ (a1 + 1) < 9223372036854775808 ∧
 Calls Tryz.prog 48 #[.int .i64 (a1 + 1)] ai fun bw b5 => ∃ (ah : Option Addr) (aj ac : Nat), bw = .returned (.slice ah aj ac) ∧
 Keep [aq] ai b5 ∧
 Calls Tryz.prog 49 #[.int .u64 bc] b5 fun bz b7 => ∃ (ab : Option Addr) (ak ad : Nat), bz = .returned (.slice ab ak ad) ∧
 Keep [aq] b5 b7 ∧
 Calls Tryz.prog 29 #[.pointer o1, .int .u64 a6, .slice ah aj ac, .slice ab ak ad] b7 fun bu bl => ∃ (ag : Option Addr) (af ae : Nat) (b2 : Int), bu = .returned (.tuple #[.slice ag af ae, .int .i64 b2]) ∧
 Keep [aq] b7 bl ∧
 ∀ (bd : World), Ext (fun b => b = aq) bl bd →
 R (.tuple #[.agg #[.int .i64 a9, .int .i64 au, .int .u64 a4, .int .i64 a5, .slice a2 a0 a3, .slice ag af ae], .int .u64 a6, .int .i64 0]) bd) ∧
 (a1 < 0 →
 ∀ (bf : World), Ext (fun b => b = aq) ai bf →
 R (.tuple #[.agg #[.int .i64 a9, .int .i64 au, .int .u64 a4, .int .i64 a5, .slice a2 a0 a3, .slice al an am], .int .u64 a6, .int .i64 0]) bf))))

theorem Q10.up (o1 ay : Option Addr) (az av : Nat) (ae b5 : Int) {R : RW} {w : World} (h : Q10.N o1 ay az av ae b5 R w) : Q10.M o1 ay az av ae b5 R w := by
  unfold Q10.M
  unfold Q10.N at h
  refine Q01 fun ai e5 => ?_
  have af := Blk.of_new e5
  have dc := ((Ext.refl no w)).size
  have cr := (Ext.refl no w).x_alloc e5
  refine Q01 fun d5 e6 => ?_
  have a0 := Blk.of_new e6
  have cp := (cr).size
  have b3 := Nat.ne_of_lt af.lt
  have af := af.x_alloc e6
  have cs := cr.x_alloc e6
  refine bif_of (fun c7 => ?_) (fun c7 => ?_)
  ·have h := h.1 (Q1T c7)
   refine ⟨0, 0, 0, 0, none, 0, 0, none, 0, 0, ⟨a0.celli 0 rfl rfl, a0.celli 1 rfl rfl, a0.celli 2 rfl rfl, a0.celli 3 rfl rfl, a0.celli 4 rfl rfl, a0.celli 5 rfl rfl, trivial⟩, ?_⟩
   refine Q0s (k := 0) (j := 0) a0 (Nat.le_of_ble_eq_true rfl) fun cq X8 b8 => ?_
   have cx := cs.x_puts X8 (.inr cp)
   have a0 : Blk cq ai.heap.size 72 [.int .i64 0, .int .i64 0, .int .u64 0, .int .i64 0, .slice none 0 0, .slice none 0 0] := b8
   refine ⟨0, 0, 0, 0, none, 0, 0, none, 0, 0, ⟨a0.celli 0 rfl rfl, a0.celli 1 rfl rfl, a0.celli 2 rfl rfl, a0.celli 3 rfl rfl, a0.celli 4 rfl rfl, a0.celli 5 rfl rfl, trivial⟩, ?_⟩
   have h := h cq cx
   exact h
  have h := h.2 (Q1O c7)
  unfold Q10.J4
  have h := h d5 (w.heap.size) (ai.heap.size) cs (Priv.cons dc af.lt (Priv.cons cp a0.lt Priv.nil))
  refine h.mono fun cu bf h => ?_
  obtain ⟨bm, he, hk, h⟩ := h
  refine ⟨bm, he, ?_⟩
  have af := hk.blk af (by simp)
  have a0 := hk.blk a0 (by simp)
  have ci : Ext (fun b => b = ai.heap.size) bf bf := ((Ext.refl no bf)).none
  refine ⟨a0.cani 0 rfl rfl, Q01 fun bq bz => ?_⟩
  have ca := ci.x_set (q := ai.heap.size) (i := 0) rfl (.inl rfl) bz
  have af := af.oth (q := ai.heap.size) (i := 0) rfl b3 bz
  have a0 : Blk bq ai.heap.size 72 [.int .i64 3, .int .i64 0, .int .u64 0, .int .i64 0, .slice none 0 0, .slice none 0 0] := a0.seti 0 rfl bz
  refine ⟨ay, az, av, ae, ⟨af.celli 0 rfl rfl, af.celli 1 rfl rfl, trivial⟩, ?_⟩
  have h := h bq ca
  refine h.mono fun dl d8 h => ?_
  obtain ⟨bb, b7, b6, he, hk, h⟩ := h
  refine ⟨bb, b7, b6, he, ?_⟩
  have af := hk.blk af (by simp)
  have a0 := hk.blk a0 (by simp)
  obtain ⟨I0, dj, h0, h⟩ := h
  refine ⟨fun k vs ww => ∃ (a6 a7 a4 a5 : Int) (a2 : Option Addr) (a1 a3 : Nat) (a9 : Option Addr) (a8 aa : Nat), Blk ww w.heap.size 64 [.slice ay az av, .int .i64 ae] ∧ Blk ww ai.heap.size 72 [.int .i64 a6, .int .i64 a7, .int .u64 a4, .int .i64 a5, .slice a2 a1 a3, .slice a9 a8 aa] ∧ I0 k (vs ++ [.int .i64 a6, .int .i64 a7, .int .u64 a4, .int .i64 a5, .slice a2 a1 a3, .slice a9 a8 aa]) ww, dj, ⟨3, 0, 0, 0, none, 0, 0, none, 0, 0, af, a0, h0⟩, fun d4 ah bo db hI => ?_⟩
  obtain ⟨a6, a7, a4, a5, a2, a1, a3, a9, a8, aa, af, a0, hI⟩ := hI
  have h := h d4 ah bo db a6 a7 a4 a5 a2 a1 a3 a9 a8 aa hI
  refine bif_fo (fun c0 => ?_) (fun c0 => ?_)
  ·have h := h.2 (Int.not_lt.1 (of_decide_eq_false c0))
   refine ⟨a2, a1, a3, a0.celli 4 rfl rfl, ?_⟩
   refine bif_of (fun cn => ?_) (fun cn => ?_)
   ·have h := h.1 (beq_t cn)
    have bw : Ext (fun b => b = ai.heap.size) ah ah := ((Ext.refl no ah)).none
    refine Q0s (k := 0) (j := 0) a0 (Nat.le_of_ble_eq_true rfl) fun bp dg d1 => ?_
    have bu := bw.x_puts dg (.inl rfl)
    have a0 : Blk bp ai.heap.size 72 [.int .i64 0, .int .i64 0, .int .u64 0, .int .i64 0, .slice none 0 0, .slice none 0 0] := d1
    refine ⟨0, 0, 0, 0, none, 0, 0, none, 0, 0, ⟨a0.celli 0 rfl rfl, a0.celli 1 rfl rfl, a0.celli 2 rfl rfl, a0.celli 3 rfl rfl, a0.celli 4 rfl rfl, a0.celli 5 rfl rfl, trivial⟩, ?_⟩
    have h := h bp bu
    exact h
   have h := h.2 (beq_f cn)
   unfold Q10.J3
   refine ⟨ae, af.celli 1 rfl rfl, ?_⟩
   refine bif_fo (fun cd => ?_) (fun cd => ?_)
   ·have h := h.2 (Int.not_le.1 (of_decide_eq_false cd))
    refine ⟨a6, a7, a4, a5, a2, a1, a3, a9, a8, aa, ⟨a0.celli 0 rfl rfl, a0.celli 1 rfl rfl, a0.celli 2 rfl rfl, a0.celli 3 rfl rfl, a0.celli 4 rfl rfl, a0.celli 5 rfl rfl, trivial⟩, ?_⟩
    have c6 : Ext (fun b => b = ai.heap.size) ah ah := ((Ext.refl no ah)).none
    refine Q0s (k := 0) (j := 0) a0 (Nat.le_of_ble_eq_true rfl) fun bi da cw => ?_
    have c4 := c6.x_puts da (.inl rfl)
    have a0 : Blk bi ai.heap.size 72 [.int .i64 a6, .int .i64 a7, .int .u64 a4, .int .i64 a5, .slice a2 a1 a3, .slice a9 a8 aa] := cw
    refine ⟨a6, a7, a4, a5, a2, a1, a3, a9, a8, aa, ⟨a0.celli 0 rfl rfl, a0.celli 1 rfl rfl, a0.celli 2 rfl rfl, a0.celli 3 rfl rfl, a0.celli 4 rfl rfl, a0.celli 5 rfl rfl, trivial⟩, ?_⟩
    have h := h bi c4
    exact h
   have h := h.1 (of_decide_eq_true cd)
   refine ⟨ae, af.celli 1 rfl rfl, ?_⟩
   obtain ⟨bx, ck, h⟩ := h
   try rw [w64 bx ck]
   refine h.mono fun d2 cy h => ?_
   obtain ⟨aq, an, ar, he, hk, h⟩ := h
   refine ⟨aq, an, ar, he, ?_⟩
   have a0 := hk.blk a0 (by simp)
   refine h.mono fun dk d0 h => ?_
   obtain ⟨ap, ao, au, he, hk, h⟩ := h
   refine ⟨ap, ao, au, he, ?_⟩
   have a0 := hk.blk a0 (by simp)
   refine h.mono fun d7 be h => ?_
   obtain ⟨ab, ad, ac, b1, he, hk, h⟩ := h
   refine ⟨ab, ad, ac, b1, he, ?_⟩
   have a0 := hk.blk a0 (by simp)
   have c3 : Ext (fun b => b = ai.heap.size) be be := ((Ext.refl no be)).none
   refine ⟨a0.cani 5 rfl rfl, Q01 fun cj ct => ?_⟩
   have cc := c3.x_set (q := ai.heap.size) (i := 5) rfl (.inl rfl) ct
   have a0 : Blk cj ai.heap.size 72 [.int .i64 a6, .int .i64 a7, .int .u64 a4, .int .i64 a5, .slice a2 a1 a3, .slice ab ad ac] := a0.seti 5 rfl ct
   refine ⟨a6, a7, a4, a5, a2, a1, a3, ab, ad, ac, ⟨a0.celli 0 rfl rfl, a0.celli 1 rfl rfl, a0.celli 2 rfl rfl, a0.celli 3 rfl rfl, a0.celli 4 rfl rfl, a0.celli 5 rfl rfl, trivial⟩, ?_⟩
   refine Q0s (k := 0) (j := 0) a0 (Nat.le_of_ble_eq_true rfl) fun bn di de => ?_
   have c1 := cc.x_puts di (.inl rfl)
   have a0 : Blk bn ai.heap.size 72 [.int .i64 a6, .int .i64 a7, .int .u64 a4, .int .i64 a5, .slice a2 a1 a3, .slice ab ad ac] := de
   refine ⟨a6, a7, a4, a5, a2, a1, a3, ab, ad, ac, ⟨a0.celli 0 rfl rfl, a0.celli 1 rfl rfl, a0.celli 2 rfl rfl, a0.celli 3 rfl rfl, a0.celli 4 rfl rfl, a0.celli 5 rfl rfl, trivial⟩, ?_⟩
   have h := h bn c1
   exact h
  have h := h.1 (of_decide_eq_true c0)
  unfold Q10.J2
  obtain ⟨dm, bv, h⟩ := h
  refine Q05 bv ?_
  obtain ⟨cv, cz, h⟩ := h
  refine ⟨cv, cz, ?_⟩
  obtain ⟨ak, ag, al, b4, aj, cb, h⟩ := h
  refine ⟨ak, ag, al, b4, aj, cb, ?_⟩
  refine Q01 fun df bt => ?_
  have bc := Blk.of_new bt
  have co := ((Ext.refl no ah)).size
  have bh := Nat.ne_of_lt af.lt
  have af := af.x_alloc bt
  have bl := Nat.ne_of_lt a0.lt
  have a0 := a0.x_alloc bt
  have ce := (Ext.refl no ah).x_alloc bt
  refine Q0s (k := 0) (j := 0) bc (Nat.le_of_ble_eq_true rfl) fun bk ch d9 => ?_
  have c2 := ce.x_puts ch (.inr co)
  have af := af.x_puts ch bh
  have a0 := a0.x_puts ch bl
  have bc : Blk bk ah.heap.size 111 [.int .i64 ak, .int .u64 ag, .int .i64 al, .int .i64 b4, .int .i64 aj] := d9
  refine ⟨ag, bc.celli 1 rfl rfl, ?_⟩
  have h := h bk (ah.heap.size) c2 (Priv.cons co bc.lt Priv.nil)
  refine h.mono fun dd am h => ?_
  obtain ⟨aw, b2, b0, bg, he, hk, h⟩ := h
  refine ⟨aw, b2, b0, bg, he, ?_⟩
  have af := hk.blk af (by simp)
  have a0 := hk.blk a0 (by simp)
  have bc := hk.blk bc (by simp)
  refine bif_of (fun c9 => ?_) (fun c9 => ?_)
  ·have h := h.1 (bne_t c9)
   have c8 : Ext (fun b => b = ai.heap.size) am am := ((Ext.refl no am)).none
   refine Q0s (k := 0) (j := 0) a0 (Nat.le_of_ble_eq_true rfl) fun br d3 dh => ?_
   have cl := c8.x_puts d3 (.inl rfl)
   have a0 : Blk br ai.heap.size 72 [.int .i64 0, .int .i64 0, .int .u64 0, .int .i64 0, .slice none 0 0, .slice none 0 0] := dh
   refine ⟨0, 0, 0, 0, none, 0, 0, none, 0, 0, ⟨a0.celli 0 rfl rfl, a0.celli 1 rfl rfl, a0.celli 2 rfl rfl, a0.celli 3 rfl rfl, a0.celli 4 rfl rfl, a0.celli 5 rfl rfl, trivial⟩, ?_⟩
   have h := h br cl
   exact h
  have h := h.2 (bne_f c9)
  unfold Q10.J1
  refine ⟨a2, a1, a3, a0.celli 4 rfl rfl, ?_⟩
  refine ⟨ak, bc.celli 0 rfl rfl, ?_⟩
  refine Q01 fun cg bj => ?_
  have af := af.x_alloc bj
  have a0 := a0.x_alloc bj
  have h := h cg am.heap.size ((Ext.refl no am).x_alloc bj) (Blk.of_new bj) ((Ext.refl no am)).size (Q0A bj)
  obtain ⟨b9, ba, bd, ax, hr, hk, h⟩ := h
  refine ⟨b9, ba, bd, ax, hr, ?_⟩
  have af := hk.blk af (by simp)
  have a0 := hk.blk a0 (by simp)
  have c5 : Ext (fun b => b = ai.heap.size) ax ax := ((Ext.refl no ax)).none
  refine ⟨a0.cani 4 rfl rfl, Q01 fun bs cm => ?_⟩
  have cf := c5.x_set (q := ai.heap.size) (i := 4) rfl (.inl rfl) cm
  have af := af.oth (q := ai.heap.size) (i := 4) rfl b3 cm
  have a0 : Blk bs ai.heap.size 72 [.int .i64 a6, .int .i64 a7, .int .u64 a4, .int .i64 a5, .slice b9 ba bd, .slice a9 a8 aa] := a0.seti 4 rfl cm
  obtain ⟨bx, ck, h⟩ := h
  try rw [w64 bx ck]
  have h := h bs cf
  obtain ⟨d6, hk, h⟩ := h
  exact ⟨d6, hk, a6, a7, a4, a5, b9, ba, bd, a9, a8, aa, af, a0, h⟩

theorem Q10.go (o1 a2 : Option Addr) (a4 a3 : Nat) (a0 a1 : Int) {R : RW} {w : World} (h : Q10.N o1 a2 a4 a3 a0 a1 R w) : Calls Tryz.prog 21 #[.pointer o1, .agg #[.slice a2 a4 a3, .int .i64 a0], .int .u64 a1] w fun e w' => ∃ v, e = .returned v ∧ R v w' := Q10.ok o1 a2 a4 a3 a0 a1 (Q10.up o1 a2 a4 a3 a0 a1 h)
abbrev Q0O.J1 (a7 : Int) (aa : Option Addr) (a8 ab : Nat) (a9 : Int) (I0 : Nat → List Value → World → Prop) (m6 : Nat) (R : RW) (a3 : World) : Prop :=
 256 ≠ (0 : Int) ∧ thenW (a3.alloc (.cells #[.int .u8 (IntKind.u8.wrap (Int.tmod a7 256))] 5)) fun a5 =>
 ∃ (a0 : Option Addr) (a1 a2 : Nat) (a4 : World), (Builtin.append_ #[25, 25] 25 #[.slice (some (blk a3.heap.size)) 1 1, .slice aa a8 ab]).run Tryz.prog a5 = .ok (.slice a0 a1 a2) a4 ∧
 256 ≠ (0 : Int) ∧ ∃ a6, a6 < m6 ∧ I0 a6 [.int .u64 (IntKind.u64.wrap (Int.tdiv a7 256)), .slice a0 a1 a2, .int .i64 (IntKind.i64.wrap (a9 + 1))] a4

def Q0O.M (n1 : Int) (R : RW) (w : World) : Prop :=
 ∃ (I0 : Nat → List Value → World → Prop) (m5 : Nat), I0 m5 [.int .u64 n1, .slice none 0 0, .int .i64 0] w ∧ ∀ (m6 : Nat) (a2 : World) (n2 : Int) (a3 : Option Addr) (a1 a0 : Nat) (i4 : Int), I0 m6 [.int .u64 n2, .slice a3 a1 a0, .int .i64 i4] a2 →
 bif decide (i4 < 8) then (
 Q0O.J1 n2 a3 a1 a0 i4 I0 m6 R a2) else (
 R (.slice a3 a1 a0) a2)

theorem Q0O.ok (n1 : Int) {R : RW} {w : World} (h : Q0O.M n1 R w) : Calls Tryz.prog 54 #[.int .u64 n1] w fun e w' => ∃ v, e = .returned v ∧ R v w' :=
  Q0i follows (H := [(0, [], [(0, (.one (.int .u64))), (3, (.one .slice)), (4, (.one (.int .i64)))])]) (args := [.int .u64 n1]) (cast (by kernel_rfl) h)

def Q0O.N (n1 : Int) (R : RW) (w : World) : Prop :=
 ∃ (I0 : Nat → List Value → World → Prop) (m5 : Nat), I0 m5 [.int .u64 n1, .slice none 0 0, .int .i64 0] w ∧ ∀ (m6 : Nat) (a4 : World) (n2 : Int) (a8 : Option Addr) (a9 a7 : Nat) (i4 : Int), I0 m6 [.int .u64 n2, .slice a8 a9 a7, .int .i64 i4] a4 →
 (i4 < 8 →
 ∀ (a6 : World) (a5 : Nat), Ext no a4 a6 → Blk a6 a5 5 [.int .u8 (IntKind.u8.wrap (Int.tmod n2 256))] → a4.heap.size ≤ a5 → a5 < a6.heap.size →
 ∃ (a1 : Option Addr) (a0 a2 : Nat) (a3 : World), (Builtin.append_ #[25, 25] 25 #[.slice (some (blk a5)) 1 1, .slice a8 a9 a7]).run Tryz.prog a6 = .ok (.slice a1 a0 a2) a3 ∧
 (-9223372036854775808 : Int) ≤ (i4 + 1) ∧ (i4 + 1) < 9223372036854775808 ∧
 ∃ aa, aa < m6 ∧ I0 aa [.int .u64 (IntKind.u64.wrap (Int.tdiv n2 256)), .slice a1 a0 a2, .int .i64 (i4 + 1)] a3) ∧
 ((8 : Int) ≤ i4 →
 R (.slice a8 a9 a7) a4)

theorem Q0O.up (n1 : Int) {R : RW} {w : World} (h : Q0O.N n1 R w) : Q0O.M n1 R w := by
  unfold Q0O.M
  unfold Q0O.N at h
  obtain ⟨I0, m5, h0, h⟩ := h
  refine ⟨I0, m5, h0, fun m6 a0 n2 a8 a9 a7 i4 hI => ?_⟩
  have h := h m6 a0 n2 a8 a9 a7 i4 hI
  refine bif_fo (fun c8 => ?_) (fun c8 => ?_)
  ·have h := h.2 (Int.not_lt.1 (of_decide_eq_false c8))
   exact h
  have h := h.1 (of_decide_eq_true c8)
  unfold Q0O.J1
  refine ⟨by decide, ?_⟩
  refine Q01 fun aa e9 => ?_
  have h := h aa a0.heap.size ((Ext.refl no a0).x_alloc e9) (Blk.of_new e9) ((Ext.refl no a0)).size (Q0A e9)
  obtain ⟨a2, a1, a4, a3, hr, h⟩ := h
  refine ⟨a2, a1, a4, a3, hr, ?_⟩
  refine ⟨by decide, ?_⟩
  obtain ⟨a5, ab, h⟩ := h
  try rw [w64 a5 ab]
  obtain ⟨a6, hk, h⟩ := h
  exact ⟨a6, hk, h⟩

theorem Q0O.go (n1 : Int) {R : RW} {w : World} (h : Q0O.N n1 R w) : Calls Tryz.prog 54 #[.int .u64 n1] w fun e w' => ∃ v, e = .returned v ∧ R v w' := Q0O.ok n1 (Q0O.up n1 h)
abbrev Q0q.J1 (ai : Option Addr) (ag ak : Nat) (a6 : Int) (I0 : Nat → List Value → World → Prop) (aj : Option Addr) (al : Nat) (ae : Addr) (ah : Nat) (R : RW) (ab : World) : Prop :=
 thenW (ab.drew) fun a3 =>
 ∃ (a0 : Option Addr) (a1 a2 : Nat), a3.cell? (ae.add 4) = some (.slice a0 a1 a2) ∧
 aj.elim False fun af =>
 0 ≤ (a6 : Int) ∧ (a6 : Int) < (al : Int) ∧
 ∃ (a4 : Int), a3.cell? ((af.add (Int.toNat a6 * 5)).add 0) = some (.int .i64 a4) ∧
 thenW (a3.alloc (.cells #[.int .i64 a4, .slice ai ag ak] 120)) fun a8 =>
 a8.cell? (ae.add 4) = some (.slice a0 a1 a2) ∧
 ∃ (a7 : Option Addr) (a9 aa : Nat) (a5 : World), (Builtin.append_ #[75, 75] 75 #[.slice a0 a1 a2, .slice (some (blk a3.heap.size)) 1 1]).run Tryz.prog a8 = .ok (.slice a7 a9 aa) a5 ∧
 Q0e a5 ((ae.add 4).add 0) ∧
 thenW (a5.setCell ((ae.add 4).add 0) (.slice a7 a9 aa)) fun ac =>
 ∃ ad, ad < ah ∧ I0 ad [.int .i64 (IntKind.i64.wrap (a6 + 1))] ac

abbrev Q0q.J2 (ai : Int) (I0 : Nat → List Value → World → Prop) (ak : Option Addr) (al : Nat) (ar : Addr) (aq : Int) (am : Addr) (an : Option Addr) (ap : Nat) (R : RW) (ag : World) : Prop :=
 ak.elim False fun ao =>
 0 ≤ (ai : Int) ∧ (ai : Int) < (al : Int) ∧
 ∃ (a9 : Int), ag.cell? ((ao.add (Int.toNat ai * 5)).add 1) = some (.int .u64 a9) ∧
 Calls Tryz.prog 52 #[.pointer an, .int .u64 a9, .int .u64 aq] ag fun aj ah => ∃ (ac : Option Addr) (ae ad : Nat) (ab : Int), aj = .returned (.tuple #[.slice ac ae ad, .int .i64 ab]) ∧
 bif ab != 0 then (
 putsK ah am [.int .i64 0, .int .i64 0, .int .u64 0, .int .i64 0, .slice none 0 0, .slice none 0 0] 0 fun af =>
 ∃ (a6 aa a3 a4 : Int) (a2 : Option Addr) (a0 a1 : Nat) (a8 : Option Addr) (a7 a5 : Nat), cellsAt af am [.int .i64 a6, .int .i64 aa, .int .u64 a3, .int .i64 a4, .slice a2 a0 a1, .slice a8 a7 a5] 0 ∧
 R (.tuple #[.agg #[.int .i64 a6, .int .i64 aa, .int .u64 a3, .int .i64 a4, .slice a2 a0 a1, .slice a8 a7 a5], .int .u64 0, .int .i64 ab]) af) else (
 Q0q.J1 ac ae ad ai I0 ak al ar ap R ah)

abbrev Q0q.J3 (c2 : Option Addr) (c0 : Nat) (bt : Addr) (bu : Int) (bs c1 : Addr) (bx : Option Addr) (c3 : Int) (R : RW) (bw : World) : Prop :=
 ∃ (I0 : Nat → List Value → World → Prop) (c4 : Nat), I0 c4 [.int .i64 0] bw ∧ ∀ (bz : Nat) (bc : World) (bv : Int), I0 bz [.int .i64 bv] bc →
 bif decide (bv < (c0 : Int)) then (
 Q0q.J2 bv I0 c2 c0 bt bu bs bx bz R bc) else (
 ∃ (ba : Int), bc.cell? (c1.add 1) = some (.int .i64 ba) ∧
 bif ba != (-1) then (
 ∃ (b2 : Int), bc.cell? (c1.add 1) = some (.int .i64 b2) ∧
 Calls Tryz.prog 53 #[.int .u64 (IntKind.u64.wrap (IntKind.i64.wrap (b2 + 1)))] bc fun bo bn => ∃ (be : Option Addr) (bg bd : Nat), bo = .returned (.slice be bg bd) ∧
 Calls Tryz.prog 54 #[.int .u64 c3] bn fun bp bq => ∃ (av : Option Addr) (b0 ay : Nat), bp = .returned (.slice av b0 ay) ∧
 Calls Tryz.prog 31 #[.pointer bx, .int .u64 bu, .slice be bg bd, .slice av b0 ay] bq fun br bm => ∃ (au : Option Addr) (aq az : Nat) (bi : Int), br = .returned (.tuple #[.slice au aq az, .int .i64 bi]) ∧
 Q0e bm ((bt.add 5).add 0) ∧
 thenW (bm.setCell ((bt.add 5).add 0) (.slice au aq az)) fun bk =>
 ∃ (b3 bf ak aw : Int) (ag : Option Addr) (al an : Nat) (b9 : Option Addr) (b8 b5 : Nat), cellsAt bk bt [.int .i64 b3, .int .i64 bf, .int .u64 ak, .int .i64 aw, .slice ag al an, .slice b9 b8 b5] 0 ∧
 putsK bk bs [.int .i64 b3, .int .i64 bf, .int .u64 ak, .int .i64 aw, .slice ag al an, .slice b9 b8 b5] 0 fun bl =>
 ∃ (ad ax a0 a9 : Int) (a4 : Option Addr) (a7 a1 : Nat) (aj : Option Addr) (ae ai : Nat), cellsAt bl bs [.int .i64 ad, .int .i64 ax, .int .u64 a0, .int .i64 a9, .slice a4 a7 a1, .slice aj ae ai] 0 ∧
 R (.tuple #[.agg #[.int .i64 ad, .int .i64 ax, .int .u64 a0, .int .i64 a9, .slice a4 a7 a1, .slice aj ae ai], .int .u64 bu, .int .i64 0]) bl) else (
 ∃ (b7 bh aa ar : Int) (ab : Option Addr) (ap ao : Nat) (b6 : Option Addr) (bb b4 : Nat), cellsAt bc bt [.int .i64 b7, .int .i64 bh, .int .u64 aa, .int .i64 ar, .slice ab ap ao, .slice b6 bb b4] 0 ∧
 putsK bc bs [.int .i64 b7, .int .i64 bh, .int .u64 aa, .int .i64 ar, .slice ab ap ao, .slice b6 bb b4] 0 fun bj =>
 ∃ (af b1 a2 a8 : Int) (a6 : Option Addr) (a3 a5 : Nat) (ac : Option Addr) (am ah : Nat), cellsAt bj bs [.int .i64 af, .int .i64 b1, .int .u64 a2, .int .i64 a8, .slice a6 a3 a5, .slice ac am ah] 0 ∧
 R (.tuple #[.agg #[.int .i64 af, .int .i64 b1, .int .u64 a2, .int .i64 a8, .slice a6 a3 a5, .slice ac am ah], .int .u64 bu, .int .i64 0]) bj))

def Q0q.M (o1 av : Option Addr) (aq ap : Nat) (ad ai : Int) (R : RW) (w : World) : Prop :=
 thenW (w.alloc (.cells #[.slice av aq ap, .int .i64 ad] 68)) fun an =>
 thenW (an.alloc (.cells #[.int .i64 0, .int .i64 0, .int .u64 0, .int .i64 0, .slice none 0 0, .slice none 0 0] 77)) fun aw =>
 Calls Tryz.prog 50 #[.pointer o1] aw fun ax ar => ∃ (al : Int), ax = .returned (.int .u64 al) ∧
 thenW (ar.alloc (.cells #[.int .i64 0, .int .i64 0, .int .u64 0, .int .i64 0, .slice none 0 0, .slice none 0 0] 77)) fun ao =>
 putsK ao (blk ar.heap.size) [.int .i64 3, .int .i64 0, .int .u64 0, .int .i64 0, .slice none 0 0, .slice none 0 0] 0 fun ak =>
 ∃ (af : Option Addr) (ag ae : Nat) (aa : Int), cellsAt ak (blk w.heap.size) [.slice af ag ae, .int .i64 aa] 0 ∧
 Calls Tryz.prog 51 #[.agg #[.slice af ag ae, .int .i64 aa]] ak fun au am => ∃ (ac : Option Addr) (ab ah : Nat), au = .returned (.slice ac ab ah) ∧
 bif (ab : Int) == 0 then (
 putsK am (blk an.heap.size) [.int .i64 0, .int .i64 0, .int .u64 0, .int .i64 0, .slice none 0 0, .slice none 0 0] 0 fun aj =>
 ∃ (a8 a9 a2 a4 : Int) (a3 : Option Addr) (a1 a0 : Nat) (a5 : Option Addr) (a6 a7 : Nat), cellsAt aj (blk an.heap.size) [.int .i64 a8, .int .i64 a9, .int .u64 a2, .int .i64 a4, .slice a3 a1 a0, .slice a5 a6 a7] 0 ∧
 R (.tuple #[.agg #[.int .i64 a8, .int .i64 a9, .int .u64 a2, .int .i64 a4, .slice a3 a1 a0, .slice a5 a6 a7], .int .u64 0, .int .i64 10]) aj) else (
 Q0q.J3 ac ab (blk ar.heap.size) al (blk an.heap.size) (blk w.heap.size) o1 ai R am)

theorem Q0q.ok (o1 a2 : Option Addr) (a4 a3 : Nat) (a0 a1 : Int) {R : RW} {w : World} (h : Q0q.M o1 a2 a4 a3 a0 a1 R w) : Calls Tryz.prog 22 #[.pointer o1, .agg #[.slice a2 a4 a3, .int .i64 a0], .int .u64 a1] w fun e w' => ∃ v, e = .returned v ∧ R v w' :=
  Q0i follows (H := [(0, [0, 2, 4, 6, 9, 10, 11], [(12, (.one (.int .i64)))])]) (args := [.pointer o1, .agg #[.slice a2 a4 a3, .int .i64 a0], .int .u64 a1]) (cast (by kernel_rfl) h)

def Q0q.N (o1 bx : Option Addr) (c1 bw : Nat) (a0 bj : Int) (R : RW) (w : World) : Prop :=
 ∀ (bt : World) (p7 p8 : Nat), Ext no w bt → Priv w bt [p7, p8] →
 Calls Tryz.prog 50 #[.pointer o1] bt fun c3 be => ∃ (b3 : Int), c3 = .returned (.int .u64 b3) ∧
 Keep [p7, p8] bt be ∧
 ∀ (b9 : World) (b8 : Nat), Ext no be b9 → Priv be b9 [b8] →
 Calls Tryz.prog 51 #[.agg #[.slice bx c1 bw, .int .i64 a0]] b9 fun c2 bd => ∃ (b4 : Option Addr) (a1 bc : Nat), c2 = .returned (.slice b4 a1 bc) ∧
 Keep [p7, p8, b8] b9 bd ∧
 ((a1 : Int) = 0 →
 ∀ (bm : World), Ext (fun b => b = p8) bd bm →
 R (.tuple #[.agg #[.int .i64 0, .int .i64 0, .int .u64 0, .int .i64 0, .slice none 0 0, .slice none 0 0], .int .u64 0, .int .i64 10]) bm) ∧
 ((a1 : Int) ≠ 0 →
 ∃ (I0 : Nat → List Value → World → Prop) (c7 : Nat), I0 c7 [.int .i64 0, .int .i64 0, .int .i64 0, .int .u64 0, .int .i64 0, .slice none 0 0, .slice none 0 0, .int .i64 3, .int .i64 0, .int .u64 0, .int .i64 0, .slice none 0 0, .slice none 0 0] bd ∧ ∀ (c5 : Nat) (am : World) (av ax bb ac au : Int) (ai : Option Addr) (ab a9 : Nat) (b1 : Option Addr) (b5 b2 : Nat) (a7 ap a5 a6 : Int) (a3 : Option Addr) (a4 a2 : Nat) (an : Option Addr) (al ak : Nat), I0 c5 [.int .i64 av, .int .i64 ax, .int .i64 bb, .int .u64 ac, .int .i64 au, .slice ai ab a9, .slice b1 b5 b2, .int .i64 a7, .int .i64 ap, .int .u64 a5, .int .i64 a6, .slice a3 a4 a2, .slice an al ak] am →
 (av < (a1 : Int) →
 ∃ bu : Addr, b4 = some bu ∧
 0 ≤ (av : Int) ∧ (av : Int) < (a1 : Int) ∧
 ∃ (aa : Int), am.cell? ((bu.add (Int.toNat av * 5)).add 1) = some (.int .u64 aa) ∧
 Calls Tryz.prog 52 #[.pointer o1, .int .u64 aa, .int .u64 b3] am fun bz aw => ∃ (aq : Option Addr) (ao ar : Nat) (a8 : Int), bz = .returned (.tuple #[.slice aq ao ar, .int .i64 a8]) ∧
 Keep [p7, p8, b8] am aw ∧
 (a8 ≠ 0 →
 ∀ (bn : World), Ext (fun b => b = p8) aw bn →
 R (.tuple #[.agg #[.int .i64 0, .int .i64 0, .int .u64 0, .int .i64 0, .slice none 0 0, .slice none 0 0], .int .u64 0, .int .i64 a8]) bn) ∧
 (a8 = 0 →
 0 ≤ (av : Int) ∧ (av : Int) < (a1 : Int) ∧
 ∃ (ba : Int), aw.cell? ((bu.add (Int.toNat av * 5)).add 0) = some (.int .i64 ba) ∧
 ∀ (b6 : World) (bs : Nat), Ext no aw b6 → Blk b6 bs 120 [.int .i64 ba, .slice aq ao ar] → aw.heap.size ≤ bs → bs < b6.heap.size →
 ∃ (bo : Option Addr) (br bq : Nat) (bh : World), (Builtin.append_ #[75, 75] 75 #[.slice a3 a4 a2, .slice (some (blk bs)) 1 1]).run Tryz.prog b6 = .ok (.slice bo br bq) bh ∧
 Keep [p7, p8, b8] b6 bh ∧
 (-9223372036854775808 : Int) ≤ (av + 1) ∧ (av + 1) < 9223372036854775808 ∧
 ∀ (bi : World), Ext (fun b => b = b8) bh bi →
 ∃ c6, c6 < c5 ∧ I0 c6 [.int .i64 (av + 1), .int .i64 ax, .int .i64 bb, .int .u64 ac, .int .i64 au, .slice ai ab a9, .slice b1 b5 b2, .int .i64 a7, .int .i64 ap, .int .u64 a5, .int .i64 a6, .slice bo br bq, .slice an al ak] bi)) ∧
 ((a1 : Int) ≤ av →
 (a0 ≠ (-1) →
 (-9223372036854775808 : Int) ≤ (a0 + 1) ∧ (a0 + 1) < 9223372036854775808 ∧
 Calls Tryz.prog 53 #[.int .u64 (IntKind.u64.wrap (a0 + 1))] am fun bv bg => ∃ (ay : Option Addr) (az b0 : Nat), bv = .returned (.slice ay az b0) ∧
 Keep [p8, b8] am bg ∧
 Calls Tryz.prog 54 #[.int .u64 bj] bg fun c4 bf => ∃ (ag : Option Addr) (ae ad : Nat), c4 = .returned (.slice ag ae ad) ∧
 Keep [p8, b8] bg bf ∧
 Calls Tryz.prog 31 #[.pointer o1, .int .u64 b3, .slice ay az b0, .slice ag ae ad] bf fun c0 bl => ∃ (ah : Option Addr) (af aj : Nat) (b7 : Int), c0 = .returned (.tuple #[.slice ah af aj, .int .i64 b7]) ∧
 Keep [p8, b8] bf bl ∧
 ∀ (bp : World), Ext (fun b => b = p8 ∨ b = b8) bl bp →
 R (.tuple #[.agg #[.int .i64 a7, .int .i64 ap, .int .u64 a5, .int .i64 a6, .slice a3 a4 a2, .slice ah af aj], .int .u64 b3, .int .i64 0]) bp) ∧
 (a0 = (-1) →
 ∀ (bk : World), Ext (fun b => b = p8) am bk →
 R (.tuple #[.agg #[.int .i64 a7, .int .i64 ap, .int .u64 a5, .int .i64 a6, .slice a3 a4 a2, .slice an al ak], .int .u64 b3, .int .i64 0]) bk)))

theorem Q0q.up (o1 b3 : Option Addr) (b7 b1 : Nat) (aj bc : Int) {R : RW} {w : World} (h : Q0q.N o1 b3 b7 b1 aj bc R w) : Q0q.M o1 b3 b7 b1 aj bc R w := by
  unfold Q0q.M
  unfold Q0q.N at h
  refine Q01 fun az e5 => ?_
  have al := Blk.of_new e5
  have dh := ((Ext.refl no w)).size
  have cy := (Ext.refl no w).x_alloc e5
  refine Q01 fun d7 e6 => ?_
  have a5 := Blk.of_new e6
  have d2 := (cy).size
  have cx := Nat.ne_of_lt al.lt
  have al := al.x_alloc e6
  have d9 := cy.x_alloc e6
  have h := h d7 (w.heap.size) (az.heap.size) d9 (Priv.cons dh al.lt (Priv.cons d2 a5.lt Priv.nil))
  refine h.mono fun di ak h => ?_
  obtain ⟨cl, he, hk, h⟩ := h
  refine ⟨cl, he, ?_⟩
  have al := hk.blk al (by simp)
  have a5 := hk.blk a5 (by simp)
  refine Q01 fun da c1 => ?_
  have a7 := Blk.of_new c1
  have cw := ((Ext.refl no ak)).size
  have bb := Nat.ne_of_lt al.lt
  have al := al.x_alloc c1
  have av := Nat.ne_of_lt a5.lt
  have a5 := a5.x_alloc c1
  have cg := (Ext.refl no ak).x_alloc c1
  refine Q0s (k := 0) (j := 0) a7 (Nat.le_of_ble_eq_true rfl) fun bz cs dg => ?_
  have c3 := cg.x_puts cs (.inr cw)
  have al := al.x_puts cs bb
  have a5 := a5.x_puts cs av
  have a7 : Blk bz ak.heap.size 77 [.int .i64 3, .int .i64 0, .int .u64 0, .int .i64 0, .slice none 0 0, .slice none 0 0] := dg
  refine ⟨b3, b7, b1, aj, ⟨al.celli 0 rfl rfl, al.celli 1 rfl rfl, trivial⟩, ?_⟩
  have h := h bz (ak.heap.size) c3 (Priv.cons cw a7.lt Priv.nil)
  refine h.mono fun df be h => ?_
  obtain ⟨bk, bn, bd, he, hk, h⟩ := h
  refine ⟨bk, bn, bd, he, ?_⟩
  have al := hk.blk al (by simp)
  have a5 := hk.blk a5 (by simp)
  have a7 := hk.blk a7 (by simp)
  refine bif_of (fun co => ?_) (fun co => ?_)
  ·have h := h.1 (beq_t co)
   have c5 : Ext (fun b => b = az.heap.size) be be := ((Ext.refl no be)).none
   refine Q0s (k := 0) (j := 0) a5 (Nat.le_of_ble_eq_true rfl) fun bu d1 dm => ?_
   have cd := c5.x_puts d1 (.inl rfl)
   have a5 : Blk bu az.heap.size 77 [.int .i64 0, .int .i64 0, .int .u64 0, .int .i64 0, .slice none 0 0, .slice none 0 0] := dm
   refine ⟨0, 0, 0, 0, none, 0, 0, none, 0, 0, ⟨a5.celli 0 rfl rfl, a5.celli 1 rfl rfl, a5.celli 2 rfl rfl, a5.celli 3 rfl rfl, a5.celli 4 rfl rfl, a5.celli 5 rfl rfl, trivial⟩, ?_⟩
   have h := h bu cd
   exact h
  have h := h.2 (beq_f co)
  unfold Q0q.J3
  obtain ⟨I0, d0, h0, h⟩ := h
  refine ⟨fun k vs ww => ∃ (an ar ae am : Int) (ah : Option Addr) (ad ac : Nat) (ao : Option Addr) (aq ap : Nat) (a6 a8 a0 a4 : Int) (a2 : Option Addr) (a3 a1 : Nat) (ab : Option Addr) (aa a9 : Nat), Blk ww w.heap.size 68 [.slice b3 b7 b1, .int .i64 aj] ∧ Blk ww az.heap.size 77 [.int .i64 an, .int .i64 ar, .int .u64 ae, .int .i64 am, .slice ah ad ac, .slice ao aq ap] ∧ Blk ww ak.heap.size 77 [.int .i64 a6, .int .i64 a8, .int .u64 a0, .int .i64 a4, .slice a2 a3 a1, .slice ab aa a9] ∧ I0 k (vs ++ [.int .i64 an, .int .i64 ar, .int .u64 ae, .int .i64 am, .slice ah ad ac, .slice ao aq ap, .int .i64 a6, .int .i64 a8, .int .u64 a0, .int .i64 a4, .slice a2 a3 a1, .slice ab aa a9]) ww, d0, ⟨0, 0, 0, 0, none, 0, 0, none, 0, 0, 3, 0, 0, 0, none, 0, 0, none, 0, 0, al, a5, a7, h0⟩, fun db b6 d3 hI => ?_⟩
  obtain ⟨an, ar, ae, am, ah, ad, ac, ao, aq, ap, a6, a8, a0, a4, a2, a3, a1, ab, aa, a9, al, a5, a7, hI⟩ := hI
  have h := h db b6 d3 an ar ae am ah ad ac ao aq ap a6 a8 a0 a4 a2 a3 a1 ab aa a9 hI
  refine bif_fo (fun ca => ?_) (fun ca => ?_)
  ·have h := h.2 (Int.not_lt.1 (of_decide_eq_false ca))
   refine ⟨aj, al.celli 1 rfl rfl, ?_⟩
   refine bif_fo (fun cn => ?_) (fun cn => ?_)
   ·have h := h.2 (bne_f cn)
    refine ⟨a6, a8, a0, a4, a2, a3, a1, ab, aa, a9, ⟨a7.celli 0 rfl rfl, a7.celli 1 rfl rfl, a7.celli 2 rfl rfl, a7.celli 3 rfl rfl, a7.celli 4 rfl rfl, a7.celli 5 rfl rfl, trivial⟩, ?_⟩
    have ci : Ext (fun b => b = az.heap.size) b6 b6 := ((Ext.refl no b6)).none
    refine Q0s (k := 0) (j := 0) a5 (Nat.le_of_ble_eq_true rfl) fun bt dp dj => ?_
    have c9 := ci.x_puts dp (.inl rfl)
    have a5 : Blk bt az.heap.size 77 [.int .i64 a6, .int .i64 a8, .int .u64 a0, .int .i64 a4, .slice a2 a3 a1, .slice ab aa a9] := dj
    refine ⟨a6, a8, a0, a4, a2, a3, a1, ab, aa, a9, ⟨a5.celli 0 rfl rfl, a5.celli 1 rfl rfl, a5.celli 2 rfl rfl, a5.celli 3 rfl rfl, a5.celli 4 rfl rfl, a5.celli 5 rfl rfl, trivial⟩, ?_⟩
    have h := h bt c9
    exact h
   have h := h.1 (bne_t cn)
   refine ⟨aj, al.celli 1 rfl rfl, ?_⟩
   obtain ⟨c6, cq, h⟩ := h
   try rw [w64 c6 cq]
   refine h.mono fun cz dk h => ?_
   obtain ⟨bf, bg, bi, he, hk, h⟩ := h
   refine ⟨bf, bg, bi, he, ?_⟩
   have a5 := hk.blk a5 (by simp)
   have a7 := hk.blk a7 (by simp)
   refine h.mono fun dl dc h => ?_
   obtain ⟨ay, ax, aw, he, hk, h⟩ := h
   refine ⟨ay, ax, aw, he, ?_⟩
   have a5 := hk.blk a5 (by simp)
   have a7 := hk.blk a7 (by simp)
   refine h.mono fun d8 b5 h => ?_
   obtain ⟨ag, af, ai, b4, he, hk, h⟩ := h
   refine ⟨ag, af, ai, b4, he, ?_⟩
   have a5 := hk.blk a5 (by simp)
   have a7 := hk.blk a7 (by simp)
   have cj : Ext (fun b => b = ak.heap.size) b5 b5 := ((Ext.refl no b5)).none
   refine ⟨a7.cani 5 rfl rfl, Q01 fun bs ct => ?_⟩
   have ck := cj.x_set (q := ak.heap.size) (i := 5) rfl (.inl rfl) ct
   have a5 := a5.oth (q := ak.heap.size) (i := 5) rfl av ct
   have a7 : Blk bs ak.heap.size 77 [.int .i64 a6, .int .i64 a8, .int .u64 a0, .int .i64 a4, .slice a2 a3 a1, .slice ag af ai] := a7.seti 5 rfl ct
   refine ⟨a6, a8, a0, a4, a2, a3, a1, ag, af, ai, ⟨a7.celli 0 rfl rfl, a7.celli 1 rfl rfl, a7.celli 2 rfl rfl, a7.celli 3 rfl rfl, a7.celli 4 rfl rfl, a7.celli 5 rfl rfl, trivial⟩, ?_⟩
   have ce : Ext (fun b => b = az.heap.size ∨ b = ak.heap.size) b5 bs := (ck).mono fun _ h _ => .inr h
   refine Q0s (k := 0) (j := 0) a5 (Nat.le_of_ble_eq_true rfl) fun bx dn d6 => ?_
   have ch := ce.x_puts dn (.inl (.inl rfl))
   have a5 : Blk bx az.heap.size 77 [.int .i64 a6, .int .i64 a8, .int .u64 a0, .int .i64 a4, .slice a2 a3 a1, .slice ag af ai] := d6
   refine ⟨a6, a8, a0, a4, a2, a3, a1, ag, af, ai, ⟨a5.celli 0 rfl rfl, a5.celli 1 rfl rfl, a5.celli 2 rfl rfl, a5.celli 3 rfl rfl, a5.celli 4 rfl rfl, a5.celli 5 rfl rfl, trivial⟩, ?_⟩
   have h := h bx ch
   exact h
  have h := h.1 (of_decide_eq_true ca)
  unfold Q0q.J2
  obtain ⟨dq, bv, h⟩ := h
  refine Q05 bv ?_
  obtain ⟨c4, cf, h⟩ := h
  refine ⟨c4, cf, ?_⟩
  obtain ⟨au, c7, h⟩ := h
  refine ⟨au, c7, ?_⟩
  refine h.mono fun d5 b0 h => ?_
  obtain ⟨b8, b2, ba, bh, he, hk, h⟩ := h
  refine ⟨b8, b2, ba, bh, he, ?_⟩
  have al := hk.blk al (by simp)
  have a5 := hk.blk a5 (by simp)
  have a7 := hk.blk a7 (by simp)
  refine bif_of (fun cb => ?_) (fun cb => ?_)
  ·have h := h.1 (bne_t cb)
   have cp : Ext (fun b => b = az.heap.size) b0 b0 := ((Ext.refl no b0)).none
   refine Q0s (k := 0) (j := 0) a5 (Nat.le_of_ble_eq_true rfl) fun bw d4 dd => ?_
   have cv := cp.x_puts d4 (.inl rfl)
   have a5 : Blk bw az.heap.size 77 [.int .i64 0, .int .i64 0, .int .u64 0, .int .i64 0, .slice none 0 0, .slice none 0 0] := dd
   refine ⟨0, 0, 0, 0, none, 0, 0, none, 0, 0, ⟨a5.celli 0 rfl rfl, a5.celli 1 rfl rfl, a5.celli 2 rfl rfl, a5.celli 3 rfl rfl, a5.celli 4 rfl rfl, a5.celli 5 rfl rfl, trivial⟩, ?_⟩
   have h := h bw cv
   exact h
  have h := h.2 (bne_f cb)
  unfold Q0q.J1
  refine Q01 fun cu c2 => ?_
  have bm := (Ext.refl no b0).x_drew c2
  have al := al.x_drew c2
  have a5 := a5.x_drew c2
  have a7 := a7.x_drew c2
  refine ⟨a2, a3, a1, a7.celli 4 rfl rfl, ?_⟩
  refine Q05 bv ?_
  obtain ⟨c4, cf, h⟩ := h
  refine ⟨c4, cf, ?_⟩
  obtain ⟨br, cm, h⟩ := h
  refine ⟨br, (bm).cell cm id, ?_⟩
  refine Q01 fun cr bp => ?_
  have al := al.x_alloc bp
  have a5 := a5.x_alloc bp
  have a7 := a7.x_alloc bp
  have h := h cr cu.heap.size (bm.x_alloc bp) (Blk.of_new bp) (bm).size (Q0A bp)
  refine ⟨a7.celli 4 rfl rfl, ?_⟩
  obtain ⟨bj, bo, bl, b9, hr, hk, h⟩ := h
  refine ⟨bj, bo, bl, b9, hr, ?_⟩
  have al := hk.blk al (by simp)
  have a5 := hk.blk a5 (by simp)
  have a7 := hk.blk a7 (by simp)
  have c8 : Ext (fun b => b = ak.heap.size) b9 b9 := ((Ext.refl no b9)).none
  refine ⟨a7.cani 4 rfl rfl, Q01 fun bq c0 => ?_⟩
  have cc := c8.x_set (q := ak.heap.size) (i := 4) rfl (.inl rfl) c0
  have al := al.oth (q := ak.heap.size) (i := 4) rfl bb c0
  have a5 := a5.oth (q := ak.heap.size) (i := 4) rfl av c0
  have a7 : Blk bq ak.heap.size 77 [.int .i64 a6, .int .i64 a8, .int .u64 a0, .int .i64 a4, .slice bj bo bl, .slice ab aa a9] := a7.seti 4 rfl c0
  obtain ⟨c6, cq, h⟩ := h
  try rw [w64 c6 cq]
  have h := h bq cc
  obtain ⟨de, hk, h⟩ := h
  exact ⟨de, hk, an, ar, ae, am, ah, ad, ac, ao, aq, ap, a6, a8, a0, a4, bj, bo, bl, ab, aa, a9, al, a5, a7, h⟩

theorem Q0q.go (o1 a2 : Option Addr) (a4 a3 : Nat) (a0 a1 : Int) {R : RW} {w : World} (h : Q0q.N o1 a2 a4 a3 a0 a1 R w) : Calls Tryz.prog 22 #[.pointer o1, .agg #[.slice a2 a4 a3, .int .i64 a0], .int .u64 a1] w fun e w' => ∃ v, e = .returned v ∧ R v w' := Q0q.ok o1 a2 a4 a3 a0 a1 (Q0q.up o1 a2 a4 a3 a0 a1 h)
abbrev Q0a.J1 (a0 : Int) (I2 : Nat → List Value → World → Prop) (b3 : Int) (ap bc : Option Addr) (ba : Nat) (R : RW) (au : World) : Prop :=
 thenW (au.drew) fun ab =>
 ap.elim False fun ax =>
 ∃ (a5 : Option Addr) (a2 ad : Nat), ab.cell? (ax.add 2) = some (.slice a5 a2 ad) ∧
 a5.elim False fun az =>
 0 ≤ (a0 : Int) ∧ (a0 : Int) < (a2 : Int) ∧
 ∃ (ar : Int), ab.cell? (az.add (Int.toNat a0 * 1)) = some (.int .u64 ar) ∧
 ap.elim False fun av =>
 ∃ (a3 : Option Addr) (a4 ae : Nat), ab.cell? (av.add 3) = some (.slice a3 a4 ae) ∧
 a3.elim False fun b5 =>
 0 ≤ (a0 : Int) ∧ (a0 : Int) < (a4 : Int) ∧
 ∃ (ak : Option Addr) (ao am : Nat), ab.cell? (b5.add (Int.toNat a0 * 1)) = some (.slice ak ao am) ∧
 Calls Tryz.prog 53 #[.int .u64 (IntKind.u64.wrap a0)] ab fun b4 a8 => ∃ (ah : Option Addr) (ag af : Nat), b4 = .returned (.slice ah ag af) ∧
 a8.cell? (b5.add (Int.toNat a0 * 1)) = some (.slice ak ao am) ∧
 a8.cell? (av.add 3) = some (.slice a3 a4 ae) ∧
 a8.cell? (az.add (Int.toNat a0 * 1)) = some (.int .u64 ar) ∧
 a8.cell? (ax.add 2) = some (.slice a5 a2 ad) ∧
 Calls Tryz.prog 36 #[.pointer bc, .int .u64 ar, .slice ah ag af, .slice ak ao am] a8 fun b6 an => ∃ (a7 : Option Addr) (a1 ai : Nat) (ac : Int), b6 = .returned (.tuple #[.slice a7 a1 ai, .int .i64 ac]) ∧
 bif ac != 0 then (
 R (.int .i64 b3) an) else (
 bif (a1 : Int) != 8 then (
 R (.int .i64 b3) an) else (
 ∃ (I4 : Nat → List Value → World → Prop) (b9 : Nat), I4 b9 [.int .u64 0, .int .i64 0] an ∧ ∀ (aw : Nat) (a6 : World) (aq aj : Int), I4 aw [.int .u64 aq, .int .i64 aj] a6 →
 bif decide (aj < 8) then (
 a7.elim False fun b8 =>
 0 ≤ (aj : Int) ∧ (aj : Int) < (a1 : Int) ∧
 ∃ (b1 : Int), a6.cell? (b8.add (Int.toNat aj * 1)) = some (.int .u8 b1) ∧
 ∃ ay, ay < aw ∧ I4 ay [.int .u64 (IntKind.u64.wrap ((IntKind.u64.wrap (aq * 256)) + (IntKind.u64.wrap b1))), .int .i64 (IntKind.i64.wrap (aj + 1))] a6) else (
 ap.elim False fun bb =>
 ∃ (a9 : Option Addr) (aa al : Nat), a6.cell? (bb.add 2) = some (.slice a9 aa al) ∧
 a9.elim False fun b0 =>
 0 ≤ ((IntKind.i64.wrap (a0 - 1)) : Int) ∧ ((IntKind.i64.wrap (a0 - 1)) : Int) < (aa : Int) ∧
 Q0e a6 ((b0.add (Int.toNat (IntKind.i64.wrap (a0 - 1)) * 1)).add 0) ∧
 thenW (a6.setCell ((b0.add (Int.toNat (IntKind.i64.wrap (a0 - 1)) * 1)).add 0) (.int .u64 aq)) fun b7 =>
 ∃ b2, b2 < ba ∧ I2 b2 [.int .i64 (IntKind.i64.wrap (a0 - 1))] b7)))

abbrev Q0a.J2 (ac : Int) (ab al : Option Addr) (R : RW) (ad : World) : Prop :=
 ab.elim False fun ai =>
 ∃ (a8 : Option Addr) (a4 aa : Nat), ad.cell? (ai.add 2) = some (.slice a8 a4 aa) ∧
 ∃ (I2 : Nat → List Value → World → Prop) (an : Nat), I2 an [.int .i64 (IntKind.i64.wrap ((a4 : Int) - 1))] ad ∧ ∀ (ag : Nat) (a0 : World) (a1 : Int), I2 ag [.int .i64 a1] a0 →
 bif decide (a1 > 0) then (
 ab.elim False fun am =>
 ∃ (a6 : Option Addr) (a5 a7 : Nat), a0.cell? (am.add 2) = some (.slice a6 a5 a7) ∧
 a6.elim False fun ah =>
 0 ≤ (a1 : Int) ∧ (a1 : Int) < (a5 : Int) ∧
 ∃ (ae : Int), a0.cell? (ah.add (Int.toNat a1 * 1)) = some (.int .u64 ae) ∧
 bif ae != 0 then (
 ab.elim False fun ak =>
 ∃ (a3 : Option Addr) (a2 a9 : Nat), a0.cell? (ak.add 2) = some (.slice a3 a2 a9) ∧
 a3.elim False fun aj =>
 0 ≤ ((IntKind.i64.wrap (a1 - 1)) : Int) ∧ ((IntKind.i64.wrap (a1 - 1)) : Int) < (a2 : Int) ∧
 ∃ (af : Int), a0.cell? (aj.add (Int.toNat (IntKind.i64.wrap (a1 - 1)) * 1)) = some (.int .u64 af) ∧
 bif af == 0 then (
 Q0a.J1 a1 I2 ac ab al ag R a0) else (
 R (.int .i64 ac) a0)) else (
 R (.int .i64 ac) a0)) else (
 R (.int .i64 ac) a0)

abbrev Q0a.J3 (bi : Addr) (b7 br : Option Addr) (R : RW) (bm : World) : Prop :=
 ∃ (I0 : Nat → List Value → World → Prop) (bs : Nat), I0 bs [.int .u64 0, .int .i64 11, .int .i64 0] bm ∧ ∀ (bl : Nat) (aj : World) (av bq aw : Int), I0 bl [.int .u64 av, .int .i64 bq, .int .i64 aw] aj →
 ∃ (aq : Option Addr) (ac ap : Nat), aj.cell? (bi.add 4) = some (.slice aq ac ap) ∧
 bif decide (aw < (ac : Int)) then (
 thenW (aj.drew) fun an =>
 ∃ (a3 : Option Addr) (a7 ak : Nat), an.cell? (bi.add 4) = some (.slice a3 a7 ak) ∧
 a3.elim False fun bj =>
 0 ≤ (aw : Int) ∧ (aw : Int) < (a7 : Int) ∧
 ∃ (ar : Int), an.cell? ((bj.add (Int.toNat aw * 2)).add 0) = some (.int .i64 ar) ∧
 b7.elim False fun bo =>
 ∃ (am : Int), an.cell? (bo.add 0) = some (.int .i64 am) ∧
 bif ar == am then (
 thenW (an.drew) fun ag =>
 b7.elim False fun bn =>
 ∃ (a6 : Int), ag.cell? (bn.add 1) = some (.int .u64 a6) ∧
 ∃ (a9 : Option Addr) (a5 al : Nat), ag.cell? (bi.add 4) = some (.slice a9 a5 al) ∧
 a9.elim False fun bp =>
 0 ≤ (aw : Int) ∧ (aw : Int) < (a5 : Int) ∧
 ∃ (b1 : Option Addr) (b5 b4 : Nat), ag.cell? ((bp.add (Int.toNat aw * 2)).add 1) = some (.slice b1 b5 b4) ∧
 Calls Tryz.prog 67 #[.pointer br, .int .u64 a6, .slice b1 b5 b4] ag fun bb bc => ∃ (a8 a4 : Int), bb = .returned (.tuple #[.int .u64 a8, .int .i64 a4]) ∧
 ∃ bd, bd < bl ∧ I0 bd [.int .u64 a8, .int .i64 a4, .int .i64 (IntKind.i64.wrap (aw + 1))] bc) else (
 ∃ ba, ba < bl ∧ I0 ba [.int .u64 av, .int .i64 bq, .int .i64 (IntKind.i64.wrap (aw + 1))] an)) else (
 b7.elim False fun bk =>
 ∃ (aa : Option Addr) (ab ad : Nat), aj.cell? (bk.add 2) = some (.slice aa ab ad) ∧
 thenW (aj.alloc (.cells #[.int .u64 av] 26)) fun be =>
 ∃ (b2 : Option Addr) (az b6 : Nat) (ao : World), (Builtin.append_ #[22, 22] 22 #[.slice aa ab ad, .slice (some (blk aj.heap.size)) 1 1]).run Tryz.prog be = .ok (.slice b2 az b6) ao ∧
 b7.elim False fun bg =>
 Q0e ao ((bg.add 2).add 0) ∧
 thenW (ao.setCell ((bg.add 2).add 0) (.slice b2 az b6)) fun b9 =>
 thenW (b9.drew) fun ai =>
 b7.elim False fun b8 =>
 ∃ (a0 : Option Addr) (a2 a1 : Nat), ai.cell? (b8.add 3) = some (.slice a0 a2 a1) ∧
 ∃ (af : Option Addr) (ah ae : Nat), ai.cell? (bi.add 5) = some (.slice af ah ae) ∧
 thenW (ai.alloc (.cells #[.slice af ah ae] 25)) fun b0 =>
 b0.cell? (b8.add 3) = some (.slice a0 a2 a1) ∧
 ∃ (ax : Option Addr) (ay b3 : Nat) (au : World), (Builtin.append_ #[59, 59] 59 #[.slice a0 a2 a1, .slice (some (blk ai.heap.size)) 1 1]).run Tryz.prog b0 = .ok (.slice ax ay b3) au ∧
 b7.elim False fun bf =>
 Q0e au ((bf.add 3).add 0) ∧
 thenW (au.setCell ((bf.add 3).add 0) (.slice ax ay b3)) fun bh =>
 Q0a.J2 bq b7 br R bh)

abbrev Q0a.J4 (a6 : Addr) (a4 a7 : Option Addr) (R : RW) (a3 : World) : Prop :=
 a4.elim False fun a5 =>
 ∃ (a1 : Option Addr) (a0 a2 : Nat), a3.cell? (a5.add 2) = some (.slice a1 a0 a2) ∧
 bif decide ((a0 : Int) ≥ 20) then (
 R (.int .i64 3) a3) else (
 Q0a.J3 a6 a4 a7 R a3)

def Q0a.M (r1 o2 : Option Addr) (ak am aa ag : Int) (af : Option Addr) (ac ab : Nat) (al : Option Addr) (aj ai : Nat) (R : RW) (w : World) : Prop :=
 thenW (w.alloc (.cells #[.int .i64 ak, .int .i64 am, .int .u64 aa, .int .i64 ag, .slice af ac ab, .slice al aj ai] 77)) fun ao =>
 ∃ (a6 ad a0 a4 : Int) (a2 : Option Addr) (a3 a1 : Nat) (a9 : Option Addr) (a8 a7 : Nat), cellsAt ao (blk w.heap.size) [.int .i64 a6, .int .i64 ad, .int .u64 a0, .int .i64 a4, .slice a2 a3 a1, .slice a9 a8 a7] 0 ∧
 Calls Tryz.prog 59 #[.agg #[.int .i64 a6, .int .i64 ad, .int .u64 a0, .int .i64 a4, .slice a2 a3 a1, .slice a9 a8 a7]] ao fun an ah => ∃ (a5 : Bool), an = .returned (.bool a5) ∧
 bif !a5 then (
 R (.int .i64 1) ah) else (
 ∃ (ae : Int), ah.cell? ((blk w.heap.size).add 0) = some (.int .i64 ae) ∧
 bif ae != 3 then (
 R (.int .i64 1) ah) else (
 Q0a.J4 (blk w.heap.size) r1 o2 R ah))

theorem Q0a.ok (r1 o2 : Option Addr) (a7 a9 a2 a4 : Int) (a3 : Option Addr) (a0 a1 : Nat) (a8 : Option Addr) (a6 a5 : Nat) {R : RW} {w : World} (h : Q0a.M r1 o2 a7 a9 a2 a4 a3 a0 a1 a8 a6 a5 R w) : Calls Tryz.prog 26 #[.pointer r1, .pointer o2, .agg #[.int .i64 a7, .int .i64 a9, .int .u64 a2, .int .i64 a4, .slice a3 a0 a1, .slice a8 a6 a5]] w fun e w' => ∃ v, e = .returned v ∧ R v w' :=
  Q0i follows (H := [(0, [0, 1, 5], [(7, (.one (.int .u64))), (8, (.one (.int .i64))), (9, (.one (.int .i64)))]), (2, [0, 1, 8], [(10, (.one (.int .i64)))]), (4, [0, 1, 8, 10, 11], [(13, (.one (.int .u64))), (14, (.one (.int .i64)))])]) (args := [.pointer r1, .pointer o2, .agg #[.int .i64 a7, .int .i64 a9, .int .u64 a2, .int .i64 a4, .slice a3 a0 a1, .slice a8 a6 a5]]) (cast (by kernel_rfl) h)

def Q0a.N (r1 o2 : Option Addr) (ar co b5 bs : Int) (ao : Option Addr) (a1 b8 : Nat) (bh : Option Addr) (b7 b4 : Nat) (R : RW) (w : World) : Prop :=
 ∀ (cr : World) (cf : Nat), Ext no w cr → Priv w cr [cf] →
 Calls Tryz.prog 59 #[.agg #[.int .i64 ar, .int .i64 co, .int .u64 b5, .int .i64 bs, .slice ao a1 b8, .slice bh b7 b4]] cr fun d1 b3 => ∃ (ab : Bool), d1 = .returned (.bool ab) ∧
 Keep [cf] cr b3 ∧
 (ab = false →
 R (.int .i64 1) b3) ∧
 (ab = true →
 (ar ≠ 3 →
 R (.int .i64 1) b3) ∧
 (ar = 3 →
 ∃ a7 : Addr, r1 = some a7 ∧
 ∃ (bn : Option Addr) (ac bp : Nat), b3.cell? (a7.add 2) = some (.slice bn ac bp) ∧
 ((ac : Int) ≥ 20 →
 R (.int .i64 3) b3) ∧
 ((ac : Int) < 20 →
 ∃ (I0 : Nat → List Value → World → Prop) (d9 : Nat), I0 d9 [.int .u64 0, .int .i64 11, .int .i64 0] b3 ∧ ∀ (cs : Nat) (a5 : World) (bc bt aq : Int), I0 cs [.int .u64 bc, .int .i64 bt, .int .i64 aq] a5 →
 (aq < (a1 : Int) →
 ∃ cv : Addr, ao = some cv ∧
 0 ≤ (aq : Int) ∧ (aq : Int) < (a1 : Int) ∧
 ∃ (bg : Int), a5.cell? ((cv.add (Int.toNat aq * 2)).add 0) = some (.int .i64 bg) ∧
 ∃ (ba : Int), a5.cell? (a7.add 0) = some (.int .i64 ba) ∧
 (bg = ba →
 ∃ (an : Int), a5.cell? (a7.add 1) = some (.int .u64 an) ∧
 0 ≤ (aq : Int) ∧ (aq : Int) < (a1 : Int) ∧
 ∃ (c7 : Option Addr) (cm ce : Nat), a5.cell? ((cv.add (Int.toNat aq * 2)).add 1) = some (.slice c7 cm ce) ∧
 ∀ (c2 : World), Ext no a5 c2 →
 Calls Tryz.prog 67 #[.pointer o2, .int .u64 an, .slice c7 cm ce] c2 fun cu ca => ∃ (am ap : Int), cu = .returned (.tuple #[.int .u64 am, .int .i64 ap]) ∧
 Keep [cf] c2 ca ∧
 (-9223372036854775808 : Int) ≤ (aq + 1) ∧ (aq + 1) < 9223372036854775808 ∧
 ∃ d3, d3 < cs ∧ I0 d3 [.int .u64 am, .int .i64 ap, .int .i64 (aq + 1)] ca) ∧
 (bg ≠ ba →
 (-9223372036854775808 : Int) ≤ (aq + 1) ∧ (aq + 1) < 9223372036854775808 ∧
 ∀ (c5 : World), Ext no a5 c5 →
 ∃ d4, d4 < cs ∧ I0 d4 [.int .u64 bc, .int .i64 bt, .int .i64 (aq + 1)] c5)) ∧
 ((a1 : Int) ≤ aq →
 ∃ (b1 : Option Addr) (ax b0 : Nat), a5.cell? (a7.add 2) = some (.slice b1 ax b0) ∧
 ∀ (bi : World) (cp : Nat), Ext no a5 bi → Blk bi cp 26 [.int .u64 bc] → a5.heap.size ≤ cp → cp < bi.heap.size →
 ∃ (ch : Option Addr) (c8 cn : Nat) (br : World), (Builtin.append_ #[22, 22] 22 #[.slice b1 ax b0, .slice (some (blk cp)) 1 1]).run Tryz.prog bi = .ok (.slice ch c8 cn) br ∧
 Keep [cf] bi br ∧
 Q0e br ((a7.add 2).add 0) ∧
 (∀ p ∈ [cf], p ≠ Addr.block (a7.add 2)) ∧
 thenW (br.setCell ((a7.add 2).add 0) (.slice ch c8 cn)) fun bu =>
 ∃ (ai : Option Addr) (af a8 : Nat), bu.cell? (a7.add 3) = some (.slice ai af a8) ∧
 ∀ (bd : World) (cq : Nat), Ext no bu bd → Blk bd cq 25 [.slice bh b7 b4] → bu.heap.size ≤ cq → cq < bd.heap.size →
 bd.cell? (a7.add 3) = some (.slice ai af a8) ∧
 ∃ (ci : Option Addr) (cg c4 : Nat) (bw : World), (Builtin.append_ #[59, 59] 59 #[.slice ai af a8, .slice (some (blk cq)) 1 1]).run Tryz.prog bd = .ok (.slice ci cg c4) bw ∧
 Q0e bw ((a7.add 3).add 0) ∧
 thenW (bw.setCell ((a7.add 3).add 0) (.slice ci cg c4)) fun cb =>
 ∃ (bq : Option Addr) (a4 bm : Nat), cb.cell? (a7.add 2) = some (.slice bq a4 bm) ∧
 (-9223372036854775808 : Int) ≤ ((a4 : Int) - 1) ∧ ((a4 : Int) - 1) < 9223372036854775808 ∧
 ∃ (I2 : Nat → List Value → World → Prop) (d8 : Nat), I2 d8 [.int .i64 ((a4 : Int) - 1)] cb ∧ ∀ (d7 : Nat) (a3 : World) (a0 : Int), I2 d7 [.int .i64 a0] a3 →
 (a0 > 0 →
 ∃ (au : Option Addr) (az bl : Nat), a3.cell? (a7.add 2) = some (.slice au az bl) ∧
 ∃ d5 : Addr, au = some d5 ∧
 0 ≤ (a0 : Int) ∧ (a0 : Int) < (az : Int) ∧
 ∃ (cx : Int), a3.cell? (d5.add (Int.toNat a0 * 1)) = some (.int .u64 cx) ∧
 (cx ≠ 0 →
 ∃ (b2 : Option Addr) (aw bo : Nat), a3.cell? (a7.add 2) = some (.slice b2 aw bo) ∧
 (-9223372036854775808 : Int) ≤ (a0 - 1) ∧ (a0 - 1) < 9223372036854775808 ∧
 ∃ d6 : Addr, b2 = some d6 ∧
 0 ≤ ((a0 - 1) : Int) ∧ ((a0 - 1) : Int) < (aw : Int) ∧
 ∃ (d0 : Int), a3.cell? (d6.add (Int.toNat (a0 - 1) * 1)) = some (.int .u64 d0) ∧
 (d0 = 0 →
 ∃ (a9 : Option Addr) (ad av : Nat), a3.cell? (a7.add 2) = some (.slice a9 ad av) ∧
 ∃ d2 : Addr, a9 = some d2 ∧
 0 ≤ (a0 : Int) ∧ (a0 : Int) < (ad : Int) ∧
 ∃ (cw : Int), a3.cell? (d2.add (Int.toNat a0 * 1)) = some (.int .u64 cw) ∧
 ∃ (ag : Option Addr) (ae ay : Nat), a3.cell? (a7.add 3) = some (.slice ag ae ay) ∧
 ∃ ct : Addr, ag = some ct ∧
 0 ≤ (a0 : Int) ∧ (a0 : Int) < (ae : Int) ∧
 ∃ (c0 : Option Addr) (bx c1 : Nat), a3.cell? (ct.add (Int.toNat a0 * 1)) = some (.slice c0 bx c1) ∧
 ∀ (ck : World), Ext no a3 ck →
 Calls Tryz.prog 53 #[.int .u64 (IntKind.u64.wrap a0)] ck fun cy b6 => ∃ (be : Option Addr) (b9 bf : Nat), cy = .returned (.slice be b9 bf) ∧
 b6.cell? (ct.add (Int.toNat a0 * 1)) = some (.slice c0 bx c1) ∧
 b6.cell? (a7.add 3) = some (.slice ag ae ay) ∧
 b6.cell? (d2.add (Int.toNat a0 * 1)) = some (.int .u64 cw) ∧
 b6.cell? (a7.add 2) = some (.slice a9 ad av) ∧
 Calls Tryz.prog 36 #[.pointer o2, .int .u64 cw, .slice be b9 bf, .slice c0 bx c1] b6 fun cj bk => ∃ (aj : Option Addr) (a2 bj : Nat) (ah : Int), cj = .returned (.tuple #[.slice aj a2 bj, .int .i64 ah]) ∧
 (ah ≠ 0 →
 R (.int .i64 bt) bk) ∧
 (ah = 0 →
 ((a2 : Int) ≠ 8 →
 R (.int .i64 bt) bk) ∧
 ((a2 : Int) = 8 →
 ∃ (I4 : Nat → List Value → World → Prop) (cz : Nat), I4 cz [.int .u64 0, .int .i64 0] bk ∧ ∀ (c9 : Nat) (a6 : World) (bv aa : Int), I4 c9 [.int .u64 bv, .int .i64 aa] a6 →
 (aa < 8 →
 ∃ cd : Addr, aj = some cd ∧
 0 ≤ (aa : Int) ∧ (aa : Int) < (a2 : Int) ∧
 ∃ (cc : Int), a6.cell? (cd.add (Int.toNat aa * 1)) = some (.int .u8 cc) ∧
 (-9223372036854775808 : Int) ≤ (aa + 1) ∧ (aa + 1) < 9223372036854775808 ∧
 ∃ c6, c6 < c9 ∧ I4 c6 [.int .u64 (IntKind.u64.wrap ((IntKind.u64.wrap (bv * 256)) + (IntKind.u64.wrap cc))), .int .i64 (aa + 1)] a6) ∧
 ((8 : Int) ≤ aa →
 ∃ (ak : Option Addr) (al bb : Nat), a6.cell? (a7.add 2) = some (.slice ak al bb) ∧
 (-9223372036854775808 : Int) ≤ (a0 - 1) ∧ (a0 - 1) < 9223372036854775808 ∧
 ∃ bz : Addr, ak = some bz ∧
 0 ≤ ((a0 - 1) : Int) ∧ ((a0 - 1) : Int) < (al : Int) ∧
 Q0e a6 ((bz.add (Int.toNat (a0 - 1) * 1)).add 0) ∧
 thenW (a6.setCell ((bz.add (Int.toNat (a0 - 1) * 1)).add 0) (.int .u64 bv)) fun c3 =>
 (-9223372036854775808 : Int) ≤ (a0 - 1) ∧ (a0 - 1) < 9223372036854775808 ∧
 ∃ cl, cl < d7 ∧ I2 cl [.int .i64 (a0 - 1)] c3)))) ∧
 (d0 ≠ 0 →
 R (.int .i64 bt) a3)) ∧
 (cx = 0 →
 R (.int .i64 bt) a3)) ∧
 (a0 ≤ 0 →
 R (.int .i64 bt) a3)))))

theorem Q0a.up (r1 o2 : Option Addr) (a9 ad a4 a6 : Int) (a1 : Option Addr) (a2 a0 : Nat) (aa : Option Addr) (a8 a7 : Nat) {R : RW} {w : World} (h : Q0a.N r1 o2 a9 ad a4 a6 a1 a2 a0 aa a8 a7 R w) : Q0a.M r1 o2 a9 ad a4 a6 a1 a2 a0 aa a8 a7 R w := by
  unfold Q0a.M
  unfold Q0a.N at h
  refine Q01 fun en e9 => ?_
  have a3 := Blk.of_new e9
  have ep := ((Ext.refl no w)).size
  have el := (Ext.refl no w).x_alloc e9
  refine ⟨a9, ad, a4, a6, a1, a2, a0, aa, a8, a7, ⟨a3.celli 0 rfl rfl, a3.celli 1 rfl rfl, a3.celli 2 rfl rfl, a3.celli 3 rfl rfl, a3.celli 4 rfl rfl, a3.celli 5 rfl rfl, trivial⟩, ?_⟩
  have h := h en (w.heap.size) el (Priv.cons ep a3.lt Priv.nil)
  refine h.mono fun er es h => ?_
  obtain ⟨b0, he, hk, h⟩ := h
  refine ⟨b0, he, ?_⟩
  have a3 := hk.blk a3 (by simp)
  refine bif_of (fun cp => ?_) (fun cp => ?_)
  ·have h := h.1 (not_t cp)
   exact h
  have h := h.2 (not_f cp)
  refine ⟨a9, a3.celli 0 rfl rfl, ?_⟩
  refine bif_of (fun di => ?_) (fun di => ?_)
  ·have h := h.1 (bne_t di)
   exact h
  have h := h.2 (bne_f di)
  unfold Q0a.J4
  obtain ⟨ex, a5, h⟩ := h
  refine Q05 a5 ?_
  obtain ⟨az, b2, b6, cl, h⟩ := h
  refine ⟨az, b2, b6, cl, ?_⟩
  refine bif_of (fun cd => ?_) (fun cd => ?_)
  ·have h := h.1 (of_decide_eq_true cd)
   exact h
  have h := h.2 (Int.not_le.1 (of_decide_eq_false cd))
  unfold Q0a.J3
  obtain ⟨I0, ec, h0, h⟩ := h
  refine ⟨fun k vs ww => Blk ww w.heap.size 77 [.int .i64 a9, .int .i64 ad, .int .u64 a4, .int .i64 a6, .slice a1 a2 a0, .slice aa a8 a7] ∧ I0 k vs ww, ec, ⟨a3, h0⟩, fun e7 ah bx e8 ed hI => ?_⟩
  obtain ⟨a3, hI⟩ := hI
  have h := h e7 ah bx e8 ed hI
  refine ⟨a1, a2, a0, a3.celli 4 rfl rfl, ?_⟩
  refine bif_of (fun cf => ?_) (fun cf => ?_)
  ·have h := h.1 (of_decide_eq_true cf)
   refine Q01 fun c8 dz => ?_
   have bi := (Ext.refl no ah).x_drew dz
   have a3 := a3.x_drew dz
   refine ⟨a1, a2, a0, a3.celli 4 rfl rfl, ?_⟩
   obtain ⟨ev, bz, h⟩ := h
   refine Q05 bz ?_
   obtain ⟨ab, ac, h⟩ := h
   refine ⟨ab, ac, ?_⟩
   obtain ⟨c0, df, h⟩ := h
   refine ⟨c0, (bi).cell df id, ?_⟩
   refine Q05 a5 ?_
   obtain ⟨bw, ds, h⟩ := h
   refine ⟨bw, (bi).cell ds id, ?_⟩
   refine bif_fo (fun dk => ?_) (fun dk => ?_)
   ·have h := h.2 (beq_f dk)
    obtain ⟨ae, af, h⟩ := h
    try rw [w64 ae af]
    have h := h c8 bi
    obtain ⟨ei, hk, h⟩ := h
    exact ⟨ei, hk, a3, h⟩
   have h := h.1 (beq_t dk)
   refine Q01 fun dp e1 => ?_
   have bl := bi.x_drew e1
   have a3 := a3.x_drew e1
   refine Q05 a5 ?_
   obtain ⟨am, dv, h⟩ := h
   refine ⟨am, (bl).cell dv id, ?_⟩
   refine ⟨a1, a2, a0, a3.celli 4 rfl rfl, ?_⟩
   refine Q05 bz ?_
   obtain ⟨ab, ac, h⟩ := h
   refine ⟨ab, ac, ?_⟩
   obtain ⟨ce, dr, d3, cz, h⟩ := h
   refine ⟨ce, dr, d3, (bl).cell cz id, ?_⟩
   have h := h dp bl
   refine h.mono fun ea eh h => ?_
   obtain ⟨ak, an, he, hk, h⟩ := h
   refine ⟨ak, an, he, ?_⟩
   have a3 := hk.blk a3 (by simp)
   obtain ⟨ae, af, h⟩ := h
   try rw [w64 ae af]
   obtain ⟨e4, hk, h⟩ := h
   exact ⟨e4, hk, a3, h⟩
  have h := h.2 (Int.not_lt.1 (of_decide_eq_false cf))
  refine Q05 a5 ?_
  obtain ⟨be, b4, b9, de, h⟩ := h
  refine ⟨be, b4, b9, de, ?_⟩
  refine Q01 fun dl c3 => ?_
  have a3 := a3.x_alloc c3
  have h := h dl ah.heap.size ((Ext.refl no ah).x_alloc c3) (Blk.of_new c3) ((Ext.refl no ah)).size (Q0A c3)
  obtain ⟨d9, cs, du, dd, hr, hk, h⟩ := h
  refine ⟨d9, cs, du, dd, hr, ?_⟩
  have a3 := hk.blk a3 (by simp)
  refine Q05 a5 ?_
  obtain ⟨hcs, hof, h⟩ := h
  refine ⟨hcs, Q01 fun ci dy => ?_⟩
  replace h := Q1l h dy
  have a3 := a3.off (by rw [Q1g]; exact hof _ (by simp)) dy
  refine Q01 fun dq e3 => ?_
  have bq := (Ext.refl no ci).x_drew e3
  have a3 := a3.x_drew e3
  refine Q05 a5 ?_
  obtain ⟨bj, bc, av, cw, h⟩ := h
  refine ⟨bj, bc, av, (bq).cell cw id, ?_⟩
  refine ⟨aa, a8, a7, a3.celli 5 rfl rfl, ?_⟩
  refine Q01 fun d7 d8 => ?_
  have h := h d7 dq.heap.size (bq.x_alloc d8) (Blk.of_new d8) (bq).size (Q0A d8)
  obtain ⟨c7, h⟩ := h
  refine ⟨c7, ?_⟩
  obtain ⟨da, d5, c4, cn, hr, h⟩ := h
  refine ⟨da, d5, c4, cn, hr, ?_⟩
  refine Q05 a5 ?_
  obtain ⟨hcs, h⟩ := h
  refine ⟨hcs, Q01 fun ej e5 => ?_⟩
  replace h := Q1l h e5
  unfold Q0a.J2
  refine Q05 a5 ?_
  obtain ⟨bb, bh, ay, cq, h⟩ := h
  refine ⟨bb, bh, ay, cq, ?_⟩
  obtain ⟨ae, af, h⟩ := h
  try rw [w64 ae af]
  obtain ⟨I2, e6, h0, h⟩ := h
  refine ⟨I2, e6, h0, fun et bu d4 hI => ?_⟩
  have h := h et bu d4 hI
  refine bif_fo (fun dt => ?_) (fun dt => ?_)
  ·have h := h.2 (Int.not_lt.1 (of_decide_eq_false dt))
   exact h
  have h := h.1 (of_decide_eq_true dt)
  refine Q05 a5 ?_
  obtain ⟨ar, b7, ax, d0, h⟩ := h
  refine ⟨ar, b7, ax, d0, ?_⟩
  obtain ⟨ew, db, h⟩ := h
  refine Q05 db ?_
  obtain ⟨ab, ac, h⟩ := h
  refine ⟨ab, ac, ?_⟩
  obtain ⟨ef, dw, h⟩ := h
  refine ⟨ef, dw, ?_⟩
  refine bif_fo (fun d1 => ?_) (fun d1 => ?_)
  ·have h := h.2 (bne_f d1)
   exact h
  have h := h.1 (bne_t d1)
  refine Q05 a5 ?_
  obtain ⟨bg, b3, b1, dn, h⟩ := h
  refine ⟨bg, b3, b1, dn, ?_⟩
  obtain ⟨ae, af, h⟩ := h
  try rw [w64 ae af]
  obtain ⟨ey, ch, h⟩ := h
  refine Q05 ch ?_
  obtain ⟨ab, ac, h⟩ := h
  refine ⟨ab, ac, ?_⟩
  obtain ⟨eo, ck, h⟩ := h
  refine ⟨eo, ck, ?_⟩
  refine bif_fo (fun cc => ?_) (fun cc => ?_)
  ·have h := h.2 (beq_f cc)
   exact h
  have h := h.1 (beq_t cc)
  unfold Q0a.J1
  refine Q01 fun dg eq => ?_
  have ao := (Ext.refl no bu).x_drew eq
  refine Q05 a5 ?_
  obtain ⟨aw, b8, au, cb, h⟩ := h
  refine ⟨aw, b8, au, (ao).cell cb id, ?_⟩
  obtain ⟨ez, dh, h⟩ := h
  refine Q05 dh ?_
  obtain ⟨ab, ac, h⟩ := h
  refine ⟨ab, ac, ?_⟩
  obtain ⟨ee, c5, h⟩ := h
  refine ⟨ee, (ao).cell c5 id, ?_⟩
  refine Q05 a5 ?_
  obtain ⟨bd, ba, b5, cu, h⟩ := h
  refine ⟨bd, ba, b5, (ao).cell cu id, ?_⟩
  obtain ⟨eu, cg, h⟩ := h
  refine Q05 cg ?_
  obtain ⟨ab, ac, h⟩ := h
  refine ⟨ab, ac, ?_⟩
  obtain ⟨cy, co, d2, c6, h⟩ := h
  refine ⟨cy, co, d2, (ao).cell c6 id, ?_⟩
  have h := h dg ao
  refine h.mono fun em eb h => ?_
  obtain ⟨bn, bm, bo, he, h⟩ := h
  refine ⟨bn, bm, bo, he, ?_⟩
  obtain ⟨dm, ct, d6, cj, h⟩ := h
  refine ⟨dm, ct, d6, cj, ?_⟩
  refine h.mono fun e0 e2 h => ?_
  obtain ⟨ag, aq, ap, bf, he, h⟩ := h
  refine ⟨ag, aq, ap, bf, he, ?_⟩
  refine bif_of (fun bk => ?_) (fun bk => ?_)
  ·have h := h.1 (bne_t bk)
   exact h
  have h := h.2 (bne_f bk)
  refine bif_of (fun bp => ?_) (fun bp => ?_)
  ·have h := h.1 (bne_t bp)
   exact h
  have h := h.2 (bne_f bp)
  obtain ⟨I4, dc, h0, h⟩ := h
  refine ⟨I4, dc, h0, fun cv bt cm cr hI => ?_⟩
  have h := h cv bt cm cr hI
  refine bif_of (fun br => ?_) (fun br => ?_)
  ·have h := h.1 (of_decide_eq_true br)
   obtain ⟨ek, bs, h⟩ := h
   refine Q05 bs ?_
   obtain ⟨ab, ac, h⟩ := h
   refine ⟨ab, ac, ?_⟩
   obtain ⟨cx, c1, h⟩ := h
   refine ⟨cx, c1, ?_⟩
   obtain ⟨ae, af, h⟩ := h
   try rw [w64 ae af]
   obtain ⟨ca, hk, h⟩ := h
   exact ⟨ca, hk, h⟩
  have h := h.2 (Int.not_lt.1 (of_decide_eq_false br))
  refine Q05 a5 ?_
  obtain ⟨ai, aj, al, bv, h⟩ := h
  refine ⟨ai, aj, al, bv, ?_⟩
  obtain ⟨ae, af, h⟩ := h
  try rw [w64 ae af]
  obtain ⟨eg, c2, h⟩ := h
  refine Q05 c2 ?_
  obtain ⟨ab, ac, h⟩ := h
  refine ⟨ab, ac, ?_⟩
  obtain ⟨hcs, h⟩ := h
  refine ⟨hcs, Q01 fun dx c9 => ?_⟩
  replace h := Q1l h c9
  obtain ⟨ae, af, h⟩ := h
  try rw [w64 ae af]
  obtain ⟨dj, hk, h⟩ := h
  exact ⟨dj, hk, h⟩

theorem Q0a.go (r1 o2 : Option Addr) (a7 a9 a2 a4 : Int) (a3 : Option Addr) (a0 a1 : Nat) (a8 : Option Addr) (a6 a5 : Nat) {R : RW} {w : World} (h : Q0a.N r1 o2 a7 a9 a2 a4 a3 a0 a1 a8 a6 a5 R w) : Calls Tryz.prog 26 #[.pointer r1, .pointer o2, .agg #[.int .i64 a7, .int .i64 a9, .int .u64 a2, .int .i64 a4, .slice a3 a0 a1, .slice a8 a6 a5]] w fun e w' => ∃ v, e = .returned v ∧ R v w' := Q0a.ok r1 o2 a7 a9 a2 a4 a3 a0 a1 a8 a6 a5 (Q0a.up r1 o2 a7 a9 a2 a4 a3 a0 a1 a8 a6 a5 h)
theorem Q0a.run (r1 o2 : Option Addr) (a7 a9 a2 a4 : Int) (a3 : Option Addr) (a0 a1 : Nat) (a8 : Option Addr) (a6 a5 : Nat) {V : Value} {Q : World → Prop} {w : World} (h : Q0a.N r1 o2 a7 a9 a2 a4 a3 a0 a1 a8 a6 a5 (fun v w' => v = V ∧ Q w') w) : Calls Tryz.prog 26 #[.pointer r1, .pointer o2, .agg #[.int .i64 a7, .int .i64 a9, .int .u64 a2, .int .i64 a4, .slice a3 a0 a1, .slice a8 a6 a5]] w (Ret V Q) := (Q0a.go r1 o2 a7 a9 a2 a4 a3 a0 a1 a8 a6 a5 h).mono fun e w' ⟨v, he, hv, hq⟩ => ⟨by rw [he, hv], hq⟩

end Go.Proofs.YtgeakpldocfccaaGreat
set_option linter.unusedSectionVars false
namespace Go.Mx
open Go
section
variable {P : Program} {w w' : World} {q k : Nat} {t e : TypeId} {cs vs : List Value}
theorem Q3r : ∀ {vs cur : List Value} {j m : Nat}, (setAll cur j vs).take m = setAll (cur.take m) j vs
  | [], _, _, _ => rfl
  | v :: r, cur, j, m => by rw [setAll, setAll, Q3r, List.take_set]
theorem Grows.put {w : World} {o : Own} {sz n c g j : Nat} {a : Option Addr} (h : Grows e sz w o g a n c cs) (ok : Tags w o) (hc : cs ≠ []) :
    ∃ b cur, a = some (blk b) ∧ Blk w b e cur ∧ cs.length ≤ cur.length ∧ o b = some g ∧ b < w.heap.size ∧
      ∀ w', Ext (fun x => x = b) w w' → Blk w' b e (setAll cur j vs) → Step (fun i => i = g) w o w' (grow w o) ∧ Grows e sz w' (grow w o) g a n c (setAll cs j vs) := by
  rcases h.own.2 with ⟨hv, h0⟩ | ⟨b, cap, cur, hv, hle, hgb, hnc, hcm, hcs, htk⟩
  · exact absurd (by have := h.own.1; rw [h0] at this; exact List.eq_nil_of_length_eq_zero (by omega)) hc
  cases hv
  have tg := h.tg ⟨b, 0, none⟩ rfl
  have hblk : Blk w b e cur.toList := by unfold Blk; simpa using hgb
  have hcl : cur.toList.length = c * sz := by simpa using hcs
  refine ⟨b, cur.toList, rfl, hblk, ?_, tg.1, tg.2, fun w' X hb' => ?_⟩
  · have := congrArg List.length htk
    rw [List.length_take] at this; omega
  have s : Step (fun i => i = g) w o w' (grow w o) := Step.of_ext X ok fun q hq _ => by subst hq; exact tg.1
  refine ⟨s, ⟨by rw [Q23]; exact h.own.1, .inr ⟨b, c, (setAll cur.toList j vs).toArray, rfl, Nat.zero_le _, hb', hnc, hcm, by simpa [Q23] using hcs, ?_⟩⟩, fun ad ha => ?_⟩
  · show (setAll cur.toList j vs).take (n * sz) = _
    rw [Q3r, htk]
  · cases ha; exact ⟨(s.own tg.2).trans tg.1, Nat.lt_of_lt_of_le tg.2 s.size⟩
theorem Grows.ne {w : World} {o : Own} {sz n c g b : Nat} {a : Option Addr} {cs' : List Value} (h : Grows e sz w o g a n c cs) (hb : Blk w b t cs') (hte : t ≠ e) : ∀ ad, a = some ad → ad.block ≠ b := by
  intro ad ha hq
  rcases h.own.2 with ⟨hv, h0⟩ | ⟨q, cap, cur, hv, hle, hgb, _⟩
  · cases hv; cases ha
  · cases hv; cases ha
    simp only at hq
    subst hq
    unfold Blk at hb
    rw [hb] at hgb
    cases hgb
    exact hte rfl
theorem Grows.apart {w : World} {o : Own} {e2 sz sz2 n n2 c c2 g g2 : Nat} {a a2 : Option Addr} {cs2 : List Value} (h : Grows e sz w o g a n c cs) (h2 : Grows e2 sz2 w o g2 a2 n2 c2 cs2) (hte : e ≠ e2) : ∀ x y, a = some x → a2 = some y → x.block ≠ y.block := by
  intro x y hx hy hq
  rcases h2.own.2 with ⟨hv, h0⟩ | ⟨q, cap, cur, hv, hle, hgb, _⟩
  · cases hv; cases hy
  · cases hv; cases hy
    exact h.ne (b := q) (t := e2) (cs' := cur.toList) (by unfold Blk; simpa using hgb) (Ne.symm hte) x hx hq
end
end Go.Mx
set_option maxRecDepth 20000
set_option maxHeartbeats 2000000
namespace Go.Proofs.YtgeakpldocfccaaGreat
open Go Go.Mx Go.Proofs
open W (OwnB GivesW)
def boundE (e : Int) : List UInt8 := numL e.toNat
theorem Q4M (e : Int) : (boundE e).length ≤ 10 := numF_le _ _
section
variable {w w' w1 : World} {o o' o1 : Own} {q k p N m : Nat} {K : Nat → Prop} {b : List UInt8} {a : Option Addr} {c : Nat}
theorem Q3U {e : Int} (h0 : 0 ≤ e) (h1 : e < 9223372036854775808) (w : World) : Calls Tryz.prog 48 #[.int .i64 e] w (fun x w' => ∃ a' c', x = .returned (.slice a' (boundE e).length c') ∧ OwnB w.heap.size w' a' c' (boundE e) ∧ Ext no w w') := by
  refine (Q1h.go _ (R := fun v w' => ∃ a' c', v = (.slice a' (boundE e).length c') ∧ OwnB w.heap.size w' a' c' (boundE e) ∧ Ext no w w') ?_).mono fun x w' ⟨v, he, a', c', hv, hw⟩ => ⟨a', c', by rw [he, hv], hw⟩
  unfold Q1h.N
  have hw : IntKind.u64.wrap e = ((e.toNat : Nat) : Int) := by rw [wu64 (by omega) (by omega)]; omega
  rw [hw]
  refine (W.Num_spec (bs := []) (c := 0) (RowAt.nil w none) (by decide) (n := e.toNat) (by omega)).mono fun x w4 ⟨a', c', he, ho, hx⟩ => ⟨a', _, c', he, a', c', rfl, ho, hx⟩
theorem Q1D (h : OwnB w.heap.size w' a c b) (X : Ext no w w') : Row w' (grow w o) a (bytesV b) := Row.fresh h.row fun ad ha => (h.fr ad ha).1
theorem eightN (h t : Nat) : (List.range (t + 1)).map (byteAt h) = (List.range t).map (byteAt h) ++ [byteAt h t] := by rw [List.range_succ, List.map_append]; rfl
theorem Q5R {h : Nat} (hh : h < 18446744073709551616) (w : World) :
    Calls Tryz.prog 49 #[.int .u64 h] w (fun e w' => ∃ a' c', e = .returned (.slice a' (boxL h 0).length c') ∧ OwnB w.heap.size w' a' c' (boxL h 0) ∧ Ext no w w') := by
  refine (Q1b.go _ (R := fun v w' => ∃ a' c', v = .slice a' (boxL h 0).length c' ∧ OwnB w.heap.size w' a' c' (boxL h 0) ∧ Ext no w w') ?_).mono fun e w' ⟨v, he, a', c', hv, hw⟩ => ⟨a', c', by rw [he, hv], hw⟩
  unfold Q1b.N
  refine ⟨fun m vs w1 => ∃ (t : Nat) (a : Option Addr) (c : Nat), vs = [.slice a ((List.range t).map (byteAt h)).length c, .int .i64 t] ∧ m + t = 8 ∧ OwnB w.heap.size w1 a c ((List.range t).map (byteAt h)) ∧ Ext no w w1, 8, ⟨0, none, 0, rfl, rfl, OwnB.nil _ _, Ext.refl _ _⟩, ?_⟩
  rintro m w1 ba bn bc i ⟨t, a, c, hi, hq, hO, X1⟩
  simp only [List.cons.injEq, Value.int.injEq, Value.slice.injEq, true_and, and_true] at hi
  obtain ⟨⟨rfl, rfl, rfl⟩, rfl⟩ := hi
  refine ⟨fun ht => ?_, fun ht => ?_⟩
  · have ht : t < 8 := by omega
    refine ⟨by omega, by omega, by omega, by omega, by omega, fun w9 q10 X9 hb hq10 hq10' => ?_⟩
    have hb' : Blk w9 q10 5 (bytesV [byteAt h t]) := by
      have e : IntKind.u8.wrap (Int.fdiv (h : Int) (2 ^ (min (Int.toNat ((56 : Int) - ((8 : Int) * (t : Int)))) (IntKind.bits .u64)))) = ((byteAt h t).toNat : Int) := by
        have e1 : min (Int.toNat ((56 : Int) - ((8 : Int) * (t : Int)))) (IntKind.bits .u64) = 56 - 8 * t := by
          have : IntKind.bits .u64 = 64 := rfl
          omega
        rw [e1, Q1J, Int.fdiv_eq_ediv_of_nonneg _ (Int.pow_nonneg (by decide)), IntKind.wrap_u8]
        rw [show ((2 : Int) ^ (56 - 8 * t)) = ((2 ^ (56 - 8 * t) : Nat) : Int) by rw [Int.natCast_pow]; rfl]
        rfl
      rw [e] at hb
      exact hb
    have l1 := X1.size
    have hO9 : OwnB w.heap.size w9 (some (blk q10)) 1 [byteAt h t] := ⟨Q1C hb' rfl (by show (1 : Nat) ≤ maxLen; unfold maxLen; decide), fun ad ha => by cases ha; exact ⟨by show _ ≤ q10; omega, hq10'⟩⟩
    obtain ⟨a', c', w12, hr, hO', hx⟩ := (hO.no X9).append (t := 25) (ty := 25) Tryz.underlying25 (Nat.le_trans l1 X9.size) (xc := 1) (xs := [byteAt h t]) hO9.row (by rw [List.length_map, List.length_range]; show t + 1 ≤ _; omega)
    rw [← eightN] at hr hO'
    exact ⟨a', _, c', w12, hr, by omega, by omega, m - 1, by omega, t + 1, a', c', rfl, by omega, hO', (X1.trans X9).then hx fun b hb => .inr hb⟩
  · obtain rfl : t = 8 := by omega
    have e : (List.range 8).map (byteAt h) = boxL h 0 := rfl
    rw [e] at hO ⊢
    exact ⟨ba, bc, rfl, hO, X1⟩
end
structure Rng where
  who : Int
  secret : Int
  keys : List Int
  olds : List (List UInt8)
def Rng.V (R : Rng) (k : Nat) (ka : Option Addr) (kc : Nat) (oa : Option Addr) (oc : Nat) : List Value := [.pointer (some (blk k)), .int .i64 R.who, .int .u64 R.secret, .slice ka R.keys.length kc, .slice oa R.olds.length oc]
abbrev KRw (w : World) (o : Own) (g : Nat) (a : Option Addr) (c : Nat) (l : List Int) : Prop := Grows 26 1 w o g a l.length c (l.map u64V)
abbrev ORw (w : World) (o : Own) (g : Nat) (a : Option Addr) (c : Nat) (l : List BS) : Prop := Grows 25 1 w o g a l.length c (l.map BS.v)
def BSk (w : World) (o : Own) (x : BS) : Prop := Row w o x.a (bytesV x.bs) ∧ x.bs.length ≤ x.c
theorem BSk.step {K : Nat → Prop} {w w' : World} {o o' : Own} {x : BS} (h : BSk w o x) (s : Step K w o w' o') : BSk w' o' x := ⟨h.1.step s, h.2⟩

theorem inf25 : (Tryz.prog.info? 25).map (fun i => (i.zero, i.size, i.bytes)) = some (some (.slice none 0 0), 1, 24) := by kernel_rfl
structure EG (w : World) (o : Own) (q k : Nat) (R : Rng) : Prop where
  mem : ∃ ka kc oa oc, ∃ ol : List BS, Blk w q 109 (R.V k ka kc oa oc) ∧ KRw w o q ka kc R.keys ∧ ORw w o q oa oc ol ∧ ol.map BS.bs = R.olds ∧ ∀ x ∈ ol, BSk w o x
  tg : o q = some q
section
variable {w w' w1 : World} {o o' o1 : Own} {q k p N m : Nat} {K : Nat → Prop} {R : Rng} {b : List UInt8} {a : Option Addr} {c : Nat}
theorem EG.lt (h : EG w o q k R) : q < w.heap.size := by
  obtain ⟨ka, kc, oa, oc, ol, hb, _⟩ := h.mem
  exact hb.lt
theorem EG.step (h : EG w o q k R) (s : Step K w o w' o') (hk : ¬ K q) : EG w' o' q k R := by
  obtain ⟨⟨ka, kc, oa, oc, ol, hb, hk1, ho, hm, hx⟩, tg⟩ := h
  exact ⟨⟨ka, kc, oa, oc, ol, s.blk hb tg hk, hk1.step s hk, ho.step s hk, hm, fun x h => (hx x h).step s⟩, by rw [s.own hb.lt]; exact tg⟩
theorem Q5o {l : List Int} : ∀ u ∈ l.map u64V, u.oneCell' = true := fun u hu => by
  obtain ⟨x, _, rfl⟩ := List.mem_map.1 hu
  rfl
theorem Q5q {l : List BS} : ∀ u ∈ l.map BS.v, u.oneCell' = true := fun u hu => by
  obtain ⟨x, _, rfl⟩ := List.mem_map.1 hu
  rfl
theorem EG.pushKey (h : EG w o q k R) (ok : Tags w o) (hl : R.keys.length < 1000000) (x : Int) {qb : Nat} (hb : Blk w qb 26 [.int .u64 x]) {ka : Option Addr} {n kc : Nat} (hc : w.cell? ((blk q).add 3) = some (.slice ka n kc)) :
    ∃ a' n' c' w' o', (Builtin.append_ #[22, 22] 22 #[.slice ka n kc, .slice (some (blk qb)) 1 1]).run Tryz.prog w = .ok (.slice a' n' c') w' ∧ Step (fun j => j = q) w o w' o' ∧
      Q0e w' ((blk q).add 3) ∧ ∀ w2, w2 = w'.setCell ((blk q).add 3) (.slice a' n' c') → Step (fun j => j = q) w o w2 (grow w' o') ∧ EG w2 (grow w' o') q k { R with keys := R.keys ++ [x] } := by
  obtain ⟨⟨ka', kc', oa, oc, ol, hbk, hk1, ho, hm, hx⟩, tg⟩ := h
  have hc2 := hbk.cella (i := 3) (v := .slice ka' R.keys.length kc') rfl
  rw [hc] at hc2
  cases hc2
  obtain ⟨i, hi, hz, hsz, hby⟩ := info_of inf26
  obtain ⟨a', c', w', o', hrun, s2, hk2, hk, _⟩ := Grows.push (ty := 22) Tryz.underlying22 hi hz hsz hby rfl (by decide) hk1 ok hbk.lt (xa := some (blk qb)) (m := 1) (xc := 1) (news := [x].map u64V) rfl (RowAt.of_blk hb) Q5o (by omega) (by omega)
  have X2 : Ext (fun b => ∃ ad, ka = some ad ∧ b = ad.block) w w' := ⟨s2.ext.os, s2.ext.tape, s2.ext.output, s2.ext.size, fun b hb hn => hk b hb fun ad ha hb' => hn ⟨ad, ha, hb'⟩⟩
  have hb2 : Blk w' q 109 _ := hbk.ext X2 fun ⟨ad, h1, h2⟩ => hk1.ne hbk (by decide) ad h1 h2.symm
  have ho2 : ORw w' o' q oa oc ol := ho.keep X2 (fun ad ha ⟨ad', h1, h2⟩ => ho.apart hk1 (by decide) ad ad' ha h1 h2) fun b hb => s2.own hb
  have tg2 : o' q = some q := by rw [s2.own hbk.lt]; exact tg
  refine ⟨a', _, c', w', o', hrun, s2, hb2.cana (i := 3) rfl, fun w3 e3 => ?_⟩
  have X3 : Ext (fun b => b = q) w' w3 := (Ext.refl (fun b => b = q) w').x_set (q := q) (i := 3) rfl (.inl rfl) e3
  have b3 := hb2.seti 3 rfl e3
  have hk2' : KRw w' o' q a' c' (R.keys ++ [x]) := by
    unfold KRw
    rw [List.length_append, List.map_append]; exact hk2
  have s3 : Step (fun j => j = q) w' o' w3 (grow w' o') := Step.of_ext X3 s2.ok fun b hb _ => by subst hb; exact tg2
  refine ⟨s2.trans s3, ⟨⟨a', c', oa, oc, ol, ?_, ?_, ?_, hm, fun y hy => ((hx y hy).step s2).step s3⟩, by rw [s3.own hb2.lt]; exact tg2⟩⟩
  · have e : Rng.V { R with keys := R.keys ++ [x] } k a' c' oa oc = [.pointer (some (blk k)), .int .i64 R.who, .int .u64 R.secret, .slice a' (R.keys.length + 1) c', .slice oa R.olds.length oc] := by unfold Rng.V; rw [List.length_append]; rfl
    rw [e]; exact b3
  · exact hk2'.keep X3 (hk2'.ne hb2 (by decide)) fun b hb => s3.own hb
  · exact ho2.keep X3 (ho2.ne hb2 (by decide)) fun b hb => s3.own hb
theorem EG.pushOld (h : EG w o q k R) (ok : Tags w o) (hl : R.olds.length < 1000000) {x : BS} (hxk : BSk w o x) {qb : Nat} (hb : Blk w qb 25 [x.v]) {ka : Option Addr} {n kc : Nat} (hc : w.cell? ((blk q).add 4) = some (.slice ka n kc)) :
    ∃ a' n' c' w' o', (Builtin.append_ #[59, 59] 59 #[.slice ka n kc, .slice (some (blk qb)) 1 1]).run Tryz.prog w = .ok (.slice a' n' c') w' ∧ Step (fun j => j = q) w o w' o' ∧
      Q0e w' ((blk q).add 4) ∧ ∀ w2, w2 = w'.setCell ((blk q).add 4) (.slice a' n' c') → Step (fun j => j = q) w o w2 (grow w' o') ∧ EG w2 (grow w' o') q k { R with olds := R.olds ++ [x.bs] } := by
  obtain ⟨⟨ka', kc', oa, oc, ol, hbk, hk1, ho, hm, hx⟩, tg⟩ := h
  have hol : ol.length = R.olds.length := by rw [← hm, List.length_map]
  have hc2 := hbk.cella (i := 4) (v := .slice oa R.olds.length oc) rfl
  rw [hc] at hc2
  cases hc2
  obtain ⟨i, hi, hz, hsz, hby⟩ := info_of inf25
  obtain ⟨a', c', w', o', hrun, s2, hk2, hk, _⟩ := Grows.push (ty := 59) Tryz.underlying59 hi hz hsz hby rfl (by decide) ho ok hbk.lt (xa := some (blk qb)) (m := 1) (xc := 1) (news := [x].map BS.v) rfl (RowAt.of_blk hb) Q5q (by omega) (by omega)
  rw [hol] at hrun
  have X2 : Ext (fun b => ∃ ad, ka = some ad ∧ b = ad.block) w w' := ⟨s2.ext.os, s2.ext.tape, s2.ext.output, s2.ext.size, fun b hb hn => hk b hb fun ad ha hb' => hn ⟨ad, ha, hb'⟩⟩
  have hb2 : Blk w' q 109 _ := hbk.ext X2 fun ⟨ad, h1, h2⟩ => ho.ne hbk (by decide) ad h1 h2.symm
  have hk1' : KRw w' o' q ka' kc' R.keys := hk1.keep X2 (fun ad ha ⟨ad', h1, h2⟩ => hk1.apart ho (by decide) ad ad' ha h1 h2) fun b hb => s2.own hb
  have tg2 : o' q = some q := by rw [s2.own hbk.lt]; exact tg
  refine ⟨a', _, c', w', o', hrun, s2, hb2.cana (i := 4) rfl, fun w3 e3 => ?_⟩
  have X3 : Ext (fun b => b = q) w' w3 := (Ext.refl (fun b => b = q) w').x_set (q := q) (i := 4) rfl (.inl rfl) e3
  have b3 := hb2.seti 4 rfl e3
  have hk2' : ORw w' o' q a' c' (ol ++ [x]) := by
    unfold ORw
    rw [List.length_append, List.map_append]; exact hk2
  have s3 : Step (fun j => j = q) w' o' w3 (grow w' o') := Step.of_ext X3 s2.ok fun b hb _ => by subst hb; exact tg2
  refine ⟨s2.trans s3, ⟨⟨ka', kc', a', c', ol ++ [x], ?_, ?_, ?_, by rw [List.map_append, hm]; rfl, fun y hy => ?_⟩, by rw [s3.own hb2.lt]; exact tg2⟩⟩
  · have e : Rng.V { R with olds := R.olds ++ [x.bs] } k ka' kc' a' c' = [.pointer (some (blk k)), .int .i64 R.who, .int .u64 R.secret, .slice ka' R.keys.length kc', .slice a' (R.olds.length + 1) c'] := by unfold Rng.V; rw [List.length_append]; rfl
    rw [e]; exact b3
  · exact hk1'.keep X3 (hk1'.ne hb2 (by decide)) fun b hb => s3.own hb
  · exact hk2'.keep X3 (hk2'.ne hb2 (by decide)) fun b hb => s3.own hb
  · rcases List.mem_append.1 hy with hy | hy
    · exact ((hx y hy).step s2).step s3
    · rw [List.mem_singleton.1 hy]; exact (hxk.step s2).step s3
theorem EG.key (h : EG w o q k R) {i : Nat} (hi : i < R.keys.length) : ∃ ka kc ad, w.cell? ((blk q).add 3) = some (.slice ka R.keys.length kc) ∧ ka = some ad ∧ w.cell? (ad.add (i * 1)) = some (.int .u64 (R.keys[i]?.getD 0)) := by
  obtain ⟨⟨ka, kc, oa, oc, ol, hbk, hk1, ho, hm, hx⟩, tg⟩ := h
  have hr := hk1.row
  have hg : (R.keys.map u64V)[i]? = some (u64V (R.keys[i]?.getD 0)) := by rw [List.getElem?_map, List.getElem?_eq_getElem hi]; rfl
  obtain ⟨ad, ha, hc⟩ := hr i _ hg
  exact ⟨ka, kc, ad, hbk.cella (i := 3) rfl, ha, by rw [Nat.mul_one]; exact hc⟩
theorem EG.old (h : EG w o q k R) {i : Nat} (hi : i < R.olds.length) : ∃ oa oc ad, ∃ x : BS, w.cell? ((blk q).add 4) = some (.slice oa R.olds.length oc) ∧ oa = some ad ∧ w.cell? (ad.add (i * 1)) = some (.slice x.a x.bs.length x.c) ∧ x.bs = R.olds[i]?.getD [] ∧ BSk w o x := by
  obtain ⟨⟨ka, kc, oa, oc, ol, hbk, hk1, ho, hm, hx⟩, tg⟩ := h
  have hol : ol.length = R.olds.length := by rw [← hm, List.length_map]
  have hr := ho.row
  have hil : i < ol.length := by omega
  have hg : (ol.map BS.v)[i]? = some (ol[i]).v := by rw [List.getElem?_map, List.getElem?_eq_getElem hil]; rfl
  obtain ⟨ad, ha, hc⟩ := hr i _ hg
  refine ⟨oa, oc, ad, ol[i], hbk.cella (i := 4) rfl, ha, by rw [Nat.mul_one]; exact hc, ?_, hx _ (List.getElem_mem hil)⟩
  rw [← hm, List.getElem?_map, List.getElem?_eq_getElem hil]; rfl
theorem EG.setKey (h : EG w o q k R) (ok : Tags w o) {i : Nat} (hi : i < R.keys.length) {ka : Option Addr} {n kc : Nat} (hc : w.cell? ((blk q).add 3) = some (.slice ka n kc)) {ad : Addr} (ha : ka = some ad) (v : Int) :
    Q0e w (ad.add (i * 1)) ∧ ∀ w2, w2 = w.setCell (ad.add (i * 1)) (.int .u64 v) → ∃ o2, Step (fun j => j = q) w o w2 o2 ∧ EG w2 o2 q k { R with keys := R.keys.set i v } := by
  obtain ⟨⟨ka', kc', oa, oc, ol, hbk, hk1, ho, hm, hx⟩, tg⟩ := h
  have hc2 := hbk.cella (i := 3) (v := .slice ka' R.keys.length kc') rfl
  rw [hc] at hc2
  cases hc2
  have hne : R.keys.map u64V ≠ [] := fun e => by
    have := congrArg List.length e
    rw [List.length_map] at this
    simp at this; rw [this] at hi; simp at hi
  obtain ⟨b, cur, ha2, hb, hle, hob, hbl, hput⟩ := Grows.put (j := i) (vs := [.int .u64 v]) hk1 ok hne
  rw [ha] at ha2
  cases ha2
  rw [List.length_map] at hle
  rw [Nat.mul_one]
  refine ⟨hb.cana (List.getElem?_eq_getElem (by omega)), fun w3 e3 => ?_⟩
  rw [add_blk] at e3
  have X3 : Ext (fun q => q = b) w w3 := (Ext.refl (fun q => q = b) w).x_set (q := b) (i := i) rfl (.inl rfl) e3
  have b3 := hb.seti i (v := .int .u64 v) rfl e3
  obtain ⟨s3, h3⟩ := hput w3 X3 b3
  have hset : setAll (R.keys.map u64V) i [.int .u64 v] = (R.keys.set i v).map u64V := by
    show (R.keys.map u64V).set i _ = _
    rw [List.map_set]; rfl
  refine ⟨_, s3, ⟨⟨some (blk b), kc, oa, oc, ol, ?_, ?_, ?_, hm, fun y hy => (hx y hy).step s3⟩, by rw [s3.own hbk.lt]; exact tg⟩⟩
  · have hgb : q ≠ b := fun e => hk1.ne hbk (by decide) _ ha (by rw [e])
    have e : Rng.V { R with keys := R.keys.set i v } k (some (blk b)) kc oa oc = Rng.V R k (some (blk b)) kc oa oc := by unfold Rng.V; rw [List.length_set]
    rw [e, ← ha]; exact hbk.ext X3 hgb
  · unfold KRw
    rw [← hset, List.length_set, ← ha]
    exact h3
  · exact ho.keep X3 (fun ad' ha' h2 => ho.apart hk1 (by decide) ad' (blk b) ha' ha h2) fun b hb => s3.own hb
theorem EG.who (h : EG w o q k R) : w.cell? ((blk q).add 1) = some (.int .i64 R.who) := by
  obtain ⟨⟨ka, kc, oa, oc, ol, hbk, _⟩, tg⟩ := h
  exact hbk.cella (i := 1) rfl
theorem EG.secret (h : EG w o q k R) : w.cell? ((blk q).add 2) = some (.int .u64 R.secret) := by
  obtain ⟨⟨ka, kc, oa, oc, ol, hbk, _⟩, tg⟩ := h
  exact hbk.cella (i := 2) rfl
theorem EG.orc (h : EG w o q k R) : w.cell? ((blk q).add 0) = some (.pointer (some (blk k))) := by
  obtain ⟨⟨ka, kc, oa, oc, ol, hbk, _⟩, tg⟩ := h
  exact hbk.cella (i := 0) rfl
theorem EG.keysC (h : EG w o q k R) : ∃ ka kc, w.cell? ((blk q).add 3) = some (.slice ka R.keys.length kc) := by
  obtain ⟨⟨ka, kc, oa, oc, ol, hbk, _⟩, tg⟩ := h
  exact ⟨ka, kc, hbk.cella (i := 3) rfl⟩
theorem EG.oldsC (h : EG w o q k R) : ∃ ka kc, w.cell? ((blk q).add 4) = some (.slice ka R.olds.length kc) := by
  obtain ⟨⟨ka, kc, oa, oc, ol, hbk, _⟩, tg⟩ := h
  exact ⟨oa, oc, hbk.cella (i := 4) rfl⟩
def keyK (R : Rng) (e : Int) : Int × Int := if e < 0 ∨ (R.keys.length : Int) ≤ e then (0, 2) else if R.keys[e.toNat]?.getD 0 = 0 then (0, 11) else (R.keys[e.toNat]?.getD 0, 0)
theorem Q4R (h : EG w o q k R) (e : Int) : Calls Tryz.prog 68 #[.pointer (some (blk q)), .int .i64 e] w (Ret (.tuple #[.int .u64 (keyK R e).1, .int .i64 (keyK R e).2]) fun w' => w' = w) := by
  refine Q14.run _ _ ?_
  unfold Q14.N
  refine ⟨fun h => (by cases h), fun _ => ⟨fun h0 => ?_, fun h0 => ?_⟩⟩
  · unfold keyK; rw [if_pos (.inl h0)]; exact ⟨rfl, rfl⟩
  obtain ⟨ka, kc, hc⟩ := h.keysC
  refine ⟨_, rfl, _, _, _, hc, fun h1 => ?_, fun h1 => ?_⟩
  · unfold keyK; rw [if_pos (.inr h1)]; exact ⟨rfl, rfl⟩
  obtain ⟨i, rfl⟩ := Int.eq_ofNat_of_zero_le h0
  obtain ⟨ka2, kc2, ad, hc2, ha, hv⟩ := h.key (i := i) (by omega)
  have hk : keyK R (i : Int) = if R.keys[i]?.getD 0 = 0 then (0, 11) else (R.keys[i]?.getD 0, 0) := by unfold keyK; rw [if_neg (by omega)]; rfl
  refine ⟨_, _, _, hc2, ad, ha, by omega, by omega, _, by rw [Int.toNat_natCast]; exact hv, fun hz => ?_, fun hz => ?_⟩
  · rw [hk, if_pos hz]; exact ⟨rfl, rfl⟩
  · rw [hk, if_neg hz]
    exact ⟨_, _, _, hc2, ad, ha, by omega, by omega, _, by rw [Int.toNat_natCast]; exact hv, rfl, rfl⟩
theorem Q3s (ok : Tags w o) {who secret : Int} (h0 : 0 ≤ who) (h1 : who < 8) (k : Nat) : Calls Tryz.prog 18 #[.pointer (some (blk k)), .int .i64 who, .int .u64 secret] w (fun x w' => ∃ q o', x = .returned (.tuple #[.pointer (some (blk q)), .int .i64 0]) ∧ w.heap.size ≤ q ∧ Step no w o w' o' ∧ EG w' o' q k ⟨who, secret, [], []⟩) := by
  refine (Q1r.go _ _ _ (R := fun v w' => ∃ q o', v = (.tuple #[.pointer (some (blk q)), .int .i64 0]) ∧ w.heap.size ≤ q ∧ Step no w o w' o' ∧ EG w' o' q k ⟨who, secret, [], []⟩) ?_).mono fun x w' ⟨v, he, q, o', hv, hw⟩ => ⟨q, o', by rw [he, hv], hw⟩
  unfold Q1r.N
  refine ⟨fun h => absurd h (by omega), fun _ => ⟨fun h => absurd h (by omega), fun _ => ⟨fun h => (by cases h), fun _ w7 q8 X7 hb hq hq' => ?_⟩⟩⟩
  have s := (Step.of_no X7 ok).tag hq hq'
  exact ⟨q8, _, rfl, hq, s, ⟨none, 0, none, 0, [], hb, Grows.nil _ _ _ _ _, Grows.nil _ _ _ _ _, rfl, fun x h => (by cases h)⟩, Q1E⟩
end
set_option maxHeartbeats 4000000
open W (OwnB GivesW)
def tells (S : OS) (olds : List (List UInt8)) (e : Nat) (ks : List Int) : Prop :=
  (ks[e + 1]?.getD 0 ≠ 0 ∧ ks[e]?.getD 0 = 0) ∧ (openOf S (ks[e + 1]?.getD 0) (boundE ((e + 1 : Nat) : Int)) (olds[e + 1]?.getD [])).2 = 0 ∧ (openOf S (ks[e + 1]?.getD 0) (boundE ((e + 1 : Nat) : Int)) (olds[e + 1]?.getD [])).1.length = 8
instance (S : OS) (olds : List (List UInt8)) (e : Nat) (ks : List Int) : Decidable (tells S olds e ks) := by unfold tells; infer_instance
def backK (S : OS) (olds : List (List UInt8)) : Nat → List Int → List Int
  | 0, ks => ks
  | e + 1, ks => if tells S olds e ks then backK S olds e (ks.set e (valOf (openOf S (ks[e + 1]?.getD 0) (boundE ((e + 1 : Nat) : Int)) (olds[e + 1]?.getD [])).1)) else ks
def Short (S : OS) : Prop := ∀ x s, alook S.sealed x = some s → s.plain.length ≤ 1000000
section
variable {w w' w1 : World} {o o' o1 : Own} {q k p N m : Nat} {K : Nat → Prop} {R : Rng} {S : OS} {b : List UInt8} {a : Option Addr} {c : Nat}
theorem Q67 (h : EG w o q k R) (hP : POrc w o k S) (ok : Tags w o) (hqk : q ≠ k) (hS : Short S) (hl : R.keys.length = R.olds.length) (h0 : 0 < R.keys.length) (h1 : R.keys.length < 1000000) (hol : ∀ b ∈ R.olds, b.length < 1000000) :
    Calls Tryz.prog 66 #[.pointer (some (blk q))] w (fun x w' => x = .returned (.tuple #[]) ∧ ∃ o', Step (fun j => j = q) w o w' o' ∧ EG w' o' q k { R with keys := backK S R.olds (R.keys.length - 1) R.keys }) := by
  refine (Q13.go _ (R := fun v w' => v = .tuple #[] ∧ ∃ o', Step (fun j => j = q) w o w' o' ∧ EG w' o' q k { R with keys := backK S R.olds (R.keys.length - 1) R.keys }) ?_).mono fun x w' ⟨v, he, hv, hw⟩ => ⟨by rw [he, hv], hw⟩
  unfold Q13.N
  obtain ⟨ka0, kc0, hc0⟩ := h.keysC
  have hkq : ¬ k = q := fun e => hqk e.symm
  refine ⟨_, rfl, _, _, _, hc0, by omega, by omega, ?_⟩
  refine ⟨fun m vs w1 => ∃ (e : Nat) (o1 : Own) (ks : List Int), vs = [.int .i64 e] ∧ m = e ∧ e < R.keys.length ∧ ks.length = R.keys.length ∧ Step (fun j => j = q) w o w1 o1 ∧ EG w1 o1 q k { R with keys := ks } ∧ backK S R.olds e ks = backK S R.olds (R.keys.length - 1) R.keys,
    R.keys.length - 1, ⟨R.keys.length - 1, o, R.keys, by congr 2; omega, rfl, by omega, rfl, Step.refl _ ok, h, rfl⟩, ?_⟩
  rintro m w8 i ⟨e, o8, ks, hi, hm, hel, hks, s8, E8, hB⟩
  simp only [List.cons.injEq, Value.int.injEq, true_and, and_true] at hi
  subst hi
  subst hm
  have fin : ∀ (w9 : World) (o9 : Own), backK S R.olds m ks = ks → Step (fun j => j = q) w8 o8 w9 o9 → EG w9 o9 q k { R with keys := ks } → Value.tuple #[] = .tuple #[] ∧ ∃ o', Step (fun j => j = q) w o w9 o' ∧ EG w9 o' q k { R with keys := backK S R.olds (R.keys.length - 1) R.keys } := fun w9 o9 hz s9 E9 => ⟨rfl, o9, s8.trans s9, by rw [← hB, hz]; exact E9⟩
  refine ⟨fun hgt => ?_, fun hle => ?_⟩
  rotate_left
  · have : m = 0 := by omega
    subst this
    exact fin w8 o8 rfl (Step.refl _ s8.ok) E8
  obtain ⟨e, rfl⟩ : ∃ e, m = e + 1 := ⟨m - 1, by omega⟩
  obtain ⟨ka1, kc1, ad1, c1, ha1, v1⟩ := E8.key (i := e + 1) (by show e + 1 < ks.length; omega)
  obtain ⟨ka2, kc2, ad2, c2, ha2, v2⟩ := E8.key (i := e) (by show e < ks.length; omega)
  have hr : c1 = c1 := rfl
  have v1 : w8.cell? (ad1.add ((e + 1) * 1)) = some (.int .u64 (ks[e + 1]?.getD 0)) := v1
  have v2 : w8.cell? (ad2.add (e * 1)) = some (.int .u64 (ks[e]?.getD 0)) := v2
  have ti : ∀ n : Nat, Int.toNat (n : Int) = n := Int.toNat_natCast
  have tj : Int.toNat (((e + 1 : Nat) : Int) - 1) = e := by omega
  refine ⟨_, _, _, c1, ad1, ha1, by omega, by show ((e + 1 : Nat) : Int) < (ks.length : Int); omega, _, by rw [ti]; exact v1, fun hn1 => ?_, fun hz1 => ?_⟩
  rotate_left
  · exact fin w8 o8 (by unfold backK; rw [if_neg (fun h => h.1.1 hz1)]) (Step.refl _ s8.ok) E8
  refine ⟨_, _, _, c2, by omega, by omega, ad2, ha2, by omega, by show ((e + 1 : Nat) : Int) - 1 < (ks.length : Int); omega, _, by rw [tj]; exact v2, fun hz2 => ?_, fun hn2 => ?_⟩
  rotate_left
  · exact fin w8 o8 (by unfold backK; rw [if_neg (fun h => hn2 h.1.2)]) (Step.refl _ s8.ok) E8
  obtain ⟨oa, oc, ad3, x, c3, ha3, v3, hx, hxk⟩ := E8.old (i := e + 1) (by show e + 1 < R.olds.length; omega)
  have hx : x.bs = R.olds[e + 1]?.getD [] := hx
  refine ⟨_, E8.orc, _, _, _, c1, ad1, ha1, by omega, by show ((e + 1 : Nat) : Int) < (ks.length : Int); omega, _, by rw [ti]; exact v1, _, _, _, c3, ad3, ha3, by omega, by show ((e + 1 : Nat) : Int) < (R.olds.length : Int); omega, _, _, _, by rw [ti]; exact v3, fun w22 X22 => ?_⟩
  refine (Q3U (e := ((e + 1 : Nat) : Int)) (by omega) (by omega) w22).mono fun u w37 ⟨ba, bc, he, hO, X37⟩ => ⟨_, _, _, he, ?_⟩
  have X := X22.trans X37
  have s37 := Step.of_no X s8.ok
  have hP37 := (hP.step s8 hkq).step s37 id
  refine ⟨by rw [ti]; exact X.cell v3 id, X.cell c3 id, by rw [ti]; exact X.cell v1 id, X.cell c1 id, X.cell E8.orc id, ?_⟩
  have hxk37 := hxk.step s37
  have hxl : x.bs.length < 1000000 := by
    rw [hx, List.getElem?_eq_getElem (by omega)]
    exact hol _ (List.getElem_mem _)
  have op := OpenO hP37 s37.ok (ks[e + 1]?.getD 0) (ba := ba) (bc := bc) (b := boundE ((e + 1 : Nat) : Int)) hO.row hxk37.1.1 hxl hxk37.2 (fun s hs => hS _ s hs)
  obtain ⟨r, hr⟩ : ∃ r, openOf S (ks[e + 1]?.getD 0) (boundE ((e + 1 : Nat) : Int)) x.bs = r := ⟨_, rfl⟩
  rw [hr] at op
  rw [hx] at hr
  have E37 := E8.step s37 id
  refine Calls.mono op fun u w46 ⟨o46, pa, pc, he, s46, pr, hpc, _⟩ => ⟨_, _, _, _, he, fun hne => ?_, fun hz => ⟨fun hn8 => ?_, fun h8 => ?_⟩⟩
  · exact fin w46 o46 (by unfold backK; rw [if_neg (fun h => hne (by have := h.2.1; rw [hr] at this; exact this))]) (s37.none.trans s46.none) (E37.step s46 id)
  · exact fin w46 o46 (by unfold backK; rw [if_neg (fun h => hn8 (by have := h.2.2; rw [hr] at this; omega))]) (s37.none.trans s46.none) (E37.step s46 id)
  have ht : tells S R.olds e ks := ⟨⟨hn1, hz2⟩, by rw [hr]; exact hz, by rw [hr]; omega⟩
  have hlen : r.1.length = 8 := by omega
  have E46 := E37.step s46 id
  have s46' : Step (fun j => j = q) w8 o8 w46 o46 := s37.none.trans s46.none
  refine ⟨fun m2 vs w1 => ∃ (t : Nat) (o1 : Own), vs = [.int .i64 t] ∧ m2 + t = 8 ∧ Step (fun j => j = q) w46 o46 w1 o1 ∧ EG w1 o1 q k { R with keys := ks.set e (valOf (r.1.take t)) }, 8, ⟨0, o46, rfl, rfl, Step.refl _ s46.ok, ?_⟩, ?_⟩
  · have : ks.set e (valOf (r.1.take 0)) = ks := by
      have hz : (valOf (r.1.take 0) : Int) = ks[e]?.getD 0 := by rw [hz2]; rfl
      rw [hz, List.getElem?_eq_getElem (by omega)]
      exact List.set_getElem_self (by omega)
    rw [this]; exact E46
  rintro m2 w52 i2 ⟨t, o52, hi2, hm2, s52, E52⟩
  simp only [List.cons.injEq, Value.int.injEq, true_and, and_true] at hi2
  subst hi2
  refine ⟨fun htl => ?_, fun htl => ?_⟩
  · have ht8 : t < 8 := by omega
    have pr52 := (pr.step s52).1
    have hg : (bytesV r.1)[t]? = some (.int .u8 ((r.1[t]'(by omega)).toNat : Int)) := Q1H (by omega)
    obtain ⟨pad, hpad, hpc2⟩ := pr52 t _ hg
    obtain ⟨ka4, kc4, ad4, c4, ha4, v4⟩ := E52.key (i := e) (by show e < (ks.set e _).length; rw [List.length_set]; omega)
    have hk4 : (ks.set e ((valOf (r.1.take t) : Nat) : Int))[e]?.getD 0 = ((valOf (r.1.take t) : Nat) : Int) := by rw [List.getElem?_set_self (by omega)]; rfl
    have v4 : w52.cell? (ad4.add (e * 1)) = some (.int .u64 ((ks.set e ((valOf (r.1.take t) : Nat) : Int))[e]?.getD 0)) := v4
    rw [hk4] at v4
    have hll : ((ks.set e ((valOf (r.1.take t) : Nat) : Int)).length : Int) = ks.length := by rw [List.length_set]
    refine ⟨pad, hpad, by omega, by omega, _, by rw [ti, Nat.mul_one]; exact hpc2, _, _, _, c4, by omega, by omega, _, _, _, c4, by omega, by omega, ad4, ha4, by omega, by show ((e + 1 : Nat) : Int) - 1 < _; rw [hll]; omega, _, by rw [tj]; exact v4, ad4, ha4, by omega, by show ((e + 1 : Nat) : Int) - 1 < _; rw [hll]; omega, fun w57 X57 => ?_⟩
    have s57 := Step.of_no X57 s52.ok
    have E57 := E52.step s57 id
    have hlt := Q3c t (r.1.take t) (by simp; omega)
    have hlt2 : valOf (r.1.take t) < 2 ^ 56 := by
      refine Nat.lt_of_lt_of_le hlt ?_
      exact Nat.le_trans (Nat.pow_le_pow_right (by decide) (by omega : t ≤ 7)) (by decide)
    have hxx := u8_lt (r.1[t]'(by omega))
    have hval : IntKind.u64.wrap ((BitVec.ofInt (IntKind.bits .u64) (IntKind.u64.wrap (((valOf (r.1.take t) : Nat) : Int) * 256)) ||| BitVec.ofInt (IntKind.bits .u64) (IntKind.u64.wrap ((r.1[t]'(by omega)).toNat : Int))).toNat) = ((valOf (r.1.take (t + 1)) : Nat) : Int) := by
      rw [show (256 : Int) = 2 ^ min (Int.toNat 8) (IntKind.bits .u64) from rfl, or_byte hlt2 hxx, wu64 (by omega) (by omega), List.take_add_one, show r.1[t]?.toList = [r.1[t]'(by omega)] by simp [show t < r.1.length by omega], Q2l]
    rw [add_add, Nat.add_zero, tj, hval]
    obtain ⟨hcan, hset⟩ := E57.setKey s57.ok (i := e) (by show e < (ks.set e _).length; rw [List.length_set]; omega) (X57.cell c4 id) ha4 ((valOf (r.1.take (t + 1)) : Nat) : Int)
    refine ⟨hcan, Q01 fun w66 e66 => ?_⟩
    obtain ⟨o66, s66, E66⟩ := hset w66 e66
    refine ⟨by omega, by omega, m2 - 1, by omega, t + 1, o66, rfl, by omega, (s52.trans s57.none).trans s66, ?_⟩
    have hss : (ks.set e ((valOf (r.1.take t) : Nat) : Int)).set e ((valOf (r.1.take (t + 1)) : Nat) : Int) = ks.set e ((valOf (r.1.take (t + 1)) : Nat) : Int) := by rw [List.set_set]
    have E66 : EG w66 o66 q k { R with keys := (ks.set e ((valOf (r.1.take t) : Nat) : Int)).set e ((valOf (r.1.take (t + 1)) : Nat) : Int) } := E66
    rw [hss] at E66
    exact E66
  · have ht8 : t = 8 := by omega
    subst ht8
    rw [List.take_of_length_le (by omega)] at E52
    refine ⟨by omega, by omega, e, by omega, e, o52, ks.set e (valOf r.1), by congr 2; omega, rfl, by omega, by rw [List.length_set]; exact hks, (s8.trans s46').trans s52, E52, ?_⟩
    rw [← hB]
    show _ = (if tells S R.olds e ks then _ else _)
    rw [if_pos ht, hr]
end
open W (OwnB GivesW)
structure CH (w : World) (o : Own) (cg : Chg) (wa : Option Addr) (wc : Nat) (l : List Wr) (oa : Option Addr) (oc : Nat) : Prop where
  ws : Row w o wa (l.flatMap Wr.C)
  m : l.map Wr.p = cg.ws
  bs : ∀ x ∈ l, Row w o x.a (bytesV x.b) ∧ x.b.length ≤ x.c ∧ x.b.length < 1000000
  old : Row w o oa (bytesV cg.old)
  ol : cg.old.length < 1000000
  n : l.length < 1000000
theorem CH.step {K : Nat → Prop} {w w' : World} {o o' : Own} {cg : Chg} {wa oa : Option Addr} {wc oc : Nat} {l : List Wr} (h : CH w o cg wa wc l oa oc) (s : Step K w o w' o') : CH w' o' cg wa wc l oa oc :=
  ⟨h.ws.step s, h.m, fun x hx => ⟨(h.bs x hx).1.step s, (h.bs x hx).2⟩, h.old.step s, h.ol, h.n⟩
def idxW (l : List Wr) (n : Int) : Int := match l.findIdx? (fun x => x.who == n) with | some i => i | none => -1
def toldBy (S : OS) (R : Rng) (c : Chg) : Int × Int := match c.ws.find? (fun p => p.1 == R.who) with | some p => Q1a S R.secret p.2 | none => (0, 11)
def learnK (S : OS) (R : Rng) (c : Chg) : Rng × Int :=
  if c.kd ≠ 3 ∨ rightM c = false then (R, 1)
  else if 20 ≤ R.keys.length then (R, 3)
  else ({ R with keys := backK S (R.olds ++ [c.old]) R.keys.length (R.keys ++ [(toldBy S R c).1]), olds := R.olds ++ [c.old] }, (toldBy S R c).2)
theorem Q1W {K : Nat → Prop} {w w' : World} {o o' : Own} {b : Nat} {t : TypeId} {cs : List Value} (h : Blk w b t cs ∧ o b = none) (s : Step K w o w' o') : Blk w' b t cs ∧ o' b = none :=
  ⟨h.1.ext s.ext (fun ⟨k, h1, _⟩ => by rw [h.2] at h1; cases h1), by rw [s.own h.1.lt]; exact h.2⟩
theorem Q4g (l : List Wr) (n : Int) : (∃ (i : Nat) (x : Wr), l[i]? = some x ∧ x.who = n ∧ idxW l n = (i : Int) ∧ (l.map Wr.p).find? (fun p => p.1 == n) = some x.p) ∨ (idxW l n = -1 ∧ (l.map Wr.p).find? (fun p => p.1 == n) = none) := by
  unfold idxW
  induction l with
  | nil => exact .inr ⟨rfl, rfl⟩
  | cons y r ih =>
    rw [List.findIdx?_cons, List.map_cons, List.find?_cons]
    by_cases hy : (y.who == n) = true
    · have hp : (y.p.1 == n) = true := hy
      rw [if_pos hy, hp]
      exact .inl ⟨0, y, rfl, by simpa using hy, rfl, rfl⟩
    · have hp : (y.p.1 == n) = false := by show (y.who == n) = false; simpa using hy
      rw [if_neg hy, hp]
      rcases ih with ⟨i, x, h1, h2, h3, h4⟩ | ⟨h3, h4⟩
      · cases hf : r.findIdx? (fun x => x.who == n) with
        | none => rw [hf] at h3; exact absurd h3 (by show ¬ (-1 : Int) = _; omega)
        | some j =>
          rw [hf] at h3
          have : j = i := by have h3 : (j : Int) = i := h3; omega
          subst this
          exact .inl ⟨j + 1, x, h1, h2, rfl, h4⟩
      · cases hf : r.findIdx? (fun x => x.who == n) with
        | none => exact .inr ⟨rfl, h4⟩
        | some j => rw [hf] at h3; have h3 : (j : Int) = -1 := h3; omega
section
variable {w w' w1 : World} {o o' o1 : Own} {q k p N m : Nat} {K : Nat → Prop} {R : Rng} {S : OS} {b : List UInt8} {a : Option Addr} {c : Nat} {l : List Wr} {cg : Chg} {wa oa : Option Addr} {wc oc : Nat}
theorem Q6f {qc : Nat} (h : EG w o q k R) (hq : w.cell? (blk qc) = some (.pointer (some (blk q)))) (x : Wr) :
    Calls Tryz.prog 62 #[.agg #[.int .i64 x.who, .slice x.a x.b.length x.c], .pointer (some (blk qc))] w (Ret (.bool (x.who == R.who)) fun w' => Ext no w w') := by
  refine Q0M.run _ _ _ _ _ ?_
  unfold Q0M.N
  exact ⟨_, hq, _, rfl, _, h.who, fun w5 X5 => ⟨rfl, X5⟩⟩
theorem Q5P {qc : Nat} (h : EG w o q k R) (hq : Blk w qc 39 [.pointer (some (blk q))]) (ok : Tags w o) (hr : RowAt w wa (l.flatMap Wr.C)) (hl : l.length < 1000000) :
    Calls Tryz.prog 63 #[.slice wa l.length wc, .func (.func 62) #[] #[.pointer (some (blk qc))]] w (Ret (.int .i64 (idxW l R.who)) fun w' => Ext no w w') := by
  refine Q07.run _ _ _ _ _ _ ?_
  unfold Q07.N
  refine ⟨fun m vs w1 => ∃ t : Nat, vs = [.int .i64 t] ∧ m + t = l.length ∧ Ext no w w1 ∧ ∀ i x, i < t → l[i]? = some x → (x.who == R.who) = false, l.length, ⟨0, rfl, rfl, Ext.refl _ _, fun i x h => absurd h (by omega)⟩, ?_⟩
  rintro m w6 i ⟨t, hi, hm, X6, hn⟩
  simp only [List.cons.injEq, Value.int.injEq, true_and, and_true] at hi
  subst hi
  refine ⟨fun ht => ?_, fun ht => ?_⟩
  · have htl : t < l.length := by omega
    have hg : l[t]? = some l[t] := List.getElem?_eq_getElem htl
    generalize l[t] = x at *
    have hr6 := hr.no X6
    obtain ⟨ad, rfl⟩ := hr6.faddr Wr.len (by decide) htl
    have s6 := Step.of_no X6 ok
    refine ⟨ad, rfl, by omega, by omega, x.who, x.a, x.b.length, x.c, by rw [Int.toNat_natCast]; exact hr6.floads Wr.len hg, by kernel_rfl, ?_⟩
    refine Calls.mono (Q6f (h.step s6 id) ((hq.ext X6 id).cella (i := 0) rfl) x) fun u w14 ⟨he, X14⟩ => ⟨_, he, fun hy => ?_, fun hno => ⟨by omega, by omega, m - 1, by omega, t + 1, rfl, by omega, X6.trans X14, fun i y hi hy => ?_⟩⟩
    · have : idxW l R.who = (t : Int) := by
        unfold idxW
        have hf : l.findIdx? (fun x => x.who == R.who) = some t := by
          rw [List.findIdx?_eq_some_iff_getElem]
          refine ⟨htl, ?_, fun j hj => ?_⟩
          · rw [List.getElem?_eq_getElem htl] at hg
            rw [Option.some.inj hg]; exact hy
          · rw [hn j _ hj (List.getElem?_eq_getElem (by omega))]; decide
        rw [hf]
      rw [this]
      exact ⟨rfl, X6.trans X14⟩
    · by_cases hit : i = t
      · subst hit
        rw [hg] at hy
        cases hy
        exact hno
      · exact hn i y (by omega) hy
  · have : idxW l R.who = -1 := by
      unfold idxW
      have hf : l.findIdx? (fun x => x.who == R.who) = none := by
        rw [List.findIdx?_eq_none_iff]
        intro y hy
        obtain ⟨i, hi⟩ := List.mem_iff_getElem?.1 hy
        exact hn i y (by have := (List.getElem?_eq_some_iff.1 hi).1; omega) hi
      rw [hf]
    rw [this]
    exact ⟨rfl, X6⟩
theorem Q3Q {Φ : World → Prop} {qc pp : Nat} {x v : Int} (h : EG w o q k R) (hP : POrc w o k S) (ok : Tags w o) (hqk : q ≠ k) (hS : Short S) (hl : R.keys.length = R.olds.length) (h1 : R.keys.length < 1000) (hol : ∀ b ∈ R.olds, b.length < 1000000)
    (hq : Blk w qc 39 [.pointer (some (blk q))] ∧ o qc = none) (M : Mine [pp] w o) (hpq : pp ≠ q) (hold : Row w o oa (bytesV b)) (hb : b.length < 1000000) (hv : x = v)
    (hΦ : ∀ w' o', Step (fun j => j = q) w o w' o' → EG w' o' q k { R with keys := backK S (R.olds ++ [b]) R.keys.length (R.keys ++ [x]), olds := R.olds ++ [b] } → Φ w') :
    ∃ (x52 : Option Addr), w.cell? (blk qc) = some (.pointer x52) ∧
    ∃ (x54 : Option Addr), w.cell? (blk qc) = some (.pointer x54) ∧
    ∃ a55 : Addr, x54 = some a55 ∧
    ∃ (keys57a : Option Addr) (keys57n keys57c : Nat), w.cell? (a55.add 3) = some (.slice keys57a keys57n keys57c) ∧
    ∀ (ww58 : World) (q59 : Nat), Ext no w ww58 → Blk ww58 q59 26 [.int .u64 v] → w.heap.size ≤ q59 → q59 < ww58.heap.size →
    ww58.cell? (a55.add 3) = some (.slice keys57a keys57n keys57c) ∧
    ww58.cell? (blk qc) = some (.pointer x54) ∧
    ww58.cell? (blk qc) = some (.pointer x52) ∧
    ∃ (a63a : Option Addr) (a63n a63c : Nat) (ww64 : World), (Builtin.append_ #[22, 22] 22 #[.slice keys57a keys57n keys57c, .slice (some (blk q59)) 1 1]).run Tryz.prog ww58 = .ok (.slice a63a a63n a63c) ww64 ∧
    Keep [pp] ww58 ww64 ∧
    ww64.cell? (blk qc) = some (.pointer x52) ∧
    ∃ a66 : Addr, x52 = some a66 ∧
    Q0e ww64 ((a66.add 3).add 0) ∧
    (∀ p ∈ [pp], p ≠ Addr.block (a66.add 3)) ∧
    thenW (ww64.setCell ((a66.add 3).add 0) (.slice a63a a63n a63c)) fun ww67 =>
    ∃ (x70 : Option Addr), ww67.cell? (blk qc) = some (.pointer x70) ∧
    ∃ (x72 : Option Addr), ww67.cell? (blk qc) = some (.pointer x72) ∧
    ∃ a73 : Addr, x72 = some a73 ∧
    ∃ (olds75a : Option Addr) (olds75n olds75c : Nat), ww67.cell? (a73.add 4) = some (.slice olds75a olds75n olds75c) ∧
    ∀ (ww68 : World), Ext no ww67 ww68 →
    Calls Tryz.prog 65 #[.slice oa b.length oc] ww68 fun ee77 ww78 => ∃ (clone76a : Option Addr) (clone76n clone76c : Nat), ee77 = .returned (.slice clone76a clone76n clone76c) ∧
    ww78.cell? (a73.add 4) = some (.slice olds75a olds75n olds75c) ∧
    ww78.cell? (blk qc) = some (.pointer x72) ∧
    ww78.cell? (blk qc) = some (.pointer x70) ∧
    ∀ (ww82 : World) (q83 : Nat), Ext no ww78 ww82 → Blk ww82 q83 25 [.slice clone76a clone76n clone76c] → ww78.heap.size ≤ q83 → q83 < ww82.heap.size →
    ww82.cell? (a73.add 4) = some (.slice olds75a olds75n olds75c) ∧
    ww82.cell? (blk qc) = some (.pointer x72) ∧
    ww82.cell? (blk qc) = some (.pointer x70) ∧
    ∃ (a87a : Option Addr) (a87n a87c : Nat) (ww88 : World), (Builtin.append_ #[59, 59] 59 #[.slice olds75a olds75n olds75c, .slice (some (blk q83)) 1 1]).run Tryz.prog ww82 = .ok (.slice a87a a87n a87c) ww88 ∧
    ww88.cell? (blk qc) = some (.pointer x70) ∧
    ∃ a90 : Addr, x70 = some a90 ∧
    Q0e ww88 ((a90.add 4).add 0) ∧
    thenW (ww88.setCell ((a90.add 4).add 0) (.slice a87a a87n a87c)) fun ww91 =>
    ∃ (x93 : Option Addr), ww91.cell? (blk qc) = some (.pointer x93) ∧
    Calls Tryz.prog 66 #[.pointer x93] ww91 fun ee94 ww95 => ee94 = .returned (.tuple #[]) ∧
    Φ ww95 := by
  subst hv
  obtain ⟨ka, kc, hc3⟩ := h.keysC
  have cq : ∀ {w' : World} {o' : Own} {K : Nat → Prop}, Step K w o w' o' → w'.cell? (blk qc) = some (.pointer (some (blk q))) := fun s => (Q1W hq s).1.cella (i := 0) rfl
  have cq0 := cq (Step.refl no ok)
  have hkq : ¬ k = q := fun e => hqk e.symm
  refine ⟨_, cq0, _, cq0, _, rfl, _, _, _, hc3, fun w58 q59 X58 b58 hq59 hq59' => ?_⟩
  have s58 := Step.of_no X58 ok
  have h58 := h.step s58 id
  refine ⟨X58.cell hc3 id, cq s58, cq s58, ?_⟩
  obtain ⟨a6, n6, c6, w64, o64, hrun, s64, hcan, hst⟩ := h58.pushKey s58.ok (by omega) x b58 (X58.cell hc3 id)
  have s64' := s58.none.trans s64
  refine ⟨a6, n6, c6, w64, hrun, (M.step s58).keep s64 (fun p hp => by rw [List.mem_singleton.1 hp]; exact hpq), cq s64', _, rfl, ?_⟩
  have a30 : ((blk q).add 3).add 0 = (blk q).add 3 := by rw [add_add]
  rw [a30]
  refine ⟨hcan, fun p hp => by rw [List.mem_singleton.1 hp, Q1g]; exact hpq, Q01 fun w67 e67 => ?_⟩
  obtain ⟨s67, E67⟩ := hst w67 e67
  have s67' := s58.none.trans s67
  obtain ⟨oa1, oc1, hc4⟩ := E67.oldsC
  refine ⟨_, cq s67', _, cq s67', _, rfl, _, _, _, hc4, fun w68 X68 => ?_⟩
  have s68 := Step.of_no X68 s67'.ok
  refine (Q1M ((hold.step s67').step s68).1 (by omega)).mono fun u w78 ⟨ca, cc, he, hcc, hcr, X78, hcf⟩ => ⟨_, _, _, he, ?_⟩
  have s78 := Step.of_no X78 s68.ok
  have s678 := s68.trans s78
  have s78' := s67'.trans s678.none
  have X6778 := X68.trans X78
  have bsx : BSk w78 (grow w68 (grow w67 (grow w64 o64))) ⟨ca, cc, b⟩ := ⟨Row.fresh hcr fun ad ha => (hcf ad ha).1, hcc⟩
  refine ⟨X6778.cell hc4 id, cq s78', cq s78', fun w82 q83 X82 b82 hq83 hq83' => ?_⟩
  have s82 := Step.of_no X82 s78.ok
  have s82' := s78'.trans s82.none
  have E82 := (E67.step s678 id).step s82 id
  refine ⟨(X6778.trans X82).cell hc4 id, cq s82', cq s82', ?_⟩
  obtain ⟨a8, n8, c8, w88, o88, hrun8, s88, hcan8, hst8⟩ := E82.pushOld s82.ok (by show R.olds.length < 1000000; omega) (bsx.step s82) b82 ((X6778.trans X82).cell hc4 id)
  have s88' := s82'.trans s88
  have a40 : ((blk q).add 4).add 0 = (blk q).add 4 := by rw [add_add]
  refine ⟨a8, n8, c8, w88, hrun8, cq s88', _, rfl, ?_⟩
  rw [a40]
  refine ⟨hcan8, Q01 fun w91 e91 => ?_⟩
  obtain ⟨s91, E91⟩ := hst8 w91 e91
  have s91' := s82'.trans s91
  refine ⟨_, cq s91', ?_⟩
  have E91 : EG w91 (grow w88 o88) q k { R with keys := R.keys ++ [x], olds := R.olds ++ [b] } := E91
  have hlen : (R.keys ++ [x]).length = R.keys.length + 1 := by simp
  have bk := Q67 E91 (hP.step s91' hkq) s91'.ok hqk hS (by show (R.keys ++ [x]).length = (R.olds ++ [b]).length; simp [hl]) (by show 0 < (R.keys ++ [x]).length; omega) (by show (R.keys ++ [x]).length < _; omega) (fun y hy => by
    rcases List.mem_append.1 hy with hy | hy
    · exact hol y hy
    · rw [List.mem_singleton.1 hy]; exact hb)
  refine Calls.mono bk fun u w95 ⟨he, o95, s95, E95⟩ => ⟨he, hΦ w95 o95 (s91'.trans s95) ?_⟩
  have E95 : EG w95 o95 q k { R with keys := backK S (R.olds ++ [b]) ((R.keys ++ [x]).length - 1) (R.keys ++ [x]), olds := R.olds ++ [b] } := E95
  rw [hlen, Nat.add_sub_cancel] at E95
  exact E95
theorem Q3T (h : EG w o q k R) (hP : POrc w o k S) (ok : Tags w o) (hqk : q ≠ k) (hS : Short S) (hl : R.keys.length = R.olds.length) (h1 : R.keys.length < 1000) (hol : ∀ b ∈ R.olds, b.length < 1000000) (hC : CH w o cg wa wc l oa oc) :
    Calls Tryz.prog 25 #[.pointer (some (blk q)), chgV cg wa wc oa oc] w (Ret (.int .i64 (learnK S R cg).2) fun w' => ∃ o', Step (fun j => j = q) w o w' o' ∧ EG w' o' q k (learnK S R cg).1) := by
  refine Q0m.run _ _ _ _ _ _ _ _ _ _ _ ?_
  unfold Q0m.N
  intro w8 qc X8 b8 hqc hqc'
  have s8 := Step.of_no X8 ok
  have hq8 : Blk w8 qc 39 [.pointer (some (blk q))] ∧ grow w o qc = none := ⟨b8, grow_ge hqc⟩
  have bad : ∀ (k2 : Int) (w9 : World) (o9 : Own), learnK S R cg = (R, k2) → Step no w o w9 o9 → Value.int .i64 k2 = .int .i64 (learnK S R cg).2 ∧ ∃ o', Step (fun j => j = q) w o w9 o' ∧ EG w9 o' q k (learnK S R cg).1 := fun k2 w9 o9 hK s9 => by
    rw [hK]; exact ⟨rfl, o9, s9.none, h.step s9 id⟩
  have hlen : cg.ws.length = l.length := by rw [← hC.m]; simp
  refine ⟨_, b8.cella (i := 0) rfl, fun e => (by cases e), fun _ => ⟨fun hk w10 X10 => ?_, fun hk w10 pp X10 P10 => ?_⟩⟩
  · exact bad 1 w10 _ (by unfold learnK; rw [if_pos (.inl hk)]) (s8.trans (Step.of_no X10 s8.ok))
  obtain ⟨s10', M10⟩ := Step.priv X10 P10 s8.ok
  have s10 := s8.trans s10'
  have hpp := P10 pp (by simp)
  have l8 := X8.size
  have hql := h.lt
  have hpq : pp ≠ q := by omega
  have R10 := Q4h (w := w10) (cg := cg) (wa := wa) (oa := oa) (wc := wc) (oc := oc) (hC.step s10).ws.1 hC.m hC.n hC.ol
  refine Calls.mono R10 fun u w20 ⟨he, X20⟩ => ⟨_, he, (M10.keep (Step.of_no X20 s10'.ok) fun _ _ h => h), fun hr => ?_, fun hr => ?_⟩
  · exact bad 1 w20 _ (by unfold learnK; rw [if_pos (.inr hr)]) (s10.trans (Step.of_no X20 s10.ok))
  have t20 := Step.of_no X20 s10.ok
  have s20 := s10.trans t20
  have M20 := M10.step t20
  have E20 := h.step s20 id
  have hq20 := Q1W (Q1W hq8 s10') t20
  obtain ⟨ka, kc, hc3⟩ := E20.keysC
  refine ⟨_, hq20.1.cella (i := 0) rfl, _, rfl, _, _, _, hc3, fun h20 => ?_, fun h20 => ?_⟩
  · exact bad 3 w20 _ (by unfold learnK; rw [if_neg (by rw [hr]; simp [hk]), if_pos (by omega)]) s20
  have hK : learnK S R cg = ({ R with keys := backK S (R.olds ++ [cg.old]) R.keys.length (R.keys ++ [(toldBy S R cg).1]), olds := R.olds ++ [cg.old] }, (toldBy S R cg).2) := by
    unfold learnK; rw [if_neg (by rw [hr]; simp [hk]), if_neg (by omega)]
  have hCw := (hC.step s20).ws.1
  have ix := Q5P (wc := wc) E20 hq20.1 s20.ok hCw hC.n
  rw [hlen]
  refine Calls.mono ix fun u w30 ⟨he, X30⟩ => ⟨_, he, M20.keep (Step.of_no X30 s20.ok) (fun _ _ h => h), ?_⟩
  have t30 := Step.of_no X30 s20.ok
  have s30 := s20.trans t30
  have M30 := M20.step t30
  have E30 := h.step s30 id
  have P30 := hP.step s30 id
  have C30 := hC.step s30
  have hq30 := Q1W hq20 t30
  have fin : ∀ (x : Int) (w9 : World) (o9 : Own), (toldBy S R cg).2 = x → ∀ (w1 : World) (o1 : Own), Step no w o w1 o1 → Step (fun j => j = q) w1 o1 w9 o9 → EG w9 o9 q k { R with keys := backK S (R.olds ++ [cg.old]) R.keys.length (R.keys ++ [(toldBy S R cg).1]), olds := R.olds ++ [cg.old] } → Value.int .i64 x = .int .i64 (learnK S R cg).2 ∧ ∃ o', Step (fun j => j = q) w o w9 o' ∧ EG w9 o' q k (learnK S R cg).1 := fun x w9 o9 hx w1 o1 s1 s9 E9 => by
    rw [hK, ← hx]; exact ⟨rfl, o9, s1.none.trans s9, E9⟩
  refine ⟨fun hge => ?_, fun hlt => ?_⟩
  · rcases Q4g l R.who with ⟨i, x, g1, g2, g3, g4⟩ | ⟨g3, g4⟩
    · have ht : toldBy S R cg = Q1a S R.secret x.b := by unfold toldBy; rw [← hC.m, g4]; rfl
      have hil := (List.getElem?_eq_some_iff.1 g1).1
      obtain ⟨ad, had⟩ := C30.ws.1.faddr Wr.len (by decide) hil
      have hw30 := C30.ws.1
      rw [had] at hw30
      have cB : w30.cell? ((ad.add (i * 2)).add 1) = some (.slice x.a x.b.length x.c) := hw30.fcell Wr.len g1 1 rfl
      rw [g3]
      refine ⟨_, hq30.1.cella (i := 0) rfl, _, rfl, _, E30.orc, _, hq30.1.cella (i := 0) rfl, _, rfl, _, E30.secret, ad, had, by omega, by omega, _, _, _, by rw [Int.toNat_natCast]; exact cB, fun w32 X32 => ?_⟩
      have t32 := Step.of_no X32 s30.ok
      have s32 := s30.trans t32
      obtain ⟨x1, x2, x3⟩ := (hC.step s32).bs x (List.mem_of_getElem? g1)
      refine Calls.mono (UnwrapO (hP.step s32 id) R.secret x1.1 x3 x2) fun u w49 ⟨he, X49⟩ => ⟨_, _, he, (M30.step t32).keep (Step.of_no X49 s32.ok) (fun _ _ h => h), ?_⟩
      have t49 := Step.of_no X49 s32.ok
      have s49 := s32.trans t49
      have M49 := (M30.step t32).step t49
      refine Q3Q (h.step s49 id) (hP.step s49 id) s49.ok hqk hS hl h1 hol (Q1W (Q1W hq30 t32) t49) M49 hpq (hC.step s49).old hC.ol (show (toldBy S R cg).1 = (Q1a S R.secret x.b).1 by rw [ht]) fun w9 o9 s9 E9 => ?_
      exact fin _ w9 o9 (by rw [ht]) _ _ s49 s9 E9
    · rw [g3] at hge; exact absurd hge (by decide)
  · rcases Q4g l R.who with ⟨i, x, g1, g2, g3, g4⟩ | ⟨g3, g4⟩
    · rw [g3] at hlt; omega
    · have ht : toldBy S R cg = (0, 11) := by unfold toldBy; rw [← hC.m, g4]
      refine Q3Q E30 P30 s30.ok hqk hS hl h1 hol hq30 M30 hpq C30.old hC.ol (show (toldBy S R cg).1 = 0 by rw [ht]) fun w9 o9 s9 E9 => ?_
      exact fin _ w9 o9 (by rw [ht]) _ _ s30 s9 E9
end
open W (OwnB GivesW)
def only (k : Nat) (w : World) (o o' : Own) : Own := fun b => if b < w.heap.size then o b else if o' b = some k then some k else none
section
variable {w0 w w' w1 : World} {o0 o o' o1 : Own} {q k p N m : Nat} {K : Nat → Prop} {S : OS} {b : List UInt8} {a : Option Addr} {c : Nat} {cs : List Value}
theorem only_k (s : Step K w0 o0 w o) {b : Nat} (h : o b = some k) : only k w0 o0 o b = some k := by
  unfold only
  split
  · rename_i hb; rw [← s.same b hb]; exact h
  · first | rfl | rw [if_pos h]
theorem only_of (s : Step K w0 o0 w o) {b j : Nat} (h : only k w0 o0 o b = some j) : o b = some j := by
  unfold only at h
  split at h
  · rename_i hb; rw [s.same b hb]; exact h
  · split at h
    · rename_i h2; rw [h2, ← h]
    · cases h
theorem Q6x (s : Step K w0 o0 w o) {b : Nat} (h : o b = none) : only k w0 o0 o b = none := by
  cases hc : only k w0 o0 o b with
  | none => rfl
  | some j => rw [only_of s hc] at h; cases h
theorem Q2e (s : Step K w0 o0 w o) (k : Nat) : Step K w0 o0 w (only k w0 o0 o) :=
  ⟨s.ext, fun b hb => if_pos hb, s.ok0, fun b j hb hj => s.ok b j hb (only_of s hj)⟩
theorem Q1K (h : Row w o a cs) (s : Step K w0 o0 w o) (k : Nat) : Row w (only k w0 o0 o) a cs := ⟨h.1, fun h0 ad ha => Q6x s (h.2 h0 ad ha)⟩
theorem Q2C {e : TypeId} {size n : Nat} (h : LRow e size N w o a n c cs) (s : Step K w0 o0 w o) (hN : w0.heap.size ≤ N) (hk : k < N) : Row w (only k w0 o0 o) a cs := ⟨h.row, fun h0 ad ha => by
  rcases h with ⟨h1, h2, h3, h4⟩ | ⟨j, hj, hjw, g⟩
  · exact absurd h4 h0
  · have hg := g.tg ad ha
    show (if ad.block < w0.heap.size then o0 ad.block else if o ad.block = some k then some k else none) = none
    split
    · rename_i hb
      rw [s.same _ hb] at hg
      have := s.ok0 _ _ hb hg.1
      omega
    · rw [if_neg (fun e => by rw [hg.1] at e; cases e; omega)]⟩
theorem POrc.only (h : POrc w o k S) (s : Step K w0 o0 w o) : POrc w (only k w0 o0 o) k S := by
  obtain ⟨g, rfl, h1, h2, h3⟩ := h
  exact ⟨g, rfl, h1, fun b hb => only_k s (h2 b hb), fun b hb j hj hne => h3 b hb j (only_of s hj) hne⟩
theorem WRow.push {l : List Wr} (h : WRow N w o a c l) (ok : Tags w o) (hl : l.length < 1000000) (x : Wr) {q : Nat} (hb : Blk w q 116 x.C) (hq : N ≤ q) (hq' : q < w.heap.size) :
    ∃ a' n' c' w' o', (Builtin.append_ #[70, 70] 70 #[.slice a l.length c, .slice (some (blk q)) 1 1]).run Tryz.prog w = .ok (.slice a' n' c') w' ∧ n' = (l ++ [x]).length ∧ Step (fun j => N ≤ j) w o w' o' ∧ WRow N w' o' a' c' (l ++ [x]) ∧ Ext (fun b => ∃ ad, a = some ad ∧ b = ad.block) w w' := by
  obtain ⟨i, hi, hz, hsz, hby⟩ := info_of inf116
  obtain ⟨a', c', w', o', hrun, s2, hrow, hX⟩ := LRow.push (ty := 70) Tryz.underlying70 hi hz hsz hby rfl (by decide) h ok hq hq' (xa := some (blk q)) (m := 1) (xc := 1) (news := x.C) rfl (RowAt.of_blk hb) (fun u hu => by
    simp [Wr.C] at hu
    rcases hu with rfl | rfl <;> rfl) (by omega) (by omega)
  refine ⟨a', _, c', w', o', hrun, by simp, s2, ?_, hX⟩
  unfold WRow
  rw [List.length_append, List.flatMap_append]
  simpa using hrow
end

def wrapsL (S : OS) (key : Int) : List Mem → OS × List (Int × List UInt8)
  | [] => (S, [])
  | m :: r => ((wrapsL (wrapOf S m.pub key).2 key r).1, (m.who, (wrapOf S m.pub key).1.1) :: (wrapsL (wrapOf S m.pub key).2 key r).2)
theorem Q2B (key : Int) (m : Mem) : ∀ (l : List Mem) (S : OS), wrapsL S key (l ++ [m]) = ((wrapOf (wrapsL S key l).1 m.pub key).2, (wrapsL S key l).2 ++ [(m.who, (wrapOf (wrapsL S key l).1 m.pub key).1.1)])
  | [], S => rfl
  | x :: r, S => by
    have ih := Q2B key m r (wrapOf S x.pub key).2
    show ((wrapsL (wrapOf S x.pub key).2 key (r ++ [m])).1, (x.who, (wrapOf S x.pub key).1.1) :: (wrapsL (wrapOf S x.pub key).2 key (r ++ [m])).2) = _
    rw [ih]
    rfl
def beginK (S : OS) (s : MS) (last : Int) : Chg × Int × OS :=
  let S1 := (keyOf S).2
  let key := (keyOf S).1
  let W := wrapsL S1 key (nowM s.ml)
  if 0 ≤ s.ep then (⟨3, 0, 0, 0, W.2, (sealOf W.1 key (boundE (s.ep + 1)) (boxL last.toNat 0)).1.1⟩, key, (sealOf W.1 key (boundE (s.ep + 1)) (boxL last.toNat 0)).2)
  else (⟨3, 0, 0, 0, W.2, []⟩, key, W.1)
theorem Q5U (S : OS) (p key : Int) : (wrapOf S p key).2.publics = S.publics ∧ (wrapOf S p key).2.keys = S.keys ∧ (wrapOf S p key).2.secrets = S.secrets ∧ (wrapOf S p key).2.sealed = S.sealed := by
  have hf := Q0W S
  unfold wrapOf
  split
  · split
    · exact ⟨hf.2.2.2.1, hf.2.1, hf.2.2.1, by first | exact hf.2.2.2.2.2.2.1 | exact hf.2.2.2.2.1 | exact hf.2.2.2.2.2.1⟩
    · exact ⟨rfl, rfl, rfl, rfl⟩
  · exact ⟨rfl, rfl, rfl, rfl⟩
theorem Q1U (key : Int) : ∀ (l : List Mem) (S : OS), S.ok → (wrapsL S key l).1.publics = S.publics ∧ (wrapsL S key l).1.keys = S.keys ∧ (wrapsL S key l).1.secrets = S.secrets ∧ (wrapsL S key l).1.sealed = S.sealed ∧ (wrapsL S key l).1.ok ∧ (wrapsL S key l).1.used.length ≤ S.used.length + l.length ∧ (wrapsL S key l).2.length = l.length
  | [], S, h => ⟨rfl, rfl, rfl, rfl, h, Nat.le_refl _, rfl⟩
  | m :: r, S, h => by
    obtain ⟨f1, f2, f3, f4⟩ := Q5U S m.pub key
    obtain ⟨k1, k2⟩ := Q6v h m.pub key
    obtain ⟨g1, g2, g3, g4, g5, g6, g7⟩ := Q1U key r (wrapOf S m.pub key).2 k1
    refine ⟨g1.trans f1, g2.trans f2, g3.trans f3, g4.trans f4, g5, ?_, ?_⟩
    · show (wrapsL (wrapOf S m.pub key).2 key r).1.used.length ≤ S.used.length + (r.length + 1); omega
    · show (wrapsL (wrapOf S m.pub key).2 key r).2.length + 1 = r.length + 1; omega
theorem Q3u (S : OS) : (keyOf S).2.publics = S.publics ∧ (keyOf S).2.secrets = S.secrets ∧ (keyOf S).2.sealed = S.sealed ∧ (keyOf S).2.wrapped = S.wrapped ∧ (keyOf S).2.keys = badd S.keys (keyOf S).1 := by
  have hf := Q0W S
  unfold keyOf
  exact ⟨hf.2.2.2.1, hf.2.2.1, by first | exact hf.2.2.2.2.2.2.1 | exact hf.2.2.2.2.1 | exact hf.2.2.2.2.2.1, by first | exact hf.2.2.2.2.2.2.2 | exact hf.2.2.2.2.2.1 | exact hf.2.2.2.2.2.2.2.1, rfl⟩
theorem Q3w {S : OS} {p key : Int} (hp : (alook S.publics p).isSome) (hk : key ∈ S.keys) : wrapOf S p key = ((boxL (freshOf S).1.toNat 8, 0), { (freshOf S).2 with wrapped := aput S.wrapped (freshOf S).1 (p, key) }) := by
  unfold wrapOf
  rw [if_pos hp, if_pos hk]
theorem key_in (S : OS) : (keyOf S).1 ∈ (keyOf S).2.keys := by
  rw [(Q3u S).2.2.2.2]
  exact Q1S.2 (.inr rfl)
section
variable {w w' w1 : World} {o o' o1 : Own} {q k p N m : Nat} {K : Nat → Prop} {S : OS} {s : MS} {a : Option Addr} {c : Nat}
theorem Q5L (hP : POrc w o k S) (ok : Tags w o) (hS : S.ok) (hlen : S.used.length + 20 < 1000000) (hr : Row w o a (s.ml.flatMap Mem.C)) (hs : s.ok) {last : Int} (hl0 : 0 ≤ last) (hl1 : last < 18446744073709551616)
    (hpub : ∀ m ∈ nowM s.ml, (alook S.publics m.pub).isSome) (hne : nowM s.ml ≠ []) :
    Calls Tryz.prog 21 #[.pointer (some (blk k)), .agg #[.slice a s.ml.length c, .int .i64 s.ep], .int .u64 last] w (fun x w' => ∃ o' wa wc oa oc, ∃ l : List Wr, x = .returned (.tuple #[chgV (beginK S s last).1 wa wc oa oc, .int .u64 (beginK S s last).2.1, .int .i64 0]) ∧ Step (fun j => j = k) w o w' o' ∧ POrc w' o' k (beginK S s last).2.2 ∧ CH w' o' (beginK S s last).1 wa wc l oa oc ∧ l.length ≤ wc ∧ (beginK S s last).1.old.length ≤ oc) := by
  refine (Q10.go _ _ _ _ _ _ (R := fun v w' => ∃ o' wa wc oa oc, ∃ l : List Wr, v = (.tuple #[chgV (beginK S s last).1 wa wc oa oc, .int .u64 (beginK S s last).2.1, .int .i64 0]) ∧ Step (fun j => j = k) w o w' o' ∧ POrc w' o' k (beginK S s last).2.2 ∧ CH w' o' (beginK S s last).1 wa wc l oa oc ∧ l.length ≤ wc ∧ (beginK S s last).1.old.length ≤ oc) ?_).mono fun x w' ⟨v, he, o', wa, wc, oa, oc, l, hv, hw⟩ => ⟨o', wa, wc, oa, oc, l, by rw [he, hv], hw⟩
  unfold Q10.N
  have hkl := hP.lt
  have hml := hs.le
  have hnl : (nowM s.ml).length ≤ 8 := Nat.le_trans (List.length_filter_le _ _) hml
  refine ⟨fun e => (by cases e), fun _ w6 p1 p2 X6 P6 => ?_⟩
  obtain ⟨s6, M6⟩ := Step.priv X6 P6 ok
  have g6 : ∀ p ∈ [p1, p2], w.heap.size ≤ p ∧ p < w6.heap.size := P6
  have gp1 := g6 p1 (by simp)
  have gp2 := g6 p2 (by simp)
  have kM : ∀ p ∈ [p1, p2], ¬ p = k := fun p hp => by have := (g6 p hp).1; omega
  refine Calls.mono (KeyO (hP.step s6 id) s6.ok hS (by omega)) fun u w20 ⟨o20, he, s20', P20⟩ => ⟨_, he, M6.keep s20' kM, fun w21 X21 => ?_⟩
  have M20 := M6.step s20'
  have s20 : Step (fun j => j = k) w o w20 o20 := s6.none.trans s20'
  obtain ⟨o21, s21'⟩ := Step.store1 X21 s20.ok (M20 p2 (by simp)).2
  have s21 : Step (fun j => j = k) w o w21 o21 := s20.trans' s21' fun i hi => .inr (by rw [hi]; exact gp2.1)
  have M21 := M20.step s21'
  have P21 := P20.step s21' (show ¬ k = p2 by omega)
  have r21 := hr.step s21
  refine Calls.mono (Q5j r21 s21.ok (by omega) s.ep) fun u w24 ⟨o24, na, nc, he, s24', r24, hnc⟩ => ⟨_, _, _, he, M21.keep s24' (fun _ _ h => h), ?_⟩
  have s24 := s21.trans s24'.none
  have M24 := M21.step s24'
  have P24 := P21.step s24' id
  obtain ⟨key, hkey⟩ : ∃ key, (keyOf S).1 = key := ⟨_, rfl⟩
  obtain ⟨S1, hS1⟩ : ∃ S1, (keyOf S).2 = S1 := ⟨_, rfl⟩
  have ok1 := Q4q hS
  have kf := Q3u S
  have kin := key_in S
  rw [hS1] at ok1 P24 kf kin
  rw [hkey] at kin
  obtain ⟨nl, hnow⟩ : ∃ nl, nowM s.ml = nl := ⟨_, rfl⟩
  have hB : beginK S s last = if 0 ≤ s.ep then (⟨3, 0, 0, 0, (wrapsL S1 key nl).2, (sealOf (wrapsL S1 key nl).1 key (boundE (s.ep + 1)) (boxL last.toNat 0)).1.1⟩, key, (sealOf (wrapsL S1 key nl).1 key (boundE (s.ep + 1)) (boxL last.toNat 0)).2)
      else (⟨3, 0, 0, 0, (wrapsL S1 key nl).2, []⟩, key, (wrapsL S1 key nl).1) := by
    unfold beginK
    rw [hS1, hkey, hnow]
  rw [hnow] at r24 hnc hnl hpub hne
  rw [hnow, hkey]
  obtain ⟨N, hN⟩ : ∃ N, w6.heap.size = N := ⟨_, rfl⟩
  have l6 := X6.size
  have l620 := s20'.size
  have l2021 := s21'.size
  have l2124 := s24'.size
  refine ⟨fun m vs w1 => ∃ (t : Nat) (o1 : Own) (a1 : Option Addr) (c1 : Nat) (l : List Wr), vs = [.int .u64 key, .int .i64 t, .int .i64 3, .int .i64 0, .int .u64 0, .int .i64 0, .slice a1 l.length c1, .slice none 0 0] ∧ m + t = nl.length ∧ Step (fun j => j = k) w o w1 o1 ∧ POrc w1 o1 k (wrapsL S1 key (nl.take t)).1 ∧ Mine [p1, p2] w1 o1 ∧ Row w1 o1 na (nl.flatMap Mem.C) ∧ WRow N w1 o1 a1 c1 l ∧ l.map Wr.p = (wrapsL S1 key (nl.take t)).2 ∧ (∀ x ∈ l, Row w1 o1 x.a (bytesV x.b) ∧ x.b.length ≤ x.c ∧ x.b.length < 1000000) ∧ N ≤ w1.heap.size,
    nl.length, ⟨0, o24, none, 0, [], rfl, rfl, s24, P24, M24, r24, LRow.nil _ _ _ _ _, rfl, fun x hx => (by cases hx), by omega⟩, ?_⟩
  intro m w35 i0 i1 i2 i3 i4 i5 i6a i6n i6c i7a i7n i7c hI
  obtain ⟨t, o35, a1, c1, l, hi, hm, s35, P35, M35, r35, L35, hlm, hlb, hNs⟩ := hI
  simp only [List.cons.injEq, Value.slice.injEq, Value.int.injEq, true_and, and_true] at hi
  obtain ⟨hkk, rfl, rfl, rfl, rfl, rfl, ⟨rfl, rfl, rfl⟩, rfl, rfl, rfl⟩ := hi
  replace hkk := hkk.symm
  subst hkk
  have fr := Q1U key (nl.take t) S1 ok1.1
  have htl0 : (nl.take t).length ≤ 8 := by rw [List.length_take]; omega
  have hll : l.length = (nl.take t).length := by have := congrArg List.length hlm; rw [List.length_map] at this; rw [this]; exact fr.2.2.2.2.2.2
  have hus := ok1.2
  refine ⟨fun ht => ?_, fun ht => ?_⟩
  · have htl : t < nl.length := by omega
    have hg : nl[t]? = some nl[t] := List.getElem?_eq_getElem htl
    have hmem := List.getElem_mem htl
    have htk : nl.take (t + 1) = nl.take t ++ [nl[t]] := by rw [List.take_add_one, hg]; rfl
    generalize nl[t] = x at *
    have hr1 := r35.1
    obtain ⟨ad, rfl⟩ := hr1.faddr Mem.len (by decide) htl
    refine ⟨ad, rfl, by omega, by omega, x.who, x.pub, x.fr, x.to_, x.lim, by rw [Int.toNat_natCast]; exact hr1.floads Mem.len hg, fun w49 p50 X49 P49 => ?_⟩
    obtain ⟨s49', M49⟩ := Step.priv X49 P49 s35.ok
    have g50 := P49 p50 (by simp)
    have M3 : Mine [p1, p2, p50] w49 (tags w35 o35 [p50]) := fun y hy => by
      rcases List.mem_cons.1 hy with rfl | hy
      · exact (M35.step s49') _ (by simp)
      · rcases List.mem_cons.1 hy with rfl | hy
        · exact (M35.step s49') _ (by simp)
        · exact M49 _ hy
    have hxp : (alook (wrapsL S1 key (nl.take t)).1.publics x.pub).isSome := by rw [fr.1, kf.1]; exact hpub x hmem
    have hxk : key ∈ (wrapsL S1 key (nl.take t)).1.keys := by rw [fr.2.1]; exact kin
    have hw := WrapO (P35.step s49' id) s49'.ok fr.2.2.2.2.1 (by omega) x.pub key
    have hwk := Q3w hxp hxk
    refine Calls.mono hw fun u w54 ⟨o54, xa, xc, he, s54, xr, hxc, P54⟩ => ⟨_, _, _, _, he, M3.keep s54 (fun y hy => ?_), fun hne' => absurd (by rw [hwk]) hne', fun _ w62 q63 X62 b62 hq62 hq62' => ?_⟩
    · rcases List.mem_cons.1 hy with rfl | hy
      · omega
      · rcases List.mem_cons.1 hy with rfl | hy
        · omega
        · rw [List.mem_singleton.1 hy]; omega
    have s3554 := s49'.none.trans s54
    have t62 := Step.of_no X62 s54.ok
    have s62 := s3554.trans t62.none
    have L62 : WRow N w62 _ i6a i6c l := LRow.step L35 s62 fun j hj => .inl (by rw [hj]; omega)
    have l49 := X49.size
    have l54 := s54.size
    obtain ⟨a2, n2, c2, w65, o65, hrun, hn2, s65, L65, X65⟩ := L62.push s62.ok (by omega) ⟨x.who, xa, xc, (wrapOf (wrapsL S1 key (nl.take t)).1 x.pub key).1.1⟩ b62 (by omega) hq62'
    subst hn2
    have M62 := (M35.step s3554).step t62
    refine ⟨a2, _, c2, w65, hrun, M62.keep s65 (fun y hy => by have := (g6 y hy).2; omega), by omega, by omega, fun w66 X66 => ?_⟩
    have M65 := M62.step s65
    obtain ⟨o66, s66⟩ := Step.store1 X66 s65.ok (M65 p2 (by simp)).2
    have hall : Step (fun j => j = k) w o w66 o66 := ((s35.trans s62).trans' s65 fun i hi => .inr (by omega)).trans' s66 fun i hi => .inr (by rw [hi]; exact gp2.1)
    have L66 : WRow N w66 o66 a2 c2 (l ++ [⟨x.who, xa, xc, (wrapOf (wrapsL S1 key (nl.take t)).1 x.pub key).1.1⟩]) := LRow.step L65 s66 fun j hj => .inl (by rw [hj]; omega)
    have hsn := Q2B key x (nl.take t) S1
    refine ⟨m - 1, by omega, t + 1, o66, a2, c2, _, rfl, by omega, hall, ?_, M65.step s66, ((r35.step s62).step s65).step s66, L66, ?_, fun y hy => ?_, by have := X62.size; have := X65.size; have := X66.size; omega⟩
    · rw [htk, hsn]
      exact ((P54.step t62 id).step s65 (show ¬ N ≤ k by omega)).step s66 (show ¬ k = p2 by omega)
    · rw [htk, hsn, List.map_append, hlm]; rfl
    · rcases List.mem_append.1 hy with hy | hy
      · obtain ⟨y1, y2⟩ := hlb y hy
        exact ⟨((y1.step s62).step s65).step s66, y2⟩
      · rw [List.mem_singleton.1 hy]
        exact ⟨((xr.step t62).step s65).step s66, hxc, by rw [hwk, Q1c]; decide⟩
  · have htt : t = nl.length := by omega
    subst htt
    rw [List.take_of_length_le (Nat.le_refl _)] at hlm P35 fr hll
    have hll0 : 0 < nl.length := by
      cases nl with
      | nil => exact absurd rfl hne
      | cons _ _ => simp
    refine ⟨fun h0 => absurd h0 (by omega), fun _ => ⟨fun hep => ?_, fun hep w98 X98 => ?_⟩⟩
    · refine ⟨by have := hs.ep1; omega, by have := hs.ep1; omega, ?_⟩
      refine (Q3U (e := s.ep + 1) (by omega) (by have := hs.ep1; omega) w35).mono fun u w78 ⟨ba, bc, he, hO, X78⟩ => ⟨_, _, _, he, ?_⟩
      have t78 := Step.of_no X78 s35.ok
      have Mp2 : Mine [p2] w35 o35 := M35.sub fun p hp => by rw [List.mem_singleton.1 hp]; simp
      refine ⟨Mp2.keep t78 (fun _ _ h => h), ?_⟩
      obtain ⟨ln, rfl⟩ := Int.eq_ofNat_of_zero_le hl0
      refine (Q5R (h := ln) (by omega) w78).mono fun u w81 ⟨ea, ec, he, hE, X81⟩ => ⟨_, _, _, he, ?_⟩
      have t81 := Step.of_no X81 t78.ok
      refine ⟨(Mp2.step t78).keep t81 (fun _ _ h => h), ?_⟩
      have t7881 := t78.trans t81
      have rb : Row w81 _ ba (bytesV (boundE (s.ep + 1))) := (Q1D hO X78 : Row w78 (grow w35 o35) ba _).step t81
      have re : Row w81 _ ea (bytesV (boxL ln 0)) := (Q1D hE X81 : Row w81 (grow w78 (grow w35 o35)) ea _)
      have hse := SealO (P35.step t7881 id) t81.ok fr.2.2.2.2.1 (by omega) key (bc := bc) (pc := ec) rb re (by have := Q4M (s.ep + 1); omega) (by rw [Q1c]; decide)
      refine Calls.mono hse fun u w85 ⟨o85, za, zc, he, s85, zr, hzc, P85⟩ => ⟨_, _, _, _, he, ((Mp2.step t78).step t81).keep s85 (fun y hy => by rw [List.mem_singleton.1 hy]; omega), fun w92 X92 => ?_⟩
      have M85 := ((Mp2.step t78).step t81).step s85
      obtain ⟨o92, s92⟩ := Step.store1 X92 s85.ok (M85 p2 (by simp)).2
      have sA := t7881.none.trans s85
      have sB : Step (fun j => j = k ∨ j = p2) w35 o35 w92 o92 := (sA.mono fun _ h _ => .inl h).trans (s92.mono fun _ h _ => .inr h)
      have sW : Step (fun j => j = k) w o w92 o92 := (s35.trans sA).trans' s92 fun i hi => .inr (by rw [hi]; exact gp2.1)
      have L92 : WRow N w92 o92 i6a i6c l := LRow.step L35 sB fun j hj => .inl (by rcases hj with h | h <;> omega)
      have hB2 : beginK S s ((ln : Nat) : Int) = (⟨3, 0, 0, 0, (wrapsL S1 key nl).2, (sealOf (wrapsL S1 key nl).1 key (boundE (s.ep + 1)) (boxL ln 0)).1.1⟩, key, (sealOf (wrapsL S1 key nl).1 key (boundE (s.ep + 1)) (boxL ln 0)).2) := by rw [hB, if_pos hep]; rfl
      rw [hB2]
      have hlw : l.length = (wrapsL S1 key nl).2.length := by rw [← hlm, List.length_map]
      refine ⟨only k w o o92, i6a, i6c, za, zc, l, by rw [hlw]; rfl, Q2e sW k, (P85.step s92 (show ¬ k = p2 by omega)).only sW, ⟨Q2C L92 sW (by omega) (by omega), hlm, fun x hx => ?_, Q1K (zr.step s92) sW k, ?_, by omega⟩, L92.le, hzc⟩
      · obtain ⟨y1, y2⟩ := hlb x hx
        exact ⟨Q1K (y1.step sB) sW k, y2⟩
      · show (sealOf (wrapsL S1 key nl).1 key (boundE (s.ep + 1)) (boxL ln 0)).1.1.length < 1000000
        unfold sealOf
        split
        · split
          · show (0 : Nat) < _; decide
          · show (boxL _ _).length < _
            rw [Q1c]
            have := Q1B (classOf (boxL ln 0).length)
            omega
        · show (0 : Nat) < _; decide
    · obtain ⟨o98, s98⟩ := Step.store1 X98 s35.ok (M35 p2 (by simp)).2
      have sW : Step (fun j => j = k) w o w98 o98 := s35.trans' s98 fun i hi => .inr (by rw [hi]; exact gp2.1)
      have L98 : WRow N w98 o98 i6a i6c l := LRow.step L35 s98 fun j hj => .inl (by rw [hj]; omega)
      have hB2 : beginK S s last = (⟨3, 0, 0, 0, (wrapsL S1 key nl).2, []⟩, key, (wrapsL S1 key nl).1) := by rw [hB, if_neg (by omega)]
      rw [hB2]
      have hlw : l.length = (wrapsL S1 key nl).2.length := by rw [← hlm, List.length_map]
      refine ⟨only k w o o98, i6a, i6c, none, 0, l, by rw [hlw]; rfl, Q2e sW k, (P35.step s98 (show ¬ k = p2 by omega)).only sW, ⟨Q2C L98 sW (by omega) (by omega), hlm, fun x hx => ?_, Row.nil _ _ _, by show (0 : Nat) < _; decide, by omega⟩, L98.le, Nat.le_refl _⟩
      obtain ⟨y1, y2⟩ := hlb x hx
      exact ⟨Q1K (y1.step s98) sW k, y2⟩
end
open W (OwnB GivesW)
section
variable {w0 w w' w1 : World} {o0 o o' o1 : Own} {q k j p n m : Nat} {K : Nat → Prop} {S : OS} {b x : List UInt8} {a ba pa xa : Option Addr} {c bc pc xc : Nat} {d : List Int} {L : List RRow}
theorem keyInv (h : OInv S) : OInv (keyOf S).2 := by
  obtain ⟨f1, f2, f3, f4, f5⟩ := Q1L h
  exact ⟨f1.ok, f1.rng, f1.hu, f1.hi, f1.sg, f1.gs, f1.su, f1.pu, f1.ps, f1.eu⟩
theorem sealInv (h : OInv S) (key : Int) (b p : List UInt8) : OInv (sealOf S key b p).2 := by
  obtain ⟨f1, _⟩ := Q1L h
  unfold sealOf
  split
  · split
    · exact h
    · exact ⟨f1.ok, f1.rng, f1.hu, f1.hi, f1.sg, f1.gs, f1.su, f1.pu, f1.ps, f1.eu⟩
  · exact h
theorem wrapInv (h : OInv S) (p key : Int) : OInv (wrapOf S p key).2 := by
  obtain ⟨f1, _⟩ := Q1L h
  unfold wrapOf
  split
  · split
    · exact ⟨f1.ok, f1.rng, f1.hu, f1.hi, f1.sg, f1.gs, f1.su, f1.pu, f1.ps, f1.eu⟩
    · exact h
  · exact h
theorem Q6U (h : RFine n d L) (key : Int) {b p : List UInt8} (hb : b.length < 1000000) (hp : p.length < 1000000) : RFine (n + 1) (sealR d L key b p).2.1 (sealR d L key b p).2.2 := by
  unfold sealR
  split
  · exact h.more
  · split
    · exact h.more
    · exact h.put _ ⟨hb, hp⟩
theorem Q6R (h : RFine n d L) (p key : Int) : RFine (n + 1) (wrapR d L p key).2.1 (wrapR d L p key).2.2 := by
  unfold wrapR
  split
  · exact h.more
  · split
    · exact h.more
    · exact h.put _ ⟨by show (0 : Nat) < _; decide, by show (0 : Nat) < _; decide⟩
theorem Rof.key (h : Rof w o j S n) (hn : n + 1 < 1000000) :
    Calls Tryz.prog 50 #[.pointer (some (blk j))] w (Gs (fun i => i = j) w o (u64V (keyOf S).1) fun w' o' => Rof w' o' j (keyOf S).2 (n + 1)) := by
  obtain ⟨d, R, h1, h2, h3⟩ := h.ex
  obtain ⟨e1, e2⟩ := key_sim h2
  refine (Q6g h1 (h3.rok h.ok (by omega))).mono fun x w' ⟨o', he, s, r⟩ => ⟨o', by rw [he, e1]; rfl, s, ⟨_, _, r, e2, h3.put _ (by decide)⟩, s.ok, keyInv h.inv⟩
theorem Rof.sealK (h : Rof w o j S n) (hn : n + 1 < 1000000) (key : Int) (hb : Row w o ba (bytesV b)) (hbc : b.length ≤ bc) (hp : Row w o pa (bytesV x)) (hpc : x.length ≤ pc) (hbl : b.length < 1000000) (hpl : x.length < 1000000) :
    Calls Tryz.prog 31 #[.pointer (some (blk j)), .int .u64 key, .slice ba b.length bc, .slice pa x.length pc] w (Gb (fun i => i = j) w o (sealOf S key b x).1 fun w' o' => Rof w' o' j (sealOf S key b x).2 (n + 1)) := by
  obtain ⟨d, R, h1, h2, h3⟩ := h.ex
  obtain ⟨e1, e2⟩ := Q73 h2 key b x
  refine (Q5K h1 (h3.rok h.ok (by omega)) key hb hbc hp hpc).mono fun y w' ⟨o', a', c', he, s, hr, hc, r⟩ => ⟨o', a', c', by rw [he, e1], s, by rw [← e1]; exact hr, by rw [← e1]; exact hc, ⟨_, _, r, e2, Q6U h3 key hbl hpl⟩, s.ok, sealInv h.inv key b x⟩
theorem Rof.open (h : Rof w o j S n) (hn : n < 1000000) (key : Int) (hb : Row w o ba (bytesV b)) (hx : Row w o xa (bytesV x)) (hxl : x.length < 1000000) :
    Calls Tryz.prog 36 #[.pointer (some (blk j)), .int .u64 key, .slice ba b.length bc, .slice xa x.length xc] w (Gb no w o (openOf S key b x) fun w' o' => True) := by
  obtain ⟨d, R, h1, h2, h3⟩ := h.ex
  have := Q65 (bc := bc) (xc := xc) h1 (h3.rok h.ok (by omega)) key hb hx hxl
  rw [Q6L h2] at this
  exact this
theorem Rof.wrap (h : Rof w o j S n) (hn : n + 1 < 1000000) (p key : Int) :
    Calls Tryz.prog 52 #[.pointer (some (blk j)), .int .u64 p, .int .u64 key] w (Gb (fun i => i = j) w o (wrapOf S p key).1 fun w' o' => Rof w' o' j (wrapOf S p key).2 (n + 1)) := by
  obtain ⟨d, R, h1, h2, h3⟩ := h.ex
  obtain ⟨e1, e2⟩ := Q71 h2 p key
  refine (Q63 h1 (h3.rok h.ok (by omega)) p key).mono fun y w' ⟨o', a', c', he, s, hr, hc, r⟩ => ⟨o', a', c', by rw [he, e1], s, by rw [← e1]; exact hr, by rw [← e1]; exact hc, ⟨_, _, r, e2, Q6R h3 p key⟩, s.ok, wrapInv h.inv p key⟩
theorem Rof.unwrap (h : Rof w o j S n) (hn : n < 1000000) (s : Int) (hx : RowAt w xa (bytesV x)) (hxl : x.length < 1000000) :
    Calls Tryz.prog 67 #[.pointer (some (blk j)), .int .u64 s, .slice xa x.length xc] w (Ret (.tuple #[.int .u64 (Q1a S s x).1, .int .i64 (Q1a S s x).2]) fun w' => Ext no w w') := by
  obtain ⟨d, R, h1, h2, h3⟩ := h.ex
  have := Q51 (xc := xc) h1 (h3.rok h.ok (by omega)) s hx hxl
  rw [Q5M h2] at this
  exact this
theorem Rof.only (h : Rof w o j S n) (s : Step K w0 o0 w o) : Rof w (only j w0 o0 o) j S n := by
  obtain ⟨d, L, ⟨R, e, hR⟩, h2, h3⟩ := h.ex
  refine ⟨⟨d, L, ⟨R, e, ⟨only_k s hR.tk, ?_, fun x hx => ?_⟩⟩, h2, h3⟩, (Q2e s j).ok, h.inv⟩
  · obtain ⟨da, dc, la, lc, hb, hd, hda, hg, hne⟩ := hR.at_
    exact ⟨da, dc, la, lc, hb, hd, Q1K hda s j, ⟨hg.own, fun ad ha => ⟨only_k s (hg.tg ad ha).1, (hg.tg ad ha).2⟩⟩, hne⟩
  · obtain ⟨x1, x2, x3⟩ := hR.rows x hx
    exact ⟨Q1K x1 s j, Q1K x2 s j, x3⟩
theorem Q4r {h : Nat} (hh : h < 18446744073709551616) (w : World) :
    Calls Tryz.prog 54 #[.int .u64 h] w (fun e w' => ∃ a' c', e = .returned (.slice a' (boxL h 0).length c') ∧ OwnB w.heap.size w' a' c' (boxL h 0) ∧ Ext no w w') := by
  refine (Q0O.go _ (R := fun v w' => ∃ a' c', v = .slice a' (boxL h 0).length c' ∧ OwnB w.heap.size w' a' c' (boxL h 0) ∧ Ext no w w') ?_).mono fun e w' ⟨v, he, a', c', hv, hw⟩ => ⟨a', c', by rw [he, hv], hw⟩
  unfold Q0O.N
  refine ⟨fun q vs w1 => ∃ (t : Nat) (a : Option Addr) (c : Nat), vs = [.int .u64 ((h / 256 ^ t : Nat) : Int), .slice a (tailB h t).length c, .int .i64 t] ∧ q + t = 8 ∧ OwnB w.heap.size w1 a c (tailB h t) ∧ Ext no w w1, 8, ⟨0, none, 0, by simp [tailB], rfl, OwnB.nil _ _, Ext.refl _ _⟩, ?_⟩
  rintro q w1 n ba bn bc i ⟨t, a, c, hi, hq, hO, X1⟩
  simp only [List.cons.injEq, Value.int.injEq, Value.slice.injEq, true_and, and_true] at hi
  obtain ⟨rfl, ⟨rfl, rfl, rfl⟩, rfl⟩ := hi
  refine ⟨fun ht w9 q10 X9 hb hq10 hq10' => ?_, fun ht => ?_⟩
  · have ht : t < 8 := by omega
    have hp : 256 ^ t = 2 ^ (8 * t) := by rw [Nat.pow_mul]
    have hlt : h / 256 ^ t < 18446744073709551616 := Nat.lt_of_le_of_lt (Nat.div_le_self _ _) hh
    have hb' : Blk w9 q10 5 (bytesV [byteAt h (7 - t)]) := by
      have e : IntKind.u8.wrap (Int.tmod ((h / 256 ^ t : Nat) : Int) 256) = ((byteAt h (7 - t)).toNat : Int) := by
        rw [Q1J, show 56 - 8 * (7 - t) = 8 * t by omega, ← hp, show Int.tmod ((h / 256 ^ t : Nat) : Int) 256 = ((h / 256 ^ t % 256 : Nat) : Int) from rfl]
        exact wu8 (by omega) (by omega)
      rw [e] at hb
      exact hb
    have l1 := X1.size
    have hO9 : OwnB w.heap.size w9 (some (blk q10)) 1 [byteAt h (7 - t)] := ⟨Q1C hb' rfl (by show (1 : Nat) ≤ maxLen; unfold maxLen; decide), fun ad ha => by cases ha; exact ⟨by show _ ≤ q10; omega, hq10'⟩⟩
    obtain ⟨a', c', w12, hr, hO', hx⟩ := hO9.append (t := 25) (ty := 25) Tryz.underlying25 (Nat.le_trans l1 X9.size) (xc := bc) (xs := tailB h t) (hO.no X9).row (by simp [tailB]; omega)
    rw [show [byteAt h (7 - t)] ++ tailB h t = tailB h (t + 1) from (Q4i ht).symm] at hr hO'
    refine ⟨a', _, c', w12, hr, by omega, by omega, q - 1, by omega, t + 1, a', c', ?_, by omega, hO', (X1.trans X9).then hx fun b hb => .inr hb⟩
    have e : IntKind.u64.wrap (Int.tdiv ((h / 256 ^ t : Nat) : Int) 256) = ((h / 256 ^ (t + 1) : Nat) : Int) := by
      rw [show Int.tdiv ((h / 256 ^ t : Nat) : Int) 256 = ((h / 256 ^ t / 256 : Nat) : Int) from rfl, Nat.div_div_eq_div_mul, ← Nat.pow_succ]
      exact wu64 (Int.natCast_nonneg _) (by have := Nat.div_le_self h (256 ^ t.succ); omega)
    rw [e]
    rfl
  · obtain rfl : t = 8 := by omega
    have e : tailB h 8 = boxL h 0 := rfl
    rw [e] at hO ⊢
    exact ⟨ba, bc, rfl, hO, X1⟩
abbrev RWRow (N : Nat) (w : World) (o : Own) (a : Option Addr) (c : Nat) (l : List Wr) : Prop := LRow 120 2 N w o a l.length c (l.flatMap Wr.C)
theorem inf120 : (Tryz.prog.info? 120).map (fun i => (i.zero, i.size, i.bytes)) = some (some (.agg #[.int .i64 0, .slice none 0 0]), 2, 32) := by kernel_rfl
theorem RWRow.push {N : Nat} {l : List Wr} (h : RWRow N w o a c l) (ok : Tags w o) (hl : l.length < 1000000) (x : Wr) {q : Nat} (hb : Blk w q 120 x.C) (hq : N ≤ q) (hq' : q < w.heap.size) :
    ∃ a' n' c' w' o', (Builtin.append_ #[75, 75] 75 #[.slice a l.length c, .slice (some (blk q)) 1 1]).run Tryz.prog w = .ok (.slice a' n' c') w' ∧ n' = (l ++ [x]).length ∧ Step (fun j => N ≤ j) w o w' o' ∧ RWRow N w' o' a' c' (l ++ [x]) ∧ Ext (fun b => ∃ ad, a = some ad ∧ b = ad.block) w w' := by
  obtain ⟨i, hi, hz, hsz, hby⟩ := info_of inf120
  obtain ⟨a', c', w', o', hrun, s2, hrow, hX⟩ := LRow.push (ty := 75) Tryz.underlying75 hi hz hsz hby rfl (by decide) h ok hq hq' (xa := some (blk q)) (m := 1) (xc := 1) (news := x.C) rfl (RowAt.of_blk hb) (fun u hu => by
    simp [Wr.C] at hu
    rcases hu with rfl | rfl <;> rfl) (by omega) (by omega)
  refine ⟨a', _, c', w', o', hrun, by simp, s2, ?_, hX⟩
  unfold RWRow
  rw [List.length_append, List.flatMap_append]
  simpa using hrow
end
section
variable {w w' w1 : World} {o o' o1 : Own} {q k p N m j n : Nat} {K : Nat → Prop} {S : OS} {s : MS} {a : Option Addr} {c : Nat}
theorem Q57 (hP : Rof w o j S n) (hS : S.ok) (hlen : n + 20 < 1000000) (hr : Row w o a (s.ml.flatMap Mem.C)) (hs : s.ok) {last : Int} (hl0 : 0 ≤ last) (hl1 : last < 18446744073709551616)
    (hpub : ∀ m ∈ nowM s.ml, (alook S.publics m.pub).isSome) (hne : nowM s.ml ≠ []) :
    Calls Tryz.prog 22 #[.pointer (some (blk j)), .agg #[.slice a s.ml.length c, .int .i64 s.ep], .int .u64 last] w (fun x w' => ∃ o' wa wc oa oc, ∃ l : List Wr, x = .returned (.tuple #[chgV (beginK S s last).1 wa wc oa oc, .int .u64 (beginK S s last).2.1, .int .i64 0]) ∧ Step (fun i => i = j) w o w' o' ∧ Rof w' o' j (beginK S s last).2.2 (n + 10) ∧ CH w' o' (beginK S s last).1 wa wc l oa oc ∧ l.length ≤ wc ∧ (beginK S s last).1.old.length ≤ oc) := by
  refine (Q0q.go _ _ _ _ _ _ (R := fun v w' => ∃ o' wa wc oa oc, ∃ l : List Wr, v = (.tuple #[chgV (beginK S s last).1 wa wc oa oc, .int .u64 (beginK S s last).2.1, .int .i64 0]) ∧ Step (fun i => i = j) w o w' o' ∧ Rof w' o' j (beginK S s last).2.2 (n + 10) ∧ CH w' o' (beginK S s last).1 wa wc l oa oc ∧ l.length ≤ wc ∧ (beginK S s last).1.old.length ≤ oc) ?_).mono fun x w' ⟨v, he, o', wa, wc, oa, oc, l, hv, hw⟩ => ⟨o', wa, wc, oa, oc, l, by rw [he, hv], hw⟩
  unfold Q0q.N
  have ok := hP.ok
  have hkl := hP.lt
  have hul := hP.len
  have hml := hs.le
  have hnl : (nowM s.ml).length ≤ 8 := Nat.le_trans (List.length_filter_le _ _) hml
  intro w6 p1 p2 X6 P6
  obtain ⟨s6, M6⟩ := Step.priv X6 P6 ok
  have g6 : ∀ p ∈ [p1, p2], w.heap.size ≤ p ∧ p < w6.heap.size := P6
  have gp1 := g6 p1 (by simp)
  have gp2 := g6 p2 (by simp)
  have kM : ∀ p ∈ [p1, p2], ¬ p = j := fun p hp => by have := (g6 p hp).1; omega
  refine Calls.mono ((hP.step s6 id).key (by omega)) fun u w11 ⟨o11, he, s11', P11⟩ => ⟨_, he, M6.keep s11' kM, fun w18 p3 X18 P18 => ?_⟩
  have M11 := M6.step s11'
  have s11 : Step (fun i => i = j) w o w11 o11 := s6.none.trans s11'
  obtain ⟨s18', M18⟩ := Step.priv X18 P18 s11.ok
  have g3 := P18 p3 (by simp)
  have l6 := X6.size
  have l11 := s11'.size
  have l18 := X18.size
  have s18 := s11.trans s18'.none
  have M3 : Mine [p1, p2, p3] w18 (tags w11 o11 [p3]) := fun y hy => by
    rcases List.mem_cons.1 hy with rfl | hy
    · exact (M11.step s18') _ (by simp)
    · rcases List.mem_cons.1 hy with rfl | hy
      · exact (M11.step s18') _ (by simp)
      · exact M18 _ hy
  have P18' := P11.step s18' id
  have r18 := hr.step s18
  refine Calls.mono (Q4Q r18 s18.ok (by omega) s.ep) fun u w22 ⟨o22, na, nc, he, s22', r22, hnc⟩ => ⟨_, _, _, he, M3.keep s22' (fun _ _ h => h), ?_⟩
  have s22 := s18.trans s22'.none
  have M22 := M3.step s22'
  have P22 := P18'.step s22' id
  have l22 := s22'.size
  obtain ⟨key, hkey⟩ : ∃ key, (keyOf S).1 = key := ⟨_, rfl⟩
  obtain ⟨S1, hS1⟩ : ∃ S1, (keyOf S).2 = S1 := ⟨_, rfl⟩
  have ok1 := Q4q hS
  have kf := Q3u S
  have kin := key_in S
  rw [hS1] at ok1 P22 kf kin
  rw [hkey] at kin
  obtain ⟨nl, hnow⟩ : ∃ nl, nowM s.ml = nl := ⟨_, rfl⟩
  have hB : beginK S s last = if 0 ≤ s.ep then (⟨3, 0, 0, 0, (wrapsL S1 key nl).2, (sealOf (wrapsL S1 key nl).1 key (boundE (s.ep + 1)) (boxL last.toNat 0)).1.1⟩, key, (sealOf (wrapsL S1 key nl).1 key (boundE (s.ep + 1)) (boxL last.toNat 0)).2)
      else (⟨3, 0, 0, 0, (wrapsL S1 key nl).2, []⟩, key, (wrapsL S1 key nl).1) := by
    unfold beginK
    rw [hS1, hkey, hnow]
  rw [hnow] at r22 hnc hnl hpub hne
  have hll0 : 0 < nl.length := by
    cases nl with
    | nil => exact absurd rfl hne
    | cons _ _ => simp
  rw [hnow, hkey]
  obtain ⟨N, hN⟩ : ∃ N, w18.heap.size = N := ⟨_, rfl⟩
  refine ⟨fun h0 => absurd h0 (by omega), fun _ => ?_⟩
  refine ⟨fun m vs w1 => ∃ (t : Nat) (o1 : Own) (a1 : Option Addr) (c1 : Nat) (l : List Wr), vs = [.int .i64 t, .int .i64 0, .int .i64 0, .int .u64 0, .int .i64 0, .slice none 0 0, .slice none 0 0, .int .i64 3, .int .i64 0, .int .u64 0, .int .i64 0, .slice a1 l.length c1, .slice none 0 0] ∧ m + t = nl.length ∧ Step (fun i => i = j) w o w1 o1 ∧ Rof w1 o1 j (wrapsL S1 key (nl.take t)).1 (n + 1 + t) ∧ Mine [p1, p2, p3] w1 o1 ∧ Row w1 o1 na (nl.flatMap Mem.C) ∧ RWRow N w1 o1 a1 c1 l ∧ l.map Wr.p = (wrapsL S1 key (nl.take t)).2 ∧ (∀ x ∈ l, Row w1 o1 x.a (bytesV x.b) ∧ x.b.length ≤ x.c ∧ x.b.length < 1000000) ∧ N ≤ w1.heap.size,
    nl.length, ⟨0, o22, none, 0, [], rfl, rfl, s22, P22, M22, r22, LRow.nil _ _ _ _ _, rfl, fun x hx => (by cases hx), by omega⟩, ?_⟩
  intro m w35 i0 i1 i2 i3 i4 i5a i5n i5c i6a i6n i6c i7 i8 i9 i10 i11a i11n i11c i12a i12n i12c hI
  obtain ⟨t, o35, a1, c1, l, hi, hm, s35, P35, M35, r35, L35, hlm, hlb, hNs⟩ := hI
  simp only [List.cons.injEq, Value.slice.injEq, Value.int.injEq, true_and, and_true] at hi
  obtain ⟨rfl, rfl, rfl, rfl, rfl, ⟨rfl, rfl, rfl⟩, ⟨rfl, rfl, rfl⟩, rfl, rfl, rfl, rfl, ⟨rfl, rfl, rfl⟩, ⟨rfl, rfl, rfl⟩⟩ := hi
  have fr := Q1U key (nl.take t) S1 ok1.1
  have htl0 : (nl.take t).length ≤ 8 := by rw [List.length_take]; omega
  have hll : l.length = (nl.take t).length := by have := congrArg List.length hlm; rw [List.length_map] at this; rw [this]; exact fr.2.2.2.2.2.2
  refine ⟨fun ht => ?_, fun ht => ?_⟩
  · have htl : t < nl.length := by omega
    have hg : nl[t]? = some nl[t] := List.getElem?_eq_getElem htl
    have hmem := List.getElem_mem htl
    have htk : nl.take (t + 1) = nl.take t ++ [nl[t]] := by rw [List.take_add_one, hg]; rfl
    generalize nl[t] = x at *
    have hr1 := r35.1
    obtain ⟨ad, rfl⟩ := hr1.faddr Mem.len (by decide) htl
    have hxp : (alook (wrapsL S1 key (nl.take t)).1.publics x.pub).isSome := by rw [fr.1, kf.1]; exact hpub x hmem
    have hxk : key ∈ (wrapsL S1 key (nl.take t)).1.keys := by rw [fr.2.1]; exact kin
    have hwk := Q3w hxp hxk
    refine ⟨ad, rfl, by omega, by omega, x.pub, by rw [Int.toNat_natCast]; exact hr1.fcell Mem.len hg 1 rfl, ?_⟩
    have hM : ∀ y ∈ [p1, p2, p3], ¬ y = j := fun y hy => by
      rcases List.mem_cons.1 hy with rfl | hy
      · omega
      · rcases List.mem_cons.1 hy with rfl | hy
        · omega
        · rw [List.mem_singleton.1 hy]; omega
    refine Calls.mono (P35.wrap (by omega) x.pub key) fun u w54 ⟨o54, xa, xc, he, s54, xr, hxc, P54⟩ => ⟨_, _, _, _, he, M35.keep s54 hM, fun hne' => absurd (by rw [hwk]) hne', fun _ => ⟨by omega, by omega, x.who, ?_, fun w62 q63 X62 b62 hq62 hq62' => ?_⟩⟩
    · rw [Int.toNat_natCast]; exact (r35.step s54).1.fcell Mem.len hg 0 rfl
    have t62 := Step.of_no X62 s54.ok
    have s62 := s54.trans t62.none
    have L62 : RWRow N w62 _ i11a i11c l := LRow.step L35 s62 fun j' hj => .inl (by rw [hj]; omega)
    have l54 := s54.size
    obtain ⟨a2, n2, c2, w65, o65, hrun, hn2, s65, L65, X65⟩ := L62.push s62.ok (by omega) ⟨x.who, xa, xc, (wrapOf (wrapsL S1 key (nl.take t)).1 x.pub key).1.1⟩ b62 (by omega) hq62'
    subst hn2
    have M62 := (M35.step s54).step t62
    have hMN : ∀ y ∈ [p1, p2, p3], ¬ N ≤ y := fun y hy => by
      rcases List.mem_cons.1 hy with rfl | hy
      · omega
      · rcases List.mem_cons.1 hy with rfl | hy
        · omega
        · rw [List.mem_singleton.1 hy]; omega
    refine ⟨a2, _, c2, w65, hrun, M62.keep s65 hMN, by omega, by omega, fun w66 X66 => ?_⟩
    have M65 := M62.step s65
    obtain ⟨o66, s66⟩ := Step.store1 X66 s65.ok (M65 p3 (by simp)).2
    have hall : Step (fun i => i = j) w o w66 o66 := ((s35.trans s62).trans' s65 fun i hi => .inr (by omega)).trans' s66 fun i hi => .inr (by rw [hi]; omega)
    have L66 : RWRow N w66 o66 a2 c2 (l ++ [⟨x.who, xa, xc, (wrapOf (wrapsL S1 key (nl.take t)).1 x.pub key).1.1⟩]) := LRow.step L65 s66 fun j' hj => .inl (by rw [hj]; omega)
    have hsn := Q2B key x (nl.take t) S1
    refine ⟨m - 1, by omega, t + 1, o66, a2, c2, _, rfl, by omega, hall, ?_, M65.step s66, ((r35.step s62).step s65).step s66, L66, ?_, fun y hy => ?_, by have := X62.size; have := X65.size; have := X66.size; omega⟩
    · rw [htk, hsn]
      exact ((P54.step t62 id).step s65 (show ¬ N ≤ j by omega)).step s66 (show ¬ j = p3 by omega)
    · rw [htk, hsn, List.map_append, hlm]; rfl
    · rcases List.mem_append.1 hy with hy | hy
      · obtain ⟨y1, y2⟩ := hlb y hy
        exact ⟨((y1.step s62).step s65).step s66, y2⟩
      · rw [List.mem_singleton.1 hy]
        exact ⟨((xr.step t62).step s65).step s66, hxc, by rw [hwk, Q1c]; decide⟩
  · have htt : t = nl.length := by omega
    subst htt
    rw [List.take_of_length_le (Nat.le_refl _)] at hlm P35 fr hll
    have hlw : l.length = (wrapsL S1 key nl).2.length := by rw [← hlm, List.length_map]
    refine ⟨fun hep => ?_, fun hep w98 X98 => ?_⟩
    · have hep0 : 0 ≤ s.ep := by have := hs.ep0; omega
      have he1 := hs.ep1
      refine ⟨by omega, by omega, ?_⟩
      have hwe : IntKind.u64.wrap (s.ep + 1) = (((s.ep + 1).toNat : Nat) : Int) := by rw [wu64 (by omega) (by omega)]; omega
      rw [hwe]
      refine (W.rNum_spec (s.ep + 1).toNat w35 (by omega)).mono fun u w78 ⟨ba, bc, he, hO, X78⟩ => ⟨_, _, _, he, ?_⟩
      have hO : OwnB w35.heap.size w78 ba bc (boundE (s.ep + 1)) := hO
      have t78 := Step.of_no X78 s35.ok
      have Mp2 : Mine [p2, p3] w35 o35 := M35.sub fun p hp => by
        rcases List.mem_cons.1 hp with rfl | hp
        · simp
        · rw [List.mem_singleton.1 hp]; simp
      refine ⟨Mp2.keep t78 (fun _ _ h => h), ?_⟩
      obtain ⟨ln, rfl⟩ := Int.eq_ofNat_of_zero_le hl0
      refine (Q4r (h := ln) (by omega) w78).mono fun u w81 ⟨ea, ec, he, hE, X81⟩ => ⟨_, _, _, he, ?_⟩
      have t81 := Step.of_no X81 t78.ok
      refine ⟨(Mp2.step t78).keep t81 (fun _ _ h => h), ?_⟩
      have t7881 := t78.trans t81
      have rb : Row w81 _ ba (bytesV (boundE (s.ep + 1))) := (Q1D hO X78 : Row w78 (grow w35 o35) ba _).step t81
      have re : Row w81 _ ea (bytesV (boxL ln 0)) := (Q1D hE X81 : Row w81 (grow w78 (grow w35 o35)) ea _)
      have hbl := Q4M (s.ep + 1)
      have hse := (P35.step t7881 id).sealK (by omega) key (bc := bc) (pc := ec) rb (hO.le) re (hE.le) (by omega) (by rw [Q1c]; decide)
      have hm85 : ∀ y ∈ [p2, p3], ¬ y = j := fun y hy => by
        rcases List.mem_cons.1 hy with rfl | hy
        · omega
        · rw [List.mem_singleton.1 hy]; omega
      refine Calls.mono hse fun u w85 ⟨o85, za, zc, he, s85, zr, hzc, P85⟩ => ⟨_, _, _, _, he, ((Mp2.step t78).step t81).keep s85 hm85, fun w92 X92 => ?_⟩
      have M85 := ((Mp2.step t78).step t81).step s85
      obtain ⟨o92, s92⟩ := Step.store2 X92 s85.ok (M85 p2 (by simp)).2 (M85 p3 (by simp)).2
      have sA := t7881.none.trans s85
      have sB : Step (fun i => i = j ∨ i = p2 ∨ i = p3) w35 o35 w92 o92 := (sA.mono fun _ h _ => .inl h).trans (s92.mono fun _ h _ => .inr h)
      have sW : Step (fun i => i = j) w o w92 o92 := (s35.trans sA).trans' s92 fun i hi => .inr (by rcases hi with h | h <;> omega)
      have L92 : RWRow N w92 o92 i11a i11c l := LRow.step L35 sB fun j' hj => .inl (by rcases hj with h | h | h <;> omega)
      have hB2 : beginK S s ((ln : Nat) : Int) = (⟨3, 0, 0, 0, (wrapsL S1 key nl).2, (sealOf (wrapsL S1 key nl).1 key (boundE (s.ep + 1)) (boxL ln 0)).1.1⟩, key, (sealOf (wrapsL S1 key nl).1 key (boundE (s.ep + 1)) (boxL ln 0)).2) := by rw [hB, if_pos hep0]; rfl
      rw [hB2]
      refine ⟨only j w o o92, i11a, i11c, za, zc, l, by rw [hlw]; rfl, Q2e sW j, ((P85.mono (by omega)).step s92 (show ¬ (j = p2 ∨ j = p3) by omega)).only sW, ⟨Q2C L92 sW (by omega) (by omega), hlm, fun x hx => ?_, Q1K (zr.step s92) sW j, ?_, by omega⟩, L92.le, hzc⟩
      · obtain ⟨y1, y2⟩ := hlb x hx
        exact ⟨Q1K (y1.step sB) sW j, y2⟩
      · show (sealOf (wrapsL S1 key nl).1 key (boundE (s.ep + 1)) (boxL ln 0)).1.1.length < 1000000
        unfold sealOf
        split
        · split
          · show (0 : Nat) < _; decide
          · show (boxL _ _).length < _
            rw [Q1c]
            have := Q1B (classOf (boxL ln 0).length)
            omega
        · show (0 : Nat) < _; decide
    · have hep0 : ¬ 0 ≤ s.ep := by omega
      obtain ⟨o98, s98⟩ := Step.store1 X98 s35.ok (M35 p2 (by simp)).2
      have sW : Step (fun i => i = j) w o w98 o98 := s35.trans' s98 fun i hi => .inr (by rw [hi]; exact gp2.1)
      have L98 : RWRow N w98 o98 i11a i11c l := LRow.step L35 s98 fun j' hj => .inl (by rw [hj]; omega)
      have hB2 : beginK S s last = (⟨3, 0, 0, 0, (wrapsL S1 key nl).2, []⟩, key, (wrapsL S1 key nl).1) := by rw [hB, if_neg hep0]
      rw [hB2]
      refine ⟨only j w o o98, i11a, i11c, none, 0, l, by rw [hlw]; rfl, Q2e sW j, ((P35.mono (by omega)).step s98 (show ¬ j = p2 by omega)).only sW, ⟨Q2C L98 sW (by omega) (by omega), hlm, fun x hx => ?_, Row.nil _ _ _, by show (0 : Nat) < _; decide, by omega⟩, L98.le, Nat.le_refl _⟩
      obtain ⟨y1, y2⟩ := hlb x hx
      exact ⟨Q1K (y1.step s98) sW j, y2⟩
end
open W (OwnB GivesW)
def Rng.W (R : Rng) (ka : Option Addr) (kc : Nat) (oa : Option Addr) (oc : Nat) : List Value := [.int .i64 R.who, .int .u64 R.secret, .slice ka R.keys.length kc, .slice oa R.olds.length oc]
structure MG (w : World) (o : Own) (q : Nat) (R : Rng) : Prop where
  mem : ∃ ka kc oa oc, ∃ ol : List BS, Blk w q 61 (R.W ka kc oa oc) ∧ KRw w o q ka kc R.keys ∧ ORw w o q oa oc ol ∧ ol.map BS.bs = R.olds ∧ ∀ x ∈ ol, BSk w o x
  tg : o q = some q
section
variable {w w' w1 : World} {o o' o1 : Own} {q k p N m : Nat} {K : Nat → Prop} {R : Rng} {b : List UInt8} {a : Option Addr} {c : Nat}
theorem MG.lt (h : MG w o q R) : q < w.heap.size := by
  obtain ⟨ka, kc, oa, oc, ol, hb, _⟩ := h.mem
  exact hb.lt
theorem MG.step (h : MG w o q R) (s : Step K w o w' o') (hk : ¬ K q) : MG w' o' q R := by
  obtain ⟨⟨ka, kc, oa, oc, ol, hb, hk1, ho, hm, hx⟩, tg⟩ := h
  exact ⟨⟨ka, kc, oa, oc, ol, s.blk hb tg hk, hk1.step s hk, ho.step s hk, hm, fun x h => (hx x h).step s⟩, by rw [s.own hb.lt]; exact tg⟩
theorem MG.pushKey (h : MG w o q R) (ok : Tags w o) (hl : R.keys.length < 1000000) (x : Int) {qb : Nat} (hb : Blk w qb 26 [.int .u64 x]) {ka : Option Addr} {n kc : Nat} (hc : w.cell? ((blk q).add 2) = some (.slice ka n kc)) :
    ∃ a' n' c' w' o', (Builtin.append_ #[22, 22] 22 #[.slice ka n kc, .slice (some (blk qb)) 1 1]).run Tryz.prog w = .ok (.slice a' n' c') w' ∧ Step (fun j => j = q) w o w' o' ∧
      Q0e w' ((blk q).add 2) ∧ ∀ w2, w2 = w'.setCell ((blk q).add 2) (.slice a' n' c') → Step (fun j => j = q) w o w2 (grow w' o') ∧ MG w2 (grow w' o') q { R with keys := R.keys ++ [x] } := by
  obtain ⟨⟨ka', kc', oa, oc, ol, hbk, hk1, ho, hm, hx⟩, tg⟩ := h
  have hc2 := hbk.cella (i := 2) (v := .slice ka' R.keys.length kc') rfl
  rw [hc] at hc2
  cases hc2
  obtain ⟨i, hi, hz, hsz, hby⟩ := info_of inf26
  obtain ⟨a', c', w', o', hrun, s2, hk2, hk, _⟩ := Grows.push (ty := 22) Tryz.underlying22 hi hz hsz hby rfl (by decide) hk1 ok hbk.lt (xa := some (blk qb)) (m := 1) (xc := 1) (news := [x].map u64V) rfl (RowAt.of_blk hb) Q5o (by omega) (by omega)
  have X2 : Ext (fun b => ∃ ad, ka = some ad ∧ b = ad.block) w w' := ⟨s2.ext.os, s2.ext.tape, s2.ext.output, s2.ext.size, fun b hb hn => hk b hb fun ad ha hb' => hn ⟨ad, ha, hb'⟩⟩
  have hb2 : Blk w' q 61 _ := hbk.ext X2 fun ⟨ad, h1, h2⟩ => hk1.ne hbk (by decide) ad h1 h2.symm
  have ho2 : ORw w' o' q oa oc ol := ho.keep X2 (fun ad ha ⟨ad', h1, h2⟩ => ho.apart hk1 (by decide) ad ad' ha h1 h2) fun b hb => s2.own hb
  have tg2 : o' q = some q := by rw [s2.own hbk.lt]; exact tg
  refine ⟨a', _, c', w', o', hrun, s2, hb2.cana (i := 2) rfl, fun w3 e3 => ?_⟩
  have X3 : Ext (fun b => b = q) w' w3 := (Ext.refl (fun b => b = q) w').x_set (q := q) (i := 2) rfl (.inl rfl) e3
  have b3 := hb2.seti 2 rfl e3
  have hk2' : KRw w' o' q a' c' (R.keys ++ [x]) := by
    unfold KRw
    rw [List.length_append, List.map_append]; exact hk2
  have s3 : Step (fun j => j = q) w' o' w3 (grow w' o') := Step.of_ext X3 s2.ok fun b hb _ => by subst hb; exact tg2
  refine ⟨s2.trans s3, ⟨⟨a', c', oa, oc, ol, ?_, ?_, ?_, hm, fun y hy => ((hx y hy).step s2).step s3⟩, by rw [s3.own hb2.lt]; exact tg2⟩⟩
  · have e : Rng.W { R with keys := R.keys ++ [x] } a' c' oa oc = [.int .i64 R.who, .int .u64 R.secret, .slice a' (R.keys.length + 1) c', .slice oa R.olds.length oc] := by unfold Rng.W; rw [List.length_append]; rfl
    rw [e]; exact b3
  · exact hk2'.keep X3 (hk2'.ne hb2 (by decide)) fun b hb => s3.own hb
  · exact ho2.keep X3 (ho2.ne hb2 (by decide)) fun b hb => s3.own hb
theorem MG.pushOld (h : MG w o q R) (ok : Tags w o) (hl : R.olds.length < 1000000) {x : BS} (hxk : BSk w o x) {qb : Nat} (hb : Blk w qb 25 [x.v]) {ka : Option Addr} {n kc : Nat} (hc : w.cell? ((blk q).add 3) = some (.slice ka n kc)) :
    ∃ a' n' c' w' o', (Builtin.append_ #[59, 59] 59 #[.slice ka n kc, .slice (some (blk qb)) 1 1]).run Tryz.prog w = .ok (.slice a' n' c') w' ∧ Step (fun j => j = q) w o w' o' ∧
      Q0e w' ((blk q).add 3) ∧ ∀ w2, w2 = w'.setCell ((blk q).add 3) (.slice a' n' c') → Step (fun j => j = q) w o w2 (grow w' o') ∧ MG w2 (grow w' o') q { R with olds := R.olds ++ [x.bs] } := by
  obtain ⟨⟨ka', kc', oa, oc, ol, hbk, hk1, ho, hm, hx⟩, tg⟩ := h
  have hol : ol.length = R.olds.length := by rw [← hm, List.length_map]
  have hc2 := hbk.cella (i := 3) (v := .slice oa R.olds.length oc) rfl
  rw [hc] at hc2
  cases hc2
  obtain ⟨i, hi, hz, hsz, hby⟩ := info_of inf25
  obtain ⟨a', c', w', o', hrun, s2, hk2, hk, _⟩ := Grows.push (ty := 59) Tryz.underlying59 hi hz hsz hby rfl (by decide) ho ok hbk.lt (xa := some (blk qb)) (m := 1) (xc := 1) (news := [x].map BS.v) rfl (RowAt.of_blk hb) Q5q (by omega) (by omega)
  rw [hol] at hrun
  have X2 : Ext (fun b => ∃ ad, ka = some ad ∧ b = ad.block) w w' := ⟨s2.ext.os, s2.ext.tape, s2.ext.output, s2.ext.size, fun b hb hn => hk b hb fun ad ha hb' => hn ⟨ad, ha, hb'⟩⟩
  have hb2 : Blk w' q 61 _ := hbk.ext X2 fun ⟨ad, h1, h2⟩ => ho.ne hbk (by decide) ad h1 h2.symm
  have hk1' : KRw w' o' q ka' kc' R.keys := hk1.keep X2 (fun ad ha ⟨ad', h1, h2⟩ => hk1.apart ho (by decide) ad ad' ha h1 h2) fun b hb => s2.own hb
  have tg2 : o' q = some q := by rw [s2.own hbk.lt]; exact tg
  refine ⟨a', _, c', w', o', hrun, s2, hb2.cana (i := 3) rfl, fun w3 e3 => ?_⟩
  have X3 : Ext (fun b => b = q) w' w3 := (Ext.refl (fun b => b = q) w').x_set (q := q) (i := 3) rfl (.inl rfl) e3
  have b3 := hb2.seti 3 rfl e3
  have hk2' : ORw w' o' q a' c' (ol ++ [x]) := by
    unfold ORw
    rw [List.length_append, List.map_append]; exact hk2
  have s3 : Step (fun j => j = q) w' o' w3 (grow w' o') := Step.of_ext X3 s2.ok fun b hb _ => by subst hb; exact tg2
  refine ⟨s2.trans s3, ⟨⟨ka', kc', a', c', ol ++ [x], ?_, ?_, ?_, by rw [List.map_append, hm]; rfl, fun y hy => ?_⟩, by rw [s3.own hb2.lt]; exact tg2⟩⟩
  · have e : Rng.W { R with olds := R.olds ++ [x.bs] } ka' kc' a' c' = [.int .i64 R.who, .int .u64 R.secret, .slice ka' R.keys.length kc', .slice a' (R.olds.length + 1) c'] := by unfold Rng.W; rw [List.length_append]; rfl
    rw [e]; exact b3
  · exact hk1'.keep X3 (hk1'.ne hb2 (by decide)) fun b hb => s3.own hb
  · exact hk2'.keep X3 (hk2'.ne hb2 (by decide)) fun b hb => s3.own hb
  · rcases List.mem_append.1 hy with hy | hy
    · exact ((hx y hy).step s2).step s3
    · rw [List.mem_singleton.1 hy]; exact (hxk.step s2).step s3
theorem MG.key (h : MG w o q R) {i : Nat} (hi : i < R.keys.length) : ∃ ka kc ad, w.cell? ((blk q).add 2) = some (.slice ka R.keys.length kc) ∧ ka = some ad ∧ w.cell? (ad.add (i * 1)) = some (.int .u64 (R.keys[i]?.getD 0)) := by
  obtain ⟨⟨ka, kc, oa, oc, ol, hbk, hk1, ho, hm, hx⟩, tg⟩ := h
  have hr := hk1.row
  have hg : (R.keys.map u64V)[i]? = some (u64V (R.keys[i]?.getD 0)) := by rw [List.getElem?_map, List.getElem?_eq_getElem hi]; rfl
  obtain ⟨ad, ha, hc⟩ := hr i _ hg
  exact ⟨ka, kc, ad, hbk.cella (i := 2) rfl, ha, by rw [Nat.mul_one]; exact hc⟩
theorem MG.who (h : MG w o q R) : w.cell? ((blk q).add 0) = some (.int .i64 R.who) := by
  obtain ⟨⟨ka, kc, oa, oc, ol, hbk, _⟩, tg⟩ := h
  exact hbk.cella (i := 0) rfl
theorem MG.secret (h : MG w o q R) : w.cell? ((blk q).add 1) = some (.int .u64 R.secret) := by
  obtain ⟨⟨ka, kc, oa, oc, ol, hbk, _⟩, tg⟩ := h
  exact hbk.cella (i := 1) rfl
theorem MG.keysC (h : MG w o q R) : ∃ ka kc, w.cell? ((blk q).add 2) = some (.slice ka R.keys.length kc) := by
  obtain ⟨⟨ka, kc, oa, oc, ol, hbk, _⟩, tg⟩ := h
  exact ⟨ka, kc, hbk.cella (i := 2) rfl⟩
theorem MG.oldsC (h : MG w o q R) : ∃ ka kc, w.cell? ((blk q).add 3) = some (.slice ka R.olds.length kc) := by
  obtain ⟨⟨ka, kc, oa, oc, ol, hbk, _⟩, tg⟩ := h
  exact ⟨oa, oc, hbk.cella (i := 3) rfl⟩
theorem MG.init {b : Nat} {who secret : Int} (ok : Tags w o) (X : Ext no w w') (hb : Blk w' b 61 [.int .i64 who, .int .u64 secret, .slice none 0 0, .slice none 0 0]) (hq : w.heap.size ≤ b) (hq' : b < w'.heap.size) :
    Step no w o w' (tag (grow w o) b b) ∧ MG w' (tag (grow w o) b b) b ⟨who, secret, [], []⟩ :=
  ⟨(Step.of_no X ok).tag hq hq', ⟨none, 0, none, 0, [], hb, Grows.nil _ _ _ _ _, Grows.nil _ _ _ _ _, rfl, fun x h => (by cases h)⟩, Q1E⟩
end
theorem Q3F : ∀ {l : List (Int × List UInt8)} {last : Int}, boxesGo last l = true → l.Pairwise (fun a b => a.1 < b.1) ∧ (∀ x ∈ l, last < x.1) ∧ ∀ x ∈ l, x.2.length = 16
  | [], last, _ => ⟨List.Pairwise.nil, fun x h => (by cases h), fun x h => (by cases h)⟩
  | x :: r, last, h => by
    simp only [boxesGo, Bool.and_eq_true, decide_eq_true_eq] at h
    obtain ⟨⟨⟨h1, h2⟩, h3⟩, h4⟩ := h
    obtain ⟨g1, g2, g3⟩ := Q3F h4
    refine ⟨List.Pairwise.cons g2 g1, fun y hy => ?_, fun y hy => ?_⟩
    · rcases List.mem_cons.1 hy with rfl | hy
      · exact h2
      · have := g2 y hy; omega
    · rcases List.mem_cons.1 hy with rfl | hy
      · exact h3
      · exact g3 y hy
theorem Q4D {c : Chg} (h : rightM c = true) (hk : c.kd = 3) : boxesGo (-1) c.ws = true := by
  rw [Q3b hk] at h
  simp only [Bool.and_eq_true] at h
  have h1 := h.1
  unfold boxesP at h1
  simp only [Bool.and_eq_true] at h1
  exact h1.1
theorem Q5I (S : OS) (olds : List (List UInt8)) {ks : List Int} (h : ∀ x ∈ ks, x ≠ 0) (x : Int) : backK S olds ks.length (ks ++ [x]) = ks ++ [x] := by
  cases hl : ks.length with
  | zero => rfl
  | succ e =>
    unfold backK
    rw [if_neg]
    intro ht
    have h2 := ht.1.2
    rw [List.getElem?_append_left (by omega), List.getElem?_eq_getElem (by omega)] at h2
    exact h _ (List.getElem_mem _) h2
theorem Q3K {l : List (Int × List UInt8)} (hp : l.Pairwise fun a b => a.1 < b.1) {t : Nat} {x : Int × List UInt8} (hx : l[t]? = some x) : (l.take t).find? (fun p => p.1 == x.1) = none := by
  rw [List.find?_eq_none]
  intro y hy hc
  obtain ⟨i, hi⟩ := List.mem_iff_getElem?.1 hy
  have hit : i < t := by
    have := (List.getElem?_eq_some_iff.1 hi).1
    rw [List.length_take] at this; omega
  rw [List.getElem?_take_of_lt hit] at hi
  obtain ⟨h1, e1⟩ := List.getElem?_eq_some_iff.1 hi
  obtain ⟨h2, e2⟩ := List.getElem?_eq_some_iff.1 hx
  have := List.pairwise_iff_getElem.1 hp i t h1 h2 hit
  rw [e1, e2] at this
  simp only [beq_iff_eq] at hc
  omega
def toldTo (S : OS) (R : Rng) (l : List (Int × List UInt8)) : Int × Int := match l.find? (fun p => p.1 == R.who) with | some p => Q1a S R.secret p.2 | none => (0, 11)
section
variable {w w' w1 : World} {o o' o1 : Own} {q k p N m j n : Nat} {K : Nat → Prop} {R : Rng} {S : OS} {b : List UInt8} {a : Option Addr} {c : Nat} {l : List Wr} {cg : Chg} {wa oa : Option Addr} {wc oc : Nat}
theorem Q5g (h : MG w o q R) (hP : Rof w o j S n) (hn : n < 1000000) (hqj : q ≠ j) (hl : R.keys.length = R.olds.length) (h1 : R.keys.length < 1000) (hnz : ∀ x ∈ R.keys, x ≠ 0) (hC : CH w o cg wa wc l oa oc) (hoc : cg.old.length ≤ oc) :
    Calls Tryz.prog 26 #[.pointer (some (blk q)), .pointer (some (blk j)), chgV cg wa wc oa oc] w (Ret (.int .i64 (learnK S R cg).2) fun w' => ∃ o', Step (fun i => i = q) w o w' o' ∧ MG w' o' q (learnK S R cg).1) := by
  refine Q0a.run _ _ _ _ _ _ _ _ _ _ _ _ ?_
  unfold Q0a.N
  have ok := hP.ok
  intro w9 pp X9 P9
  obtain ⟨s9, M9⟩ := Step.priv X9 P9 ok
  have hpp := P9 pp (by simp)
  have hql := h.lt
  have hpq : pp ≠ q := by omega
  have hlen : cg.ws.length = l.length := by rw [← hC.m]; simp
  have hln := hC.n
  have bad : ∀ (k2 : Int) (w9 : World) (o9 : Own), learnK S R cg = (R, k2) → Step no w o w9 o9 → Value.int .i64 k2 = .int .i64 (learnK S R cg).2 ∧ ∃ o', Step (fun i => i = q) w o w9 o' ∧ MG w9 o' q (learnK S R cg).1 := fun k2 w9 o9 hK s9 => by
    rw [hK]; exact ⟨rfl, o9, s9.none, h.step s9 id⟩
  have R9 := Q3D (w := w9) (cg := cg) (wa := wa) (oa := oa) (wc := wc) (oc := oc) (hC.step s9).ws.1 hC.m hC.n hC.ol
  refine Calls.mono R9 fun u w13 ⟨he, X13⟩ => ⟨_, he, (M9.keep (Step.of_no X13 s9.ok) fun _ _ h => h), fun hr => ?_, fun hr => ⟨fun hk => ?_, fun hk => ?_⟩⟩
  · exact bad 1 w13 _ (by unfold learnK; rw [if_pos (.inr hr)]) (s9.trans (Step.of_no X13 s9.ok))
  · exact bad 1 w13 _ (by unfold learnK; rw [if_pos (.inl hk)]) (s9.trans (Step.of_no X13 s9.ok))
  have t13 := Step.of_no X13 s9.ok
  have s13 := s9.trans t13
  have M13 := M9.step t13
  have E13 := h.step s13 id
  obtain ⟨ka, kc, hc3⟩ := E13.keysC
  refine ⟨_, rfl, _, _, _, hc3, fun h20 => ?_, fun h20 => ?_⟩
  · exact bad 3 w13 _ (by unfold learnK; rw [if_neg (by rw [hr]; simp [hk]), if_pos (by omega)]) s13
  have hK : learnK S R cg = ({ R with keys := R.keys ++ [(toldBy S R cg).1], olds := R.olds ++ [cg.old] }, (toldBy S R cg).2) := by
    unfold learnK; rw [if_neg (by rw [hr]; simp [hk]), if_neg (by omega), Q5I _ _ hnz]
  obtain ⟨hpw, _, hb16⟩ := Q3F (Q4D hr hk)
  rw [← hC.m] at hpw
  have htb : toldBy S R cg = toldTo S R (l.map Wr.p) := by unfold toldBy toldTo; rw [hC.m]; try rfl
  rw [hlen]
  refine ⟨fun m vs w1 => ∃ (t : Nat), vs = [.int .u64 (toldTo S R ((l.map Wr.p).take t)).1, .int .i64 (toldTo S R ((l.map Wr.p).take t)).2, .int .i64 t] ∧ m + t = l.length ∧ Ext no w13 w1, l.length, ⟨0, rfl, rfl, Ext.refl _ _⟩, ?_⟩
  intro m w25 key kk i hI
  obtain ⟨t, hi, hm, X25⟩ := hI
  simp only [List.cons.injEq, Value.int.injEq, true_and, and_true] at hi
  obtain ⟨rfl, rfl, rfl⟩ := hi
  have t25 := Step.of_no X25 s13.ok
  have s25 := s13.trans t25
  have E25 := h.step s25 id
  have C25 := hC.step s25
  refine ⟨fun ht => ?_, fun ht => ?_⟩
  · have htl : t < l.length := by omega
    have hg : l[t]? = some l[t] := List.getElem?_eq_getElem htl
    have hmem := List.getElem_mem htl
    have hgm : (l.map Wr.p)[t]? = some (l[t]).p := by rw [List.getElem?_map, hg]; rfl
    have htk : (l.map Wr.p).take (t + 1) = (l.map Wr.p).take t ++ [(l[t]).p] := by rw [List.take_add_one, hgm]; rfl
    generalize l[t] = x at *
    have hw25 := C25.ws.1
    obtain ⟨ad, rfl⟩ := hw25.faddr Wr.len (by decide) htl
    refine ⟨ad, rfl, by omega, by omega, x.who, by rw [Int.toNat_natCast]; exact hw25.fcell Wr.len hg 0 rfl, _, E25.who, fun hwho => ?_, fun hwho => ⟨by omega, by omega, fun w27 X27 => ⟨m - 1, by omega, t + 1, ?_, by omega, X25.trans X27⟩⟩⟩
    · have hno : ((l.map Wr.p).take t).find? (fun p => p.1 == R.who) = none := by
        have := Q3K hpw hgm
        rwa [show x.p.1 = R.who from hwho] at this
      have ht2 : toldTo S R ((l.map Wr.p).take (t + 1)) = Q1a S R.secret x.b := by
        unfold toldTo
        rw [htk, List.find?_append, hno]
        have : (x.p.1 == R.who) = true := by rw [show x.p.1 = R.who from hwho]; simp
        rw [List.find?_cons, this]; rfl
      refine ⟨_, E25.secret, by omega, by omega, _, _, _, by rw [Int.toNat_natCast]; exact hw25.fcell Wr.len hg 1 rfl, fun w34 X34 => ?_⟩
      have t34 := Step.of_no X34 s25.ok
      have s34 := s25.trans t34
      obtain ⟨x1, x2, x3⟩ := (hC.step s34).bs x hmem
      refine Calls.mono ((hP.step s34 id).unwrap hn R.secret x1.1 x3) fun u w42 ⟨he, X42⟩ => ⟨_, _, he, ((M13.step t25).step t34).keep (Step.of_no X42 s34.ok) (fun _ _ h => h), by omega, by omega, m - 1, by omega, t + 1, ?_, by omega, (X25.trans X34).trans X42⟩
      rw [ht2]; rfl
    · have ht2 : toldTo S R ((l.map Wr.p).take (t + 1)) = toldTo S R ((l.map Wr.p).take t) := by
        unfold toldTo
        rw [htk, List.find?_append]
        have hf : (x.p.1 == R.who) = false := by
          show (x.who == R.who) = false; simpa using hwho
        have : [x.p].find? (fun p => p.1 == R.who) = none := by rw [List.find?_cons, hf]; rfl
        rw [this, Option.or_none]
      rw [ht2]; rfl
  · have htt : t = l.length := by omega
    subst htt
    rw [List.take_of_length_le (by rw [List.length_map]; exact Nat.le_refl _), ← htb]
    obtain ⟨x, hx⟩ : ∃ x, (toldBy S R cg).1 = x := ⟨_, rfl⟩
    rw [hx] at hK ⊢
    obtain ⟨ka2, kc2, hc25⟩ := E25.keysC
    refine ⟨_, _, _, hc25, fun w47 q48 X47 b47 hq47 hq47' => ?_⟩
    have t47 := Step.of_no X47 s25.ok
    have s47 := s25.trans t47
    have E47 := h.step s47 id
    obtain ⟨a6, n6, c6, w50, o50, hrun, s50, hcan, hst⟩ := E47.pushKey s47.ok (by omega) x b47 (X47.cell hc25 id)
    have M47 := (M13.step t25).step t47
    have a20 : ((blk q).add 2).add 0 = (blk q).add 2 := by rw [add_add]
    refine ⟨a6, n6, c6, w50, hrun, M47.keep s50 (fun y hy => by rw [List.mem_singleton.1 hy]; exact hpq), ?_⟩
    rw [a20]
    refine ⟨hcan, fun y hy => by rw [List.mem_singleton.1 hy, Q1g]; exact hpq, Q01 fun w51 e51 => ?_⟩
    obtain ⟨s51, E51⟩ := hst w51 e51
    have s51' : Step (fun i => i = q) w o w51 _ := s47.none.trans s51
    obtain ⟨oa1, oc1, hc4⟩ := E51.oldsC
    refine ⟨_, _, _, hc4, fun w55 q56 X55 b55 hq55 hq55' => ?_⟩
    have t55 := Step.of_no X55 s51.ok
    have E55 := E51.step t55 id
    have C55 := (hC.step s51').step t55
    refine ⟨X55.cell hc4 id, ?_⟩
    obtain ⟨a8, n8, c8, w59, o59, hrun8, s59, hcan8, hst8⟩ := E55.pushOld (x := ⟨oa, oc, cg.old⟩) t55.ok (by show R.olds.length < 1000000; omega) ⟨C55.old, hoc⟩ b55 (X55.cell hc4 id)
    have a30 : ((blk q).add 3).add 0 = (blk q).add 3 := by rw [add_add]
    refine ⟨a8, n8, c8, w59, hrun8, ?_⟩
    rw [a30]
    refine ⟨hcan8, Q01 fun w60 e60 => ?_⟩
    obtain ⟨s60, E60⟩ := hst8 w60 e60
    have s60' : Step (fun i => i = q) w o w60 _ := (s51'.trans t55.none).trans s60
    have E60 : MG w60 (grow w59 o59) q { R with keys := R.keys ++ [x], olds := R.olds ++ [cg.old] } := E60
    have fin : Value.int .i64 (toldBy S R cg).2 = .int .i64 (learnK S R cg).2 ∧ ∃ o', Step (fun i => i = q) w o w60 o' ∧ MG w60 o' q (learnK S R cg).1 := by rw [hK]; exact ⟨rfl, _, s60', E60⟩
    obtain ⟨ka3, kc3, hc60⟩ := E60.keysC
    have hkl : (R.keys ++ [x]).length = R.keys.length + 1 := by simp
    have hc60 : w60.cell? ((blk q).add 2) = some (.slice ka3 (R.keys ++ [x]).length kc3) := hc60
    refine ⟨_, _, _, hc60, by omega, by omega, ?_⟩
    refine ⟨fun m vs w1 => vs = [.int .i64 (((R.keys ++ [x]).length : Int) - 1)] ∧ w1 = w60, 0, ⟨rfl, rfl⟩, ?_⟩
    rintro m2 w66 ev ⟨hev, rfl⟩
    simp only [List.cons.injEq, Value.int.injEq, true_and, and_true] at hev
    subst hev
    refine ⟨fun hgt => ?_, fun _ => fin⟩
    have e1 : Int.toNat (((R.keys ++ [x]).length : Int) - 1) = R.keys.length := by omega
    have e2 : Int.toNat (((R.keys ++ [x]).length : Int) - 1 - 1) = R.keys.length - 1 := by omega
    obtain ⟨ka4, kc4, ad4, cc4, ha4, v4⟩ := E60.key (i := R.keys.length) (by show R.keys.length < (R.keys ++ [x]).length; omega)
    have v4 : w66.cell? (ad4.add (R.keys.length * 1)) = some (.int .u64 ((R.keys ++ [x])[R.keys.length]?.getD 0)) := v4
    refine ⟨_, _, _, cc4, ad4, ha4, by omega, by show (((R.keys ++ [x]).length : Int) - 1) < ((R.keys ++ [x]).length : Int); omega, _, by rw [e1]; exact v4, fun hn1 => ?_, fun _ => fin⟩
    obtain ⟨ka5, kc5, ad5, cc5, ha5, v5⟩ := E60.key (i := R.keys.length - 1) (by show R.keys.length - 1 < (R.keys ++ [x]).length; omega)
    have v5 : w66.cell? (ad5.add ((R.keys.length - 1) * 1)) = some (.int .u64 ((R.keys ++ [x])[R.keys.length - 1]?.getD 0)) := v5
    refine ⟨_, _, _, cc5, by omega, by omega, ad5, ha5, by omega, by show (((R.keys ++ [x]).length : Int) - 1 - 1) < ((R.keys ++ [x]).length : Int); omega, _, by rw [e2]; exact v5, fun hz => ?_, fun _ => fin⟩
    exfalso
    rw [List.getElem?_append_left (by omega), List.getElem?_eq_getElem (by omega)] at hz
    exact hnz _ (List.getElem_mem _) hz
end
end Go.Proofs.YtgeakpldocfccaaGreat