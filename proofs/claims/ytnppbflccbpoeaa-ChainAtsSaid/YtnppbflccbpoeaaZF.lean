/- ChainAts. -/
import Derived.Test.YtnppbflccbpoeaaZE
set_option linter.unusedVariables false
set_option linter.unusedSimpArgs false
set_option maxRecDepth 20000
set_option maxHeartbeats 2000000
namespace Go.Proofs.Ytnppbflccbpoeaa
open Go Go.Mx Go.Proofs
open W (OwnB GivesW numR countR doneR zig unzig intR)
theorem eqT46 (x0 : Int) (x1 : Int) (x2 : Int) (y0 : Int) (y1 : Int) (y2 : Int) (w : World) : (Op.equalIn 10000 46 (.agg #[.int .i64 x0, .int .i64 x1, .int .u64 x2]) (.agg #[.int .i64 y0, .int .i64 y1, .int .u64 y2])).run Try.prog w = .ok (decide (x0 = y0 ∧ x1 = y1 ∧ x2 = y2)) w := by
  obtain ⟨f0, f1, f2, ht, n0, o0, p0, u0, n1, o1, p1, u1, n2, o2, p2, u2, hp⟩ : ∃ f0 f1 f2, Try.prog.underlying 46 = some (.struct #[f0, f1, f2]) ∧ f0.name ≠ "_" ∧ f0.offset = 0 ∧ Try.prog.plainKey f0.type = true ∧ Try.prog.underlying f0.type = some (.int .i64) ∧ f1.name ≠ "_" ∧ f1.offset = 1 ∧ Try.prog.plainKey f1.type = true ∧ Try.prog.underlying f1.type = some (.int .i64) ∧ f2.name ≠ "_" ∧ f2.offset = 2 ∧ Try.prog.plainKey f2.type = true ∧ Try.prog.underlying f2.type = some (.int .u64) ∧ Try.prog.stoodInHeld 46 = false :=
    ⟨_, _, _, Try.underlying46, by decide, rfl, by kernel_rfl, by kernel_rfl, by decide, rfl, by kernel_rfl, by kernel_rfl, by decide, rfl, by kernel_rfl, by kernel_rfl, by kernel_rfl⟩
  have hf : Try.prog.fieldsOf 46 = #[f0, f1, f2] := by simp [Program.fieldsOf, ht]
  rw [show (10000 : Nat) = 9998 + 1 + 1 from rfl, run_equalIn_struct w (9998 + 1) _ _ _ (by rw [hf]; exact ht) hp, hf]
  show (Op.eqFields (9998 + 1) _ _ [f0, f1, f2]).run Try.prog w = _
  rw [W.eqf_step n0 (run_part_plain w p0 (by rw [o0]; rfl)) (run_part_plain w p0 (by rw [o0]; rfl)) (run_equalIn_int w _ _ _ _ _ _ u0), W.eqf_step n1 (run_part_plain w p1 (by rw [o1]; rfl)) (run_part_plain w p1 (by rw [o1]; rfl)) (run_equalIn_int w _ _ _ _ _ _ u1), W.eqf_step n2 (run_part_plain w p2 (by rw [o2]; rfl)) (run_part_plain w p2 (by rw [o2]; rfl)) (run_equalIn_int w _ _ _ _ _ _ u2)]
  by_cases e0 : x0 = y0 <;> by_cases e1 : x1 = y1 <;> by_cases e2 : x2 = y2 <;> simp [e0, e1, e2, Op.eqFields]
theorem eqT46_eq (x0 : Int) (x1 : Int) (x2 : Int) (y0 : Int) (y1 : Int) (y2 : Int) (w : World) : (binOp .eql 46 (.agg #[.int .i64 x0, .int .i64 x1, .int .u64 x2]) (.agg #[.int .i64 y0, .int .i64 y1, .int .u64 y2])).run Try.prog w = .ok (.bool (decide (x0 = y0 ∧ x1 = y1 ∧ x2 = y2))) w := by rw [run_eql_struct, eqT46]; rfl
/-- cachettelaw07.ChainAts -/
def cachettelaw07_ChainAts.M (l1a : Option Addr) (l1n : Nat) (l1c : Nat) (atv2 : Int) (R : Value → World → Prop) (w : World) : Prop :=
  Calls Try.prog 9 #[.slice none 0 0, .slice l1a l1n l1c] w fun ee4 ww5 => ∃ (light3 : Bool), ee4 = .returned (.bool light3) ∧
  bif !light3 then (
  Calls Try.prog 10 #[] ww5 fun ee7 ww8 => ∃ (alive6 : Bool), ee7 = .returned (.bool alive6) ∧
  R (.bool alive6) ww8) else (
  Calls Try.prog 11 #[.slice none 0 0] ww5 fun ee10 ww11 => ∃ (new9 : Option Addr), ee10 = .returned (.pointer new9) ∧
  Calls Try.prog 12 #[.pointer new9] ww11 fun ee14 ww15 => ∃ (pair12 : Int) (pair13 : Int), ee14 = .returned (.tuple #[.int .u64 pair12, .int .u64 pair13]) ∧
  Calls Try.prog 13 #[.pointer new9, .int .i64 1, .int .u64 pair13] ww15 fun ee18 ww19 => ∃ (new16 : Option Addr) (new17 : Int), ee18 = .returned (.tuple #[.pointer new16, .int .i64 new17]) ∧
  Calls Try.prog 13 #[.pointer new9, .int .i64 atv2, .int .u64 pair13] ww19 fun ee22 ww23 => ∃ (new20 : Option Addr) (new21 : Int), ee22 = .returned (.tuple #[.pointer new20, .int .i64 new21]) ∧
  Calls Try.prog 13 #[.pointer none, .int .i64 1, .int .u64 pair13] ww23 fun ee26 ww27 => ∃ (new24 : Option Addr) (new25 : Int), ee26 = .returned (.tuple #[.pointer new24, .int .i64 new25]) ∧
  bif new17 != 0 then (
  R (.bool false) ww27) else (
  bif decide (atv2 ≥ 0) then (
  bif !((new21 == 0) == (decide (atv2 < 8))) then (
  R (.bool false) ww27) else (
  bif new25 != 23 then (
  R (.bool false) ww27) else (
  ∃ (I0 : Nat → List Value → World → Prop) (m30 : Nat), I0 m30 [.slice none 0 0, .int .i64 0] ww27 ∧ ∀ (m31 : Nat) (ww32 : World) (all28a : Option Addr) (all28n : Nat) (all28c : Nat) (n29 : Int), I0 m31 [.slice all28a all28n all28c, .int .i64 n29] ww32 →
  bif decide (n29 < (l1n : Int)) then (
  thenW (ww32.drew) fun ww33 =>
  l1a.elim False fun a34 =>
  0 ≤ (n29 : Int) ∧ (n29 : Int) < (l1n : Int) ∧
  ∃ (T35 : Int), ww33.cell? ((a34.add (Int.toNat n29 * 14)).add 1) = some (.int .i64 T35) ∧
  l1a.elim False fun a36 =>
  0 ≤ (n29 : Int) ∧ (n29 : Int) < (l1n : Int) ∧
  ∃ (Epoch37 : Int), ww33.cell? ((a36.add (Int.toNat n29 * 14)).add 2) = some (.int .i64 Epoch37) ∧
  l1a.elim False fun a38 =>
  0 ≤ (n29 : Int) ∧ (n29 : Int) < (l1n : Int) ∧
  ∃ (Body39a : Option Addr) (Body39n : Nat) (Body39c : Nat), ww33.cell? ((a38.add (Int.toNat n29 * 14)).add 3) = some (.slice Body39a Body39n Body39c) ∧
  (Calls Try.prog 14 #[.pointer new16, .int .u64 pair12, .agg #[.int .i64 T35, .int .i64 1], .int .i64 Epoch37, .slice Body39a Body39n Body39c] ww33 fun ee49 ww50 => ∃ (Writer40 : Int) (Index41 : Int) (Prev42 : Int) (AtT43 : Int) (AtW44 : Int) (Epoch45 : Int) (Body46a : Option Addr) (Body46n : Nat) (Body46c : Nat) (Sig47 : Int) (issue48 : Int), ee49 = .returned (.tuple #[.agg #[.int .i64 Writer40, .int .i64 Index41, .int .u64 Prev42, .int .i64 AtT43, .int .i64 AtW44, .int .i64 Epoch45, .slice Body46a Body46n Body46c, .int .u64 Sig47], .int .i64 issue48]) ∧
  thenW (ww50.alloc (.cells #[.int .i64 0, .int .i64 0, .int .u64 0, .int .i64 0, .int .i64 0, .int .i64 0, .slice none 0 0, .int .u64 0] 39)) fun ww51 =>
  canStore ww51 ((blk ww50.heap.size).add 0) ∧
  thenW (ww51.setCell ((blk ww50.heap.size).add 0) (.int .i64 Writer40)) fun ww52 =>
  canStore ww52 ((blk ww50.heap.size).add 1) ∧
  thenW (ww52.setCell ((blk ww50.heap.size).add 1) (.int .i64 Index41)) fun ww53 =>
  canStore ww53 ((blk ww50.heap.size).add 2) ∧
  thenW (ww53.setCell ((blk ww50.heap.size).add 2) (.int .u64 Prev42)) fun ww54 =>
  canStore ww54 ((blk ww50.heap.size).add 3) ∧
  thenW (ww54.setCell ((blk ww50.heap.size).add 3) (.int .i64 AtT43)) fun ww55 =>
  canStore ww55 ((blk ww50.heap.size).add 4) ∧
  thenW (ww55.setCell ((blk ww50.heap.size).add 4) (.int .i64 AtW44)) fun ww56 =>
  canStore ww56 ((blk ww50.heap.size).add 5) ∧
  thenW (ww56.setCell ((blk ww50.heap.size).add 5) (.int .i64 Epoch45)) fun ww57 =>
  canStore ww57 ((blk ww50.heap.size).add 6) ∧
  thenW (ww57.setCell ((blk ww50.heap.size).add 6) (.slice Body46a Body46n Body46c)) fun ww58 =>
  canStore ww58 ((blk ww50.heap.size).add 7) ∧
  thenW (ww58.setCell ((blk ww50.heap.size).add 7) (.int .u64 Sig47)) fun ww59 =>
  bif issue48 == 0 then (
  ∃ (xWriter60 : Int) (xIndex61 : Int) (xPrev62 : Int) (xAtT63 : Int) (xAtW64 : Int) (xEpoch65 : Int) (xBody66a : Option Addr) (xBody66n : Nat) (xBody66c : Nat) (xSig67 : Int), cellsAt ww59 (blk ww50.heap.size) [.int .i64 xWriter60, .int .i64 xIndex61, .int .u64 xPrev62, .int .i64 xAtT63, .int .i64 xAtW64, .int .i64 xEpoch65, .slice xBody66a xBody66n xBody66c, .int .u64 xSig67] 0 ∧
  thenW (ww59.alloc (.cells #[.int .i64 xWriter60, .int .i64 xIndex61, .int .u64 xPrev62, .int .i64 xAtT63, .int .i64 xAtW64, .int .i64 xEpoch65, .slice xBody66a xBody66n xBody66c, .int .u64 xSig67] 39)) fun ww68 =>
  ∃ (a69a : Option Addr) (a69n : Nat) (a69c : Nat) (ww70 : World), (Builtin.append_ #[49, 49] 49 #[.slice all28a all28n all28c, .slice (some (blk ww59.heap.size)) 1 1]).run Try.prog ww68 = .ok (.slice a69a a69n a69c) ww70 ∧
  ∃ m71, m71 < m31 ∧ I0 m71 [.slice a69a a69n a69c, .int .i64 (IntKind.i64.wrap (n29 + 1))] ww70) else (
  ∃ m72, m72 < m31 ∧ I0 m72 [.slice all28a all28n all28c, .int .i64 (IntKind.i64.wrap (n29 + 1))] ww59)) ∧
  (thenW (ww33.alloc (.cells #[.int .i64 0, .int .i64 0, .int .u64 0, .int .i64 0, .int .i64 0, .int .i64 0, .slice none 0 0, .int .u64 0] 39)) fun ww73 =>
  ww73.cell? ((a38.add (Int.toNat n29 * 14)).add 3) = some (.slice Body39a Body39n Body39c) ∧
  ww73.cell? ((a36.add (Int.toNat n29 * 14)).add 2) = some (.int .i64 Epoch37) ∧
  ww73.cell? ((a34.add (Int.toNat n29 * 14)).add 1) = some (.int .i64 T35) ∧
  Calls Try.prog 14 #[.pointer new16, .int .u64 pair12, .agg #[.int .i64 T35, .int .i64 1], .int .i64 Epoch37, .slice Body39a Body39n Body39c] ww73 fun ee83 ww84 => ∃ (Writer74 : Int) (Index75 : Int) (Prev76 : Int) (AtT77 : Int) (AtW78 : Int) (Epoch79 : Int) (Body80a : Option Addr) (Body80n : Nat) (Body80c : Nat) (Sig81 : Int) (issue82 : Int), ee83 = .returned (.tuple #[.agg #[.int .i64 Writer74, .int .i64 Index75, .int .u64 Prev76, .int .i64 AtT77, .int .i64 AtW78, .int .i64 Epoch79, .slice Body80a Body80n Body80c, .int .u64 Sig81], .int .i64 issue82]) ∧
  canStore ww84 ((blk ww33.heap.size).add 0) ∧
  thenW (ww84.setCell ((blk ww33.heap.size).add 0) (.int .i64 Writer74)) fun ww85 =>
  canStore ww85 ((blk ww33.heap.size).add 1) ∧
  thenW (ww85.setCell ((blk ww33.heap.size).add 1) (.int .i64 Index75)) fun ww86 =>
  canStore ww86 ((blk ww33.heap.size).add 2) ∧
  thenW (ww86.setCell ((blk ww33.heap.size).add 2) (.int .u64 Prev76)) fun ww87 =>
  canStore ww87 ((blk ww33.heap.size).add 3) ∧
  thenW (ww87.setCell ((blk ww33.heap.size).add 3) (.int .i64 AtT77)) fun ww88 =>
  canStore ww88 ((blk ww33.heap.size).add 4) ∧
  thenW (ww88.setCell ((blk ww33.heap.size).add 4) (.int .i64 AtW78)) fun ww89 =>
  canStore ww89 ((blk ww33.heap.size).add 5) ∧
  thenW (ww89.setCell ((blk ww33.heap.size).add 5) (.int .i64 Epoch79)) fun ww90 =>
  canStore ww90 ((blk ww33.heap.size).add 6) ∧
  thenW (ww90.setCell ((blk ww33.heap.size).add 6) (.slice Body80a Body80n Body80c)) fun ww91 =>
  canStore ww91 ((blk ww33.heap.size).add 7) ∧
  thenW (ww91.setCell ((blk ww33.heap.size).add 7) (.int .u64 Sig81)) fun ww92 =>
  bif issue82 == 0 then (
  ∃ (xWriter93 : Int) (xIndex94 : Int) (xPrev95 : Int) (xAtT96 : Int) (xAtW97 : Int) (xEpoch98 : Int) (xBody99a : Option Addr) (xBody99n : Nat) (xBody99c : Nat) (xSig100 : Int), cellsAt ww92 (blk ww33.heap.size) [.int .i64 xWriter93, .int .i64 xIndex94, .int .u64 xPrev95, .int .i64 xAtT96, .int .i64 xAtW97, .int .i64 xEpoch98, .slice xBody99a xBody99n xBody99c, .int .u64 xSig100] 0 ∧
  thenW (ww92.alloc (.cells #[.int .i64 xWriter93, .int .i64 xIndex94, .int .u64 xPrev95, .int .i64 xAtT96, .int .i64 xAtW97, .int .i64 xEpoch98, .slice xBody99a xBody99n xBody99c, .int .u64 xSig100] 39)) fun ww101 =>
  ∃ (a102a : Option Addr) (a102n : Nat) (a102c : Nat) (ww103 : World), (Builtin.append_ #[49, 49] 49 #[.slice all28a all28n all28c, .slice (some (blk ww92.heap.size)) 1 1]).run Try.prog ww101 = .ok (.slice a102a a102n a102c) ww103 ∧
  ∃ m104, m104 < m31 ∧ I0 m104 [.slice a102a a102n a102c, .int .i64 (IntKind.i64.wrap (n29 + 1))] ww103) else (
  ∃ m105, m105 < m31 ∧ I0 m105 [.slice all28a all28n all28c, .int .i64 (IntKind.i64.wrap (n29 + 1))] ww92))) else (
  Calls Try.prog 34 #[.pointer new16, .int .i64 atv2] ww32 fun ee115 ww116 => ∃ (Writer106 : Int) (Index107 : Int) (Prev108 : Int) (AtT109 : Int) (AtW110 : Int) (Epoch111 : Int) (Body112a : Option Addr) (Body112n : Nat) (Body112c : Nat) (Sig113 : Int) (atv114 : Int), ee115 = .returned (.tuple #[.agg #[.int .i64 Writer106, .int .i64 Index107, .int .u64 Prev108, .int .i64 AtT109, .int .i64 AtW110, .int .i64 Epoch111, .slice Body112a Body112n Body112c, .int .u64 Sig113], .int .i64 atv114]) ∧
  thenW (ww116.alloc (.cells #[.int .i64 0, .int .i64 0, .int .u64 0, .int .i64 0, .int .i64 0, .int .i64 0, .slice none 0 0, .int .u64 0] 39)) fun ww117 =>
  canStore ww117 ((blk ww116.heap.size).add 0) ∧
  thenW (ww117.setCell ((blk ww116.heap.size).add 0) (.int .i64 Writer106)) fun ww118 =>
  canStore ww118 ((blk ww116.heap.size).add 1) ∧
  thenW (ww118.setCell ((blk ww116.heap.size).add 1) (.int .i64 Index107)) fun ww119 =>
  canStore ww119 ((blk ww116.heap.size).add 2) ∧
  thenW (ww119.setCell ((blk ww116.heap.size).add 2) (.int .u64 Prev108)) fun ww120 =>
  canStore ww120 ((blk ww116.heap.size).add 3) ∧
  thenW (ww120.setCell ((blk ww116.heap.size).add 3) (.int .i64 AtT109)) fun ww121 =>
  canStore ww121 ((blk ww116.heap.size).add 4) ∧
  thenW (ww121.setCell ((blk ww116.heap.size).add 4) (.int .i64 AtW110)) fun ww122 =>
  canStore ww122 ((blk ww116.heap.size).add 5) ∧
  thenW (ww122.setCell ((blk ww116.heap.size).add 5) (.int .i64 Epoch111)) fun ww123 =>
  canStore ww123 ((blk ww116.heap.size).add 6) ∧
  thenW (ww123.setCell ((blk ww116.heap.size).add 6) (.slice Body112a Body112n Body112c)) fun ww124 =>
  canStore ww124 ((blk ww116.heap.size).add 7) ∧
  thenW (ww124.setCell ((blk ww116.heap.size).add 7) (.int .u64 Sig113)) fun ww125 =>
  bif decide (atv2 < 0) then (
  bif atv114 == 2 then (
  ∃ (xWriter126 : Int) (xIndex127 : Int) (xPrev128 : Int) (xAtT129 : Int) (xAtW130 : Int) (xEpoch131 : Int) (xBody132a : Option Addr) (xBody132n : Nat) (xBody132c : Nat) (xSig133 : Int), cellsAt ww125 (blk ww116.heap.size) [.int .i64 xWriter126, .int .i64 xIndex127, .int .u64 xPrev128, .int .i64 xAtT129, .int .i64 xAtW130, .int .i64 xEpoch131, .slice xBody132a xBody132n xBody132c, .int .u64 xSig133] 0 ∧
  Calls Try.prog 27 #[.agg #[.int .i64 xWriter126, .int .i64 xIndex127, .int .u64 xPrev128, .int .i64 xAtT129, .int .i64 xAtW130, .int .i64 xEpoch131, .slice xBody132a xBody132n xBody132c, .int .u64 xSig133], .agg #[.int .i64 0, .int .i64 0, .int .u64 0, .int .i64 0, .int .i64 0, .int .i64 0, .slice none 0 0, .int .u64 0]] ww125 fun ee135 ww136 => ∃ (same134 : Bool), ee135 = .returned (.bool same134) ∧
  bif same134 then (
  Calls Try.prog 10 #[] ww136 fun ee138 ww139 => ∃ (alive137 : Bool), ee138 = .returned (.bool alive137) ∧
  R (.bool alive137) ww139) else (
  R (.bool false) ww136)) else (
  R (.bool false) ww125)) else (
  bif decide (atv2 ≥ (all28n : Int)) then (
  bif atv114 == 2 then (
  ∃ (xWriter140 : Int) (xIndex141 : Int) (xPrev142 : Int) (xAtT143 : Int) (xAtW144 : Int) (xEpoch145 : Int) (xBody146a : Option Addr) (xBody146n : Nat) (xBody146c : Nat) (xSig147 : Int), cellsAt ww125 (blk ww116.heap.size) [.int .i64 xWriter140, .int .i64 xIndex141, .int .u64 xPrev142, .int .i64 xAtT143, .int .i64 xAtW144, .int .i64 xEpoch145, .slice xBody146a xBody146n xBody146c, .int .u64 xSig147] 0 ∧
  Calls Try.prog 27 #[.agg #[.int .i64 xWriter140, .int .i64 xIndex141, .int .u64 xPrev142, .int .i64 xAtT143, .int .i64 xAtW144, .int .i64 xEpoch145, .slice xBody146a xBody146n xBody146c, .int .u64 xSig147], .agg #[.int .i64 0, .int .i64 0, .int .u64 0, .int .i64 0, .int .i64 0, .int .i64 0, .slice none 0 0, .int .u64 0]] ww125 fun ee149 ww150 => ∃ (same148 : Bool), ee149 = .returned (.bool same148) ∧
  bif same148 then (
  Calls Try.prog 10 #[] ww150 fun ee152 ww153 => ∃ (alive151 : Bool), ee152 = .returned (.bool alive151) ∧
  R (.bool alive151) ww153) else (
  R (.bool false) ww150)) else (
  R (.bool false) ww125)) else (
  Calls Try.prog 34 #[.pointer none, .int .i64 0] ww125 fun ee163 ww164 => ∃ (Writer154 : Int) (Index155 : Int) (Prev156 : Int) (AtT157 : Int) (AtW158 : Int) (Epoch159 : Int) (Body160a : Option Addr) (Body160n : Nat) (Body160c : Nat) (Sig161 : Int) (atv162 : Int), ee163 = .returned (.tuple #[.agg #[.int .i64 Writer154, .int .i64 Index155, .int .u64 Prev156, .int .i64 AtT157, .int .i64 AtW158, .int .i64 Epoch159, .slice Body160a Body160n Body160c, .int .u64 Sig161], .int .i64 atv162]) ∧
  thenW (ww164.alloc (.cells #[.int .i64 0, .int .i64 0, .int .u64 0, .int .i64 0, .int .i64 0, .int .i64 0, .slice none 0 0, .int .u64 0] 39)) fun ww165 =>
  canStore ww165 ((blk ww164.heap.size).add 0) ∧
  thenW (ww165.setCell ((blk ww164.heap.size).add 0) (.int .i64 Writer154)) fun ww166 =>
  canStore ww166 ((blk ww164.heap.size).add 1) ∧
  thenW (ww166.setCell ((blk ww164.heap.size).add 1) (.int .i64 Index155)) fun ww167 =>
  canStore ww167 ((blk ww164.heap.size).add 2) ∧
  thenW (ww167.setCell ((blk ww164.heap.size).add 2) (.int .u64 Prev156)) fun ww168 =>
  canStore ww168 ((blk ww164.heap.size).add 3) ∧
  thenW (ww168.setCell ((blk ww164.heap.size).add 3) (.int .i64 AtT157)) fun ww169 =>
  canStore ww169 ((blk ww164.heap.size).add 4) ∧
  thenW (ww169.setCell ((blk ww164.heap.size).add 4) (.int .i64 AtW158)) fun ww170 =>
  canStore ww170 ((blk ww164.heap.size).add 5) ∧
  thenW (ww170.setCell ((blk ww164.heap.size).add 5) (.int .i64 Epoch159)) fun ww171 =>
  canStore ww171 ((blk ww164.heap.size).add 6) ∧
  thenW (ww171.setCell ((blk ww164.heap.size).add 6) (.slice Body160a Body160n Body160c)) fun ww172 =>
  canStore ww172 ((blk ww164.heap.size).add 7) ∧
  thenW (ww172.setCell ((blk ww164.heap.size).add 7) (.int .u64 Sig161)) fun ww173 =>
  Calls Try.prog 14 #[.pointer none, .int .u64 pair12, .agg #[.int .i64 1, .int .i64 0], .int .i64 0, .slice none 0 0] ww173 fun ee183 ww184 => ∃ (Writer174 : Int) (Index175 : Int) (Prev176 : Int) (AtT177 : Int) (AtW178 : Int) (Epoch179 : Int) (Body180a : Option Addr) (Body180n : Nat) (Body180c : Nat) (Sig181 : Int) (issue182 : Int), ee183 = .returned (.tuple #[.agg #[.int .i64 Writer174, .int .i64 Index175, .int .u64 Prev176, .int .i64 AtT177, .int .i64 AtW178, .int .i64 Epoch179, .slice Body180a Body180n Body180c, .int .u64 Sig181], .int .i64 issue182]) ∧
  thenW (ww184.alloc (.cells #[.int .i64 0, .int .i64 0, .int .u64 0, .int .i64 0, .int .i64 0, .int .i64 0, .slice none 0 0, .int .u64 0] 39)) fun ww185 =>
  canStore ww185 ((blk ww184.heap.size).add 0) ∧
  thenW (ww185.setCell ((blk ww184.heap.size).add 0) (.int .i64 Writer174)) fun ww186 =>
  canStore ww186 ((blk ww184.heap.size).add 1) ∧
  thenW (ww186.setCell ((blk ww184.heap.size).add 1) (.int .i64 Index175)) fun ww187 =>
  canStore ww187 ((blk ww184.heap.size).add 2) ∧
  thenW (ww187.setCell ((blk ww184.heap.size).add 2) (.int .u64 Prev176)) fun ww188 =>
  canStore ww188 ((blk ww184.heap.size).add 3) ∧
  thenW (ww188.setCell ((blk ww184.heap.size).add 3) (.int .i64 AtT177)) fun ww189 =>
  canStore ww189 ((blk ww184.heap.size).add 4) ∧
  thenW (ww189.setCell ((blk ww184.heap.size).add 4) (.int .i64 AtW178)) fun ww190 =>
  canStore ww190 ((blk ww184.heap.size).add 5) ∧
  thenW (ww190.setCell ((blk ww184.heap.size).add 5) (.int .i64 Epoch179)) fun ww191 =>
  canStore ww191 ((blk ww184.heap.size).add 6) ∧
  thenW (ww191.setCell ((blk ww184.heap.size).add 6) (.slice Body180a Body180n Body180c)) fun ww192 =>
  canStore ww192 ((blk ww184.heap.size).add 7) ∧
  thenW (ww192.setCell ((blk ww184.heap.size).add 7) (.int .u64 Sig181)) fun ww193 =>
  ∃ (xWriter194 : Int) (xIndex195 : Int) (xPrev196 : Int) (xAtT197 : Int) (xAtW198 : Int) (xEpoch199 : Int) (xBody200a : Option Addr) (xBody200n : Nat) (xBody200c : Nat) (xSig201 : Int), cellsAt ww193 (blk ww116.heap.size) [.int .i64 xWriter194, .int .i64 xIndex195, .int .u64 xPrev196, .int .i64 xAtT197, .int .i64 xAtW198, .int .i64 xEpoch199, .slice xBody200a xBody200n xBody200c, .int .u64 xSig201] 0 ∧
  Calls Try.prog 24 #[.pointer none, .agg #[.int .i64 xWriter194, .int .i64 xIndex195, .int .u64 xPrev196, .int .i64 xAtT197, .int .i64 xAtW198, .int .i64 xEpoch199, .slice xBody200a xBody200n xBody200c, .int .u64 xSig201]] ww193 fun ee219 ww220 => ∃ (Writer202 : Int) (Index203 : Int) (Prev204 : Int) (AtT205 : Int) (AtW206 : Int) (Epoch207 : Int) (Body208a : Option Addr) (Body208n : Nat) (Body208c : Nat) (Sig209 : Int) (Writer210 : Int) (Index211 : Int) (Prev212 : Int) (AtT213 : Int) (AtW214 : Int) (Epoch215 : Int) (Body216a : Option Addr) (Body216n : Nat) (Body216c : Nat) (Sig217 : Int) (odds218 : Bool), ee219 = .returned (.tuple #[.agg #[.int .i64 Writer202, .int .i64 Index203, .int .u64 Prev204, .int .i64 AtT205, .int .i64 AtW206, .int .i64 Epoch207, .slice Body208a Body208n Body208c, .int .u64 Sig209], .agg #[.int .i64 Writer210, .int .i64 Index211, .int .u64 Prev212, .int .i64 AtT213, .int .i64 AtW214, .int .i64 Epoch215, .slice Body216a Body216n Body216c, .int .u64 Sig217], .bool odds218]) ∧
  thenW (ww220.alloc (.cells #[.int .i64 0, .int .i64 0, .int .u64 0, .int .i64 0, .int .i64 0, .int .i64 0, .slice none 0 0, .int .u64 0] 39)) fun ww221 =>
  thenW (ww221.alloc (.cells #[.int .i64 0, .int .i64 0, .int .u64 0, .int .i64 0, .int .i64 0, .int .i64 0, .slice none 0 0, .int .u64 0] 39)) fun ww222 =>
  canStore ww222 ((blk ww220.heap.size).add 0) ∧
  thenW (ww222.setCell ((blk ww220.heap.size).add 0) (.int .i64 Writer202)) fun ww223 =>
  canStore ww223 ((blk ww220.heap.size).add 1) ∧
  thenW (ww223.setCell ((blk ww220.heap.size).add 1) (.int .i64 Index203)) fun ww224 =>
  canStore ww224 ((blk ww220.heap.size).add 2) ∧
  thenW (ww224.setCell ((blk ww220.heap.size).add 2) (.int .u64 Prev204)) fun ww225 =>
  canStore ww225 ((blk ww220.heap.size).add 3) ∧
  thenW (ww225.setCell ((blk ww220.heap.size).add 3) (.int .i64 AtT205)) fun ww226 =>
  canStore ww226 ((blk ww220.heap.size).add 4) ∧
  thenW (ww226.setCell ((blk ww220.heap.size).add 4) (.int .i64 AtW206)) fun ww227 =>
  canStore ww227 ((blk ww220.heap.size).add 5) ∧
  thenW (ww227.setCell ((blk ww220.heap.size).add 5) (.int .i64 Epoch207)) fun ww228 =>
  canStore ww228 ((blk ww220.heap.size).add 6) ∧
  thenW (ww228.setCell ((blk ww220.heap.size).add 6) (.slice Body208a Body208n Body208c)) fun ww229 =>
  canStore ww229 ((blk ww220.heap.size).add 7) ∧
  thenW (ww229.setCell ((blk ww220.heap.size).add 7) (.int .u64 Sig209)) fun ww230 =>
  canStore ww230 ((blk ww221.heap.size).add 0) ∧
  thenW (ww230.setCell ((blk ww221.heap.size).add 0) (.int .i64 Writer210)) fun ww231 =>
  canStore ww231 ((blk ww221.heap.size).add 1) ∧
  thenW (ww231.setCell ((blk ww221.heap.size).add 1) (.int .i64 Index211)) fun ww232 =>
  canStore ww232 ((blk ww221.heap.size).add 2) ∧
  thenW (ww232.setCell ((blk ww221.heap.size).add 2) (.int .u64 Prev212)) fun ww233 =>
  canStore ww233 ((blk ww221.heap.size).add 3) ∧
  thenW (ww233.setCell ((blk ww221.heap.size).add 3) (.int .i64 AtT213)) fun ww234 =>
  canStore ww234 ((blk ww221.heap.size).add 4) ∧
  thenW (ww234.setCell ((blk ww221.heap.size).add 4) (.int .i64 AtW214)) fun ww235 =>
  canStore ww235 ((blk ww221.heap.size).add 5) ∧
  thenW (ww235.setCell ((blk ww221.heap.size).add 5) (.int .i64 Epoch215)) fun ww236 =>
  canStore ww236 ((blk ww221.heap.size).add 6) ∧
  thenW (ww236.setCell ((blk ww221.heap.size).add 6) (.slice Body216a Body216n Body216c)) fun ww237 =>
  canStore ww237 ((blk ww221.heap.size).add 7) ∧
  thenW (ww237.setCell ((blk ww221.heap.size).add 7) (.int .u64 Sig217)) fun ww238 =>
  thenW (ww238.drew) fun ww239 =>
  bif atv114 == 0 then (
  ∃ (xWriter240 : Int) (xIndex241 : Int) (xPrev242 : Int) (xAtT243 : Int) (xAtW244 : Int) (xEpoch245 : Int) (xBody246a : Option Addr) (xBody246n : Nat) (xBody246c : Nat) (xSig247 : Int), cellsAt ww239 (blk ww116.heap.size) [.int .i64 xWriter240, .int .i64 xIndex241, .int .u64 xPrev242, .int .i64 xAtT243, .int .i64 xAtW244, .int .i64 xEpoch245, .slice xBody246a xBody246n xBody246c, .int .u64 xSig247] 0 ∧
  all28a.elim False fun a248 =>
  0 ≤ (atv2 : Int) ∧ (atv2 : Int) < (all28n : Int) ∧
  ∃ (xWriter249 : Int) (xIndex250 : Int) (xPrev251 : Int) (xAtT252 : Int) (xAtW253 : Int) (xEpoch254 : Int) (xBody255a : Option Addr) (xBody255n : Nat) (xBody255c : Nat) (xSig256 : Int), cellsAt ww239 (a248.add (Int.toNat atv2 * 8)) [.int .i64 xWriter249, .int .i64 xIndex250, .int .u64 xPrev251, .int .i64 xAtT252, .int .i64 xAtW253, .int .i64 xEpoch254, .slice xBody255a xBody255n xBody255c, .int .u64 xSig256] 0 ∧
  Calls Try.prog 27 #[.agg #[.int .i64 xWriter240, .int .i64 xIndex241, .int .u64 xPrev242, .int .i64 xAtT243, .int .i64 xAtW244, .int .i64 xEpoch245, .slice xBody246a xBody246n xBody246c, .int .u64 xSig247], .agg #[.int .i64 xWriter249, .int .i64 xIndex250, .int .u64 xPrev251, .int .i64 xAtT252, .int .i64 xAtW253, .int .i64 xEpoch254, .slice xBody255a xBody255n xBody255c, .int .u64 xSig256]] ww239 fun ee258 ww259 => ∃ (same257 : Bool), ee258 = .returned (.bool same257) ∧
  bif same257 then (
  Calls Try.prog 35 #[.pointer none] ww259 fun ee261 ww262 => ∃ (writer260 : Int), ee261 = .returned (.int .i64 writer260) ∧
  bif writer260 == (-1) then (
  Calls Try.prog 28 #[.pointer none] ww262 fun ee264 ww265 => ∃ (len263 : Int), ee264 = .returned (.int .i64 len263) ∧
  bif len263 == 0 then (
  Calls Try.prog 16 #[.pointer none] ww265 fun ee269 ww270 => ∃ (Writer266 : Int) (Len267 : Int) (Sum268 : Int), ee269 = .returned (.agg #[.int .i64 Writer266, .int .i64 Len267, .int .u64 Sum268]) ∧
  ∃ (b271 : Bool), (binOp .eql 46 (.agg #[.int .i64 Writer266, .int .i64 Len267, .int .u64 Sum268]) (.agg #[.int .i64 0, .int .i64 0, .int .u64 0])).run Try.prog ww270 = .ok (.bool b271) ww270 ∧
  bif b271 then (
  bif atv162 == 23 then (
  bif issue182 == 23 then (
  ∃ (xWriter272 : Int) (xIndex273 : Int) (xPrev274 : Int) (xAtT275 : Int) (xAtW276 : Int) (xEpoch277 : Int) (xBody278a : Option Addr) (xBody278n : Nat) (xBody278c : Nat) (xSig279 : Int), cellsAt ww270 (blk ww116.heap.size) [.int .i64 xWriter272, .int .i64 xIndex273, .int .u64 xPrev274, .int .i64 xAtT275, .int .i64 xAtW276, .int .i64 xEpoch277, .slice xBody278a xBody278n xBody278c, .int .u64 xSig279] 0 ∧
  Calls Try.prog 26 #[.pointer none, .agg #[.int .i64 xWriter272, .int .i64 xIndex273, .int .u64 xPrev274, .int .i64 xAtT275, .int .i64 xAtW276, .int .i64 xEpoch277, .slice xBody278a xBody278n xBody278c, .int .u64 xSig279]] ww270 fun ee281 ww282 => ∃ (check280 : Int), ee281 = .returned (.int .i64 check280) ∧
  bif check280 == 23 then (
  ∃ (xWriter283 : Int) (xIndex284 : Int) (xPrev285 : Int) (xAtT286 : Int) (xAtW287 : Int) (xEpoch288 : Int) (xBody289a : Option Addr) (xBody289n : Nat) (xBody289c : Nat) (xSig290 : Int), cellsAt ww282 (blk ww116.heap.size) [.int .i64 xWriter283, .int .i64 xIndex284, .int .u64 xPrev285, .int .i64 xAtT286, .int .i64 xAtW287, .int .i64 xEpoch288, .slice xBody289a xBody289n xBody289c, .int .u64 xSig290] 0 ∧
  Calls Try.prog 15 #[.pointer none, .agg #[.int .i64 xWriter283, .int .i64 xIndex284, .int .u64 xPrev285, .int .i64 xAtT286, .int .i64 xAtW287, .int .i64 xEpoch288, .slice xBody289a xBody289n xBody289c, .int .u64 xSig290]] ww282 fun ee292 ww293 => ∃ (accept291 : Int), ee292 = .returned (.int .i64 accept291) ∧
  bif accept291 == 23 then (
  bif !odds218 then (
  Calls Try.prog 10 #[] ww293 fun ee295 ww296 => ∃ (alive294 : Bool), ee295 = .returned (.bool alive294) ∧
  R (.bool alive294) ww296) else (
  R (.bool false) ww293)) else (
  R (.bool false) ww293)) else (
  R (.bool false) ww282)) else (
  R (.bool false) ww270)) else (
  R (.bool false) ww270)) else (
  R (.bool false) ww270)) else (
  R (.bool false) ww265)) else (
  R (.bool false) ww262)) else (
  R (.bool false) ww259)) else (
  R (.bool false) ww239))))))) else (
  bif !((new21 == 0) == false) then (
  R (.bool false) ww27) else (
  bif new25 != 23 then (
  R (.bool false) ww27) else (
  ∃ (I0 : Nat → List Value → World → Prop) (m299 : Nat), I0 m299 [.slice none 0 0, .int .i64 0] ww27 ∧ ∀ (m300 : Nat) (ww301 : World) (all297a : Option Addr) (all297n : Nat) (all297c : Nat) (n298 : Int), I0 m300 [.slice all297a all297n all297c, .int .i64 n298] ww301 →
  bif decide (n298 < (l1n : Int)) then (
  thenW (ww301.drew) fun ww302 =>
  l1a.elim False fun a303 =>
  0 ≤ (n298 : Int) ∧ (n298 : Int) < (l1n : Int) ∧
  ∃ (T304 : Int), ww302.cell? ((a303.add (Int.toNat n298 * 14)).add 1) = some (.int .i64 T304) ∧
  l1a.elim False fun a305 =>
  0 ≤ (n298 : Int) ∧ (n298 : Int) < (l1n : Int) ∧
  ∃ (Epoch306 : Int), ww302.cell? ((a305.add (Int.toNat n298 * 14)).add 2) = some (.int .i64 Epoch306) ∧
  l1a.elim False fun a307 =>
  0 ≤ (n298 : Int) ∧ (n298 : Int) < (l1n : Int) ∧
  ∃ (Body308a : Option Addr) (Body308n : Nat) (Body308c : Nat), ww302.cell? ((a307.add (Int.toNat n298 * 14)).add 3) = some (.slice Body308a Body308n Body308c) ∧
  (Calls Try.prog 14 #[.pointer new16, .int .u64 pair12, .agg #[.int .i64 T304, .int .i64 1], .int .i64 Epoch306, .slice Body308a Body308n Body308c] ww302 fun ee318 ww319 => ∃ (Writer309 : Int) (Index310 : Int) (Prev311 : Int) (AtT312 : Int) (AtW313 : Int) (Epoch314 : Int) (Body315a : Option Addr) (Body315n : Nat) (Body315c : Nat) (Sig316 : Int) (issue317 : Int), ee318 = .returned (.tuple #[.agg #[.int .i64 Writer309, .int .i64 Index310, .int .u64 Prev311, .int .i64 AtT312, .int .i64 AtW313, .int .i64 Epoch314, .slice Body315a Body315n Body315c, .int .u64 Sig316], .int .i64 issue317]) ∧
  thenW (ww319.alloc (.cells #[.int .i64 0, .int .i64 0, .int .u64 0, .int .i64 0, .int .i64 0, .int .i64 0, .slice none 0 0, .int .u64 0] 39)) fun ww320 =>
  canStore ww320 ((blk ww319.heap.size).add 0) ∧
  thenW (ww320.setCell ((blk ww319.heap.size).add 0) (.int .i64 Writer309)) fun ww321 =>
  canStore ww321 ((blk ww319.heap.size).add 1) ∧
  thenW (ww321.setCell ((blk ww319.heap.size).add 1) (.int .i64 Index310)) fun ww322 =>
  canStore ww322 ((blk ww319.heap.size).add 2) ∧
  thenW (ww322.setCell ((blk ww319.heap.size).add 2) (.int .u64 Prev311)) fun ww323 =>
  canStore ww323 ((blk ww319.heap.size).add 3) ∧
  thenW (ww323.setCell ((blk ww319.heap.size).add 3) (.int .i64 AtT312)) fun ww324 =>
  canStore ww324 ((blk ww319.heap.size).add 4) ∧
  thenW (ww324.setCell ((blk ww319.heap.size).add 4) (.int .i64 AtW313)) fun ww325 =>
  canStore ww325 ((blk ww319.heap.size).add 5) ∧
  thenW (ww325.setCell ((blk ww319.heap.size).add 5) (.int .i64 Epoch314)) fun ww326 =>
  canStore ww326 ((blk ww319.heap.size).add 6) ∧
  thenW (ww326.setCell ((blk ww319.heap.size).add 6) (.slice Body315a Body315n Body315c)) fun ww327 =>
  canStore ww327 ((blk ww319.heap.size).add 7) ∧
  thenW (ww327.setCell ((blk ww319.heap.size).add 7) (.int .u64 Sig316)) fun ww328 =>
  bif issue317 == 0 then (
  ∃ (xWriter329 : Int) (xIndex330 : Int) (xPrev331 : Int) (xAtT332 : Int) (xAtW333 : Int) (xEpoch334 : Int) (xBody335a : Option Addr) (xBody335n : Nat) (xBody335c : Nat) (xSig336 : Int), cellsAt ww328 (blk ww319.heap.size) [.int .i64 xWriter329, .int .i64 xIndex330, .int .u64 xPrev331, .int .i64 xAtT332, .int .i64 xAtW333, .int .i64 xEpoch334, .slice xBody335a xBody335n xBody335c, .int .u64 xSig336] 0 ∧
  thenW (ww328.alloc (.cells #[.int .i64 xWriter329, .int .i64 xIndex330, .int .u64 xPrev331, .int .i64 xAtT332, .int .i64 xAtW333, .int .i64 xEpoch334, .slice xBody335a xBody335n xBody335c, .int .u64 xSig336] 39)) fun ww337 =>
  ∃ (a338a : Option Addr) (a338n : Nat) (a338c : Nat) (ww339 : World), (Builtin.append_ #[49, 49] 49 #[.slice all297a all297n all297c, .slice (some (blk ww328.heap.size)) 1 1]).run Try.prog ww337 = .ok (.slice a338a a338n a338c) ww339 ∧
  ∃ m340, m340 < m300 ∧ I0 m340 [.slice a338a a338n a338c, .int .i64 (IntKind.i64.wrap (n298 + 1))] ww339) else (
  ∃ m341, m341 < m300 ∧ I0 m341 [.slice all297a all297n all297c, .int .i64 (IntKind.i64.wrap (n298 + 1))] ww328)) ∧
  (thenW (ww302.alloc (.cells #[.int .i64 0, .int .i64 0, .int .u64 0, .int .i64 0, .int .i64 0, .int .i64 0, .slice none 0 0, .int .u64 0] 39)) fun ww342 =>
  ww342.cell? ((a307.add (Int.toNat n298 * 14)).add 3) = some (.slice Body308a Body308n Body308c) ∧
  ww342.cell? ((a305.add (Int.toNat n298 * 14)).add 2) = some (.int .i64 Epoch306) ∧
  ww342.cell? ((a303.add (Int.toNat n298 * 14)).add 1) = some (.int .i64 T304) ∧
  Calls Try.prog 14 #[.pointer new16, .int .u64 pair12, .agg #[.int .i64 T304, .int .i64 1], .int .i64 Epoch306, .slice Body308a Body308n Body308c] ww342 fun ee352 ww353 => ∃ (Writer343 : Int) (Index344 : Int) (Prev345 : Int) (AtT346 : Int) (AtW347 : Int) (Epoch348 : Int) (Body349a : Option Addr) (Body349n : Nat) (Body349c : Nat) (Sig350 : Int) (issue351 : Int), ee352 = .returned (.tuple #[.agg #[.int .i64 Writer343, .int .i64 Index344, .int .u64 Prev345, .int .i64 AtT346, .int .i64 AtW347, .int .i64 Epoch348, .slice Body349a Body349n Body349c, .int .u64 Sig350], .int .i64 issue351]) ∧
  canStore ww353 ((blk ww302.heap.size).add 0) ∧
  thenW (ww353.setCell ((blk ww302.heap.size).add 0) (.int .i64 Writer343)) fun ww354 =>
  canStore ww354 ((blk ww302.heap.size).add 1) ∧
  thenW (ww354.setCell ((blk ww302.heap.size).add 1) (.int .i64 Index344)) fun ww355 =>
  canStore ww355 ((blk ww302.heap.size).add 2) ∧
  thenW (ww355.setCell ((blk ww302.heap.size).add 2) (.int .u64 Prev345)) fun ww356 =>
  canStore ww356 ((blk ww302.heap.size).add 3) ∧
  thenW (ww356.setCell ((blk ww302.heap.size).add 3) (.int .i64 AtT346)) fun ww357 =>
  canStore ww357 ((blk ww302.heap.size).add 4) ∧
  thenW (ww357.setCell ((blk ww302.heap.size).add 4) (.int .i64 AtW347)) fun ww358 =>
  canStore ww358 ((blk ww302.heap.size).add 5) ∧
  thenW (ww358.setCell ((blk ww302.heap.size).add 5) (.int .i64 Epoch348)) fun ww359 =>
  canStore ww359 ((blk ww302.heap.size).add 6) ∧
  thenW (ww359.setCell ((blk ww302.heap.size).add 6) (.slice Body349a Body349n Body349c)) fun ww360 =>
  canStore ww360 ((blk ww302.heap.size).add 7) ∧
  thenW (ww360.setCell ((blk ww302.heap.size).add 7) (.int .u64 Sig350)) fun ww361 =>
  bif issue351 == 0 then (
  ∃ (xWriter362 : Int) (xIndex363 : Int) (xPrev364 : Int) (xAtT365 : Int) (xAtW366 : Int) (xEpoch367 : Int) (xBody368a : Option Addr) (xBody368n : Nat) (xBody368c : Nat) (xSig369 : Int), cellsAt ww361 (blk ww302.heap.size) [.int .i64 xWriter362, .int .i64 xIndex363, .int .u64 xPrev364, .int .i64 xAtT365, .int .i64 xAtW366, .int .i64 xEpoch367, .slice xBody368a xBody368n xBody368c, .int .u64 xSig369] 0 ∧
  thenW (ww361.alloc (.cells #[.int .i64 xWriter362, .int .i64 xIndex363, .int .u64 xPrev364, .int .i64 xAtT365, .int .i64 xAtW366, .int .i64 xEpoch367, .slice xBody368a xBody368n xBody368c, .int .u64 xSig369] 39)) fun ww370 =>
  ∃ (a371a : Option Addr) (a371n : Nat) (a371c : Nat) (ww372 : World), (Builtin.append_ #[49, 49] 49 #[.slice all297a all297n all297c, .slice (some (blk ww361.heap.size)) 1 1]).run Try.prog ww370 = .ok (.slice a371a a371n a371c) ww372 ∧
  ∃ m373, m373 < m300 ∧ I0 m373 [.slice a371a a371n a371c, .int .i64 (IntKind.i64.wrap (n298 + 1))] ww372) else (
  ∃ m374, m374 < m300 ∧ I0 m374 [.slice all297a all297n all297c, .int .i64 (IntKind.i64.wrap (n298 + 1))] ww361))) else (
  Calls Try.prog 34 #[.pointer new16, .int .i64 atv2] ww301 fun ee384 ww385 => ∃ (Writer375 : Int) (Index376 : Int) (Prev377 : Int) (AtT378 : Int) (AtW379 : Int) (Epoch380 : Int) (Body381a : Option Addr) (Body381n : Nat) (Body381c : Nat) (Sig382 : Int) (atv383 : Int), ee384 = .returned (.tuple #[.agg #[.int .i64 Writer375, .int .i64 Index376, .int .u64 Prev377, .int .i64 AtT378, .int .i64 AtW379, .int .i64 Epoch380, .slice Body381a Body381n Body381c, .int .u64 Sig382], .int .i64 atv383]) ∧
  thenW (ww385.alloc (.cells #[.int .i64 0, .int .i64 0, .int .u64 0, .int .i64 0, .int .i64 0, .int .i64 0, .slice none 0 0, .int .u64 0] 39)) fun ww386 =>
  canStore ww386 ((blk ww385.heap.size).add 0) ∧
  thenW (ww386.setCell ((blk ww385.heap.size).add 0) (.int .i64 Writer375)) fun ww387 =>
  canStore ww387 ((blk ww385.heap.size).add 1) ∧
  thenW (ww387.setCell ((blk ww385.heap.size).add 1) (.int .i64 Index376)) fun ww388 =>
  canStore ww388 ((blk ww385.heap.size).add 2) ∧
  thenW (ww388.setCell ((blk ww385.heap.size).add 2) (.int .u64 Prev377)) fun ww389 =>
  canStore ww389 ((blk ww385.heap.size).add 3) ∧
  thenW (ww389.setCell ((blk ww385.heap.size).add 3) (.int .i64 AtT378)) fun ww390 =>
  canStore ww390 ((blk ww385.heap.size).add 4) ∧
  thenW (ww390.setCell ((blk ww385.heap.size).add 4) (.int .i64 AtW379)) fun ww391 =>
  canStore ww391 ((blk ww385.heap.size).add 5) ∧
  thenW (ww391.setCell ((blk ww385.heap.size).add 5) (.int .i64 Epoch380)) fun ww392 =>
  canStore ww392 ((blk ww385.heap.size).add 6) ∧
  thenW (ww392.setCell ((blk ww385.heap.size).add 6) (.slice Body381a Body381n Body381c)) fun ww393 =>
  canStore ww393 ((blk ww385.heap.size).add 7) ∧
  thenW (ww393.setCell ((blk ww385.heap.size).add 7) (.int .u64 Sig382)) fun ww394 =>
  bif decide (atv2 < 0) then (
  bif atv383 == 2 then (
  ∃ (xWriter395 : Int) (xIndex396 : Int) (xPrev397 : Int) (xAtT398 : Int) (xAtW399 : Int) (xEpoch400 : Int) (xBody401a : Option Addr) (xBody401n : Nat) (xBody401c : Nat) (xSig402 : Int), cellsAt ww394 (blk ww385.heap.size) [.int .i64 xWriter395, .int .i64 xIndex396, .int .u64 xPrev397, .int .i64 xAtT398, .int .i64 xAtW399, .int .i64 xEpoch400, .slice xBody401a xBody401n xBody401c, .int .u64 xSig402] 0 ∧
  Calls Try.prog 27 #[.agg #[.int .i64 xWriter395, .int .i64 xIndex396, .int .u64 xPrev397, .int .i64 xAtT398, .int .i64 xAtW399, .int .i64 xEpoch400, .slice xBody401a xBody401n xBody401c, .int .u64 xSig402], .agg #[.int .i64 0, .int .i64 0, .int .u64 0, .int .i64 0, .int .i64 0, .int .i64 0, .slice none 0 0, .int .u64 0]] ww394 fun ee404 ww405 => ∃ (same403 : Bool), ee404 = .returned (.bool same403) ∧
  bif same403 then (
  Calls Try.prog 10 #[] ww405 fun ee407 ww408 => ∃ (alive406 : Bool), ee407 = .returned (.bool alive406) ∧
  R (.bool alive406) ww408) else (
  R (.bool false) ww405)) else (
  R (.bool false) ww394)) else (
  bif decide (atv2 ≥ (all297n : Int)) then (
  bif atv383 == 2 then (
  ∃ (xWriter409 : Int) (xIndex410 : Int) (xPrev411 : Int) (xAtT412 : Int) (xAtW413 : Int) (xEpoch414 : Int) (xBody415a : Option Addr) (xBody415n : Nat) (xBody415c : Nat) (xSig416 : Int), cellsAt ww394 (blk ww385.heap.size) [.int .i64 xWriter409, .int .i64 xIndex410, .int .u64 xPrev411, .int .i64 xAtT412, .int .i64 xAtW413, .int .i64 xEpoch414, .slice xBody415a xBody415n xBody415c, .int .u64 xSig416] 0 ∧
  Calls Try.prog 27 #[.agg #[.int .i64 xWriter409, .int .i64 xIndex410, .int .u64 xPrev411, .int .i64 xAtT412, .int .i64 xAtW413, .int .i64 xEpoch414, .slice xBody415a xBody415n xBody415c, .int .u64 xSig416], .agg #[.int .i64 0, .int .i64 0, .int .u64 0, .int .i64 0, .int .i64 0, .int .i64 0, .slice none 0 0, .int .u64 0]] ww394 fun ee418 ww419 => ∃ (same417 : Bool), ee418 = .returned (.bool same417) ∧
  bif same417 then (
  Calls Try.prog 10 #[] ww419 fun ee421 ww422 => ∃ (alive420 : Bool), ee421 = .returned (.bool alive420) ∧
  R (.bool alive420) ww422) else (
  R (.bool false) ww419)) else (
  R (.bool false) ww394)) else (
  Calls Try.prog 34 #[.pointer none, .int .i64 0] ww394 fun ee432 ww433 => ∃ (Writer423 : Int) (Index424 : Int) (Prev425 : Int) (AtT426 : Int) (AtW427 : Int) (Epoch428 : Int) (Body429a : Option Addr) (Body429n : Nat) (Body429c : Nat) (Sig430 : Int) (atv431 : Int), ee432 = .returned (.tuple #[.agg #[.int .i64 Writer423, .int .i64 Index424, .int .u64 Prev425, .int .i64 AtT426, .int .i64 AtW427, .int .i64 Epoch428, .slice Body429a Body429n Body429c, .int .u64 Sig430], .int .i64 atv431]) ∧
  thenW (ww433.alloc (.cells #[.int .i64 0, .int .i64 0, .int .u64 0, .int .i64 0, .int .i64 0, .int .i64 0, .slice none 0 0, .int .u64 0] 39)) fun ww434 =>
  canStore ww434 ((blk ww433.heap.size).add 0) ∧
  thenW (ww434.setCell ((blk ww433.heap.size).add 0) (.int .i64 Writer423)) fun ww435 =>
  canStore ww435 ((blk ww433.heap.size).add 1) ∧
  thenW (ww435.setCell ((blk ww433.heap.size).add 1) (.int .i64 Index424)) fun ww436 =>
  canStore ww436 ((blk ww433.heap.size).add 2) ∧
  thenW (ww436.setCell ((blk ww433.heap.size).add 2) (.int .u64 Prev425)) fun ww437 =>
  canStore ww437 ((blk ww433.heap.size).add 3) ∧
  thenW (ww437.setCell ((blk ww433.heap.size).add 3) (.int .i64 AtT426)) fun ww438 =>
  canStore ww438 ((blk ww433.heap.size).add 4) ∧
  thenW (ww438.setCell ((blk ww433.heap.size).add 4) (.int .i64 AtW427)) fun ww439 =>
  canStore ww439 ((blk ww433.heap.size).add 5) ∧
  thenW (ww439.setCell ((blk ww433.heap.size).add 5) (.int .i64 Epoch428)) fun ww440 =>
  canStore ww440 ((blk ww433.heap.size).add 6) ∧
  thenW (ww440.setCell ((blk ww433.heap.size).add 6) (.slice Body429a Body429n Body429c)) fun ww441 =>
  canStore ww441 ((blk ww433.heap.size).add 7) ∧
  thenW (ww441.setCell ((blk ww433.heap.size).add 7) (.int .u64 Sig430)) fun ww442 =>
  Calls Try.prog 14 #[.pointer none, .int .u64 pair12, .agg #[.int .i64 1, .int .i64 0], .int .i64 0, .slice none 0 0] ww442 fun ee452 ww453 => ∃ (Writer443 : Int) (Index444 : Int) (Prev445 : Int) (AtT446 : Int) (AtW447 : Int) (Epoch448 : Int) (Body449a : Option Addr) (Body449n : Nat) (Body449c : Nat) (Sig450 : Int) (issue451 : Int), ee452 = .returned (.tuple #[.agg #[.int .i64 Writer443, .int .i64 Index444, .int .u64 Prev445, .int .i64 AtT446, .int .i64 AtW447, .int .i64 Epoch448, .slice Body449a Body449n Body449c, .int .u64 Sig450], .int .i64 issue451]) ∧
  thenW (ww453.alloc (.cells #[.int .i64 0, .int .i64 0, .int .u64 0, .int .i64 0, .int .i64 0, .int .i64 0, .slice none 0 0, .int .u64 0] 39)) fun ww454 =>
  canStore ww454 ((blk ww453.heap.size).add 0) ∧
  thenW (ww454.setCell ((blk ww453.heap.size).add 0) (.int .i64 Writer443)) fun ww455 =>
  canStore ww455 ((blk ww453.heap.size).add 1) ∧
  thenW (ww455.setCell ((blk ww453.heap.size).add 1) (.int .i64 Index444)) fun ww456 =>
  canStore ww456 ((blk ww453.heap.size).add 2) ∧
  thenW (ww456.setCell ((blk ww453.heap.size).add 2) (.int .u64 Prev445)) fun ww457 =>
  canStore ww457 ((blk ww453.heap.size).add 3) ∧
  thenW (ww457.setCell ((blk ww453.heap.size).add 3) (.int .i64 AtT446)) fun ww458 =>
  canStore ww458 ((blk ww453.heap.size).add 4) ∧
  thenW (ww458.setCell ((blk ww453.heap.size).add 4) (.int .i64 AtW447)) fun ww459 =>
  canStore ww459 ((blk ww453.heap.size).add 5) ∧
  thenW (ww459.setCell ((blk ww453.heap.size).add 5) (.int .i64 Epoch448)) fun ww460 =>
  canStore ww460 ((blk ww453.heap.size).add 6) ∧
  thenW (ww460.setCell ((blk ww453.heap.size).add 6) (.slice Body449a Body449n Body449c)) fun ww461 =>
  canStore ww461 ((blk ww453.heap.size).add 7) ∧
  thenW (ww461.setCell ((blk ww453.heap.size).add 7) (.int .u64 Sig450)) fun ww462 =>
  ∃ (xWriter463 : Int) (xIndex464 : Int) (xPrev465 : Int) (xAtT466 : Int) (xAtW467 : Int) (xEpoch468 : Int) (xBody469a : Option Addr) (xBody469n : Nat) (xBody469c : Nat) (xSig470 : Int), cellsAt ww462 (blk ww385.heap.size) [.int .i64 xWriter463, .int .i64 xIndex464, .int .u64 xPrev465, .int .i64 xAtT466, .int .i64 xAtW467, .int .i64 xEpoch468, .slice xBody469a xBody469n xBody469c, .int .u64 xSig470] 0 ∧
  Calls Try.prog 24 #[.pointer none, .agg #[.int .i64 xWriter463, .int .i64 xIndex464, .int .u64 xPrev465, .int .i64 xAtT466, .int .i64 xAtW467, .int .i64 xEpoch468, .slice xBody469a xBody469n xBody469c, .int .u64 xSig470]] ww462 fun ee488 ww489 => ∃ (Writer471 : Int) (Index472 : Int) (Prev473 : Int) (AtT474 : Int) (AtW475 : Int) (Epoch476 : Int) (Body477a : Option Addr) (Body477n : Nat) (Body477c : Nat) (Sig478 : Int) (Writer479 : Int) (Index480 : Int) (Prev481 : Int) (AtT482 : Int) (AtW483 : Int) (Epoch484 : Int) (Body485a : Option Addr) (Body485n : Nat) (Body485c : Nat) (Sig486 : Int) (odds487 : Bool), ee488 = .returned (.tuple #[.agg #[.int .i64 Writer471, .int .i64 Index472, .int .u64 Prev473, .int .i64 AtT474, .int .i64 AtW475, .int .i64 Epoch476, .slice Body477a Body477n Body477c, .int .u64 Sig478], .agg #[.int .i64 Writer479, .int .i64 Index480, .int .u64 Prev481, .int .i64 AtT482, .int .i64 AtW483, .int .i64 Epoch484, .slice Body485a Body485n Body485c, .int .u64 Sig486], .bool odds487]) ∧
  thenW (ww489.alloc (.cells #[.int .i64 0, .int .i64 0, .int .u64 0, .int .i64 0, .int .i64 0, .int .i64 0, .slice none 0 0, .int .u64 0] 39)) fun ww490 =>
  thenW (ww490.alloc (.cells #[.int .i64 0, .int .i64 0, .int .u64 0, .int .i64 0, .int .i64 0, .int .i64 0, .slice none 0 0, .int .u64 0] 39)) fun ww491 =>
  canStore ww491 ((blk ww489.heap.size).add 0) ∧
  thenW (ww491.setCell ((blk ww489.heap.size).add 0) (.int .i64 Writer471)) fun ww492 =>
  canStore ww492 ((blk ww489.heap.size).add 1) ∧
  thenW (ww492.setCell ((blk ww489.heap.size).add 1) (.int .i64 Index472)) fun ww493 =>
  canStore ww493 ((blk ww489.heap.size).add 2) ∧
  thenW (ww493.setCell ((blk ww489.heap.size).add 2) (.int .u64 Prev473)) fun ww494 =>
  canStore ww494 ((blk ww489.heap.size).add 3) ∧
  thenW (ww494.setCell ((blk ww489.heap.size).add 3) (.int .i64 AtT474)) fun ww495 =>
  canStore ww495 ((blk ww489.heap.size).add 4) ∧
  thenW (ww495.setCell ((blk ww489.heap.size).add 4) (.int .i64 AtW475)) fun ww496 =>
  canStore ww496 ((blk ww489.heap.size).add 5) ∧
  thenW (ww496.setCell ((blk ww489.heap.size).add 5) (.int .i64 Epoch476)) fun ww497 =>
  canStore ww497 ((blk ww489.heap.size).add 6) ∧
  thenW (ww497.setCell ((blk ww489.heap.size).add 6) (.slice Body477a Body477n Body477c)) fun ww498 =>
  canStore ww498 ((blk ww489.heap.size).add 7) ∧
  thenW (ww498.setCell ((blk ww489.heap.size).add 7) (.int .u64 Sig478)) fun ww499 =>
  canStore ww499 ((blk ww490.heap.size).add 0) ∧
  thenW (ww499.setCell ((blk ww490.heap.size).add 0) (.int .i64 Writer479)) fun ww500 =>
  canStore ww500 ((blk ww490.heap.size).add 1) ∧
  thenW (ww500.setCell ((blk ww490.heap.size).add 1) (.int .i64 Index480)) fun ww501 =>
  canStore ww501 ((blk ww490.heap.size).add 2) ∧
  thenW (ww501.setCell ((blk ww490.heap.size).add 2) (.int .u64 Prev481)) fun ww502 =>
  canStore ww502 ((blk ww490.heap.size).add 3) ∧
  thenW (ww502.setCell ((blk ww490.heap.size).add 3) (.int .i64 AtT482)) fun ww503 =>
  canStore ww503 ((blk ww490.heap.size).add 4) ∧
  thenW (ww503.setCell ((blk ww490.heap.size).add 4) (.int .i64 AtW483)) fun ww504 =>
  canStore ww504 ((blk ww490.heap.size).add 5) ∧
  thenW (ww504.setCell ((blk ww490.heap.size).add 5) (.int .i64 Epoch484)) fun ww505 =>
  canStore ww505 ((blk ww490.heap.size).add 6) ∧
  thenW (ww505.setCell ((blk ww490.heap.size).add 6) (.slice Body485a Body485n Body485c)) fun ww506 =>
  canStore ww506 ((blk ww490.heap.size).add 7) ∧
  thenW (ww506.setCell ((blk ww490.heap.size).add 7) (.int .u64 Sig486)) fun ww507 =>
  thenW (ww507.drew) fun ww508 =>
  bif atv383 == 0 then (
  ∃ (xWriter509 : Int) (xIndex510 : Int) (xPrev511 : Int) (xAtT512 : Int) (xAtW513 : Int) (xEpoch514 : Int) (xBody515a : Option Addr) (xBody515n : Nat) (xBody515c : Nat) (xSig516 : Int), cellsAt ww508 (blk ww385.heap.size) [.int .i64 xWriter509, .int .i64 xIndex510, .int .u64 xPrev511, .int .i64 xAtT512, .int .i64 xAtW513, .int .i64 xEpoch514, .slice xBody515a xBody515n xBody515c, .int .u64 xSig516] 0 ∧
  all297a.elim False fun a517 =>
  0 ≤ (atv2 : Int) ∧ (atv2 : Int) < (all297n : Int) ∧
  ∃ (xWriter518 : Int) (xIndex519 : Int) (xPrev520 : Int) (xAtT521 : Int) (xAtW522 : Int) (xEpoch523 : Int) (xBody524a : Option Addr) (xBody524n : Nat) (xBody524c : Nat) (xSig525 : Int), cellsAt ww508 (a517.add (Int.toNat atv2 * 8)) [.int .i64 xWriter518, .int .i64 xIndex519, .int .u64 xPrev520, .int .i64 xAtT521, .int .i64 xAtW522, .int .i64 xEpoch523, .slice xBody524a xBody524n xBody524c, .int .u64 xSig525] 0 ∧
  Calls Try.prog 27 #[.agg #[.int .i64 xWriter509, .int .i64 xIndex510, .int .u64 xPrev511, .int .i64 xAtT512, .int .i64 xAtW513, .int .i64 xEpoch514, .slice xBody515a xBody515n xBody515c, .int .u64 xSig516], .agg #[.int .i64 xWriter518, .int .i64 xIndex519, .int .u64 xPrev520, .int .i64 xAtT521, .int .i64 xAtW522, .int .i64 xEpoch523, .slice xBody524a xBody524n xBody524c, .int .u64 xSig525]] ww508 fun ee527 ww528 => ∃ (same526 : Bool), ee527 = .returned (.bool same526) ∧
  bif same526 then (
  Calls Try.prog 35 #[.pointer none] ww528 fun ee530 ww531 => ∃ (writer529 : Int), ee530 = .returned (.int .i64 writer529) ∧
  bif writer529 == (-1) then (
  Calls Try.prog 28 #[.pointer none] ww531 fun ee533 ww534 => ∃ (len532 : Int), ee533 = .returned (.int .i64 len532) ∧
  bif len532 == 0 then (
  Calls Try.prog 16 #[.pointer none] ww534 fun ee538 ww539 => ∃ (Writer535 : Int) (Len536 : Int) (Sum537 : Int), ee538 = .returned (.agg #[.int .i64 Writer535, .int .i64 Len536, .int .u64 Sum537]) ∧
  ∃ (b540 : Bool), (binOp .eql 46 (.agg #[.int .i64 Writer535, .int .i64 Len536, .int .u64 Sum537]) (.agg #[.int .i64 0, .int .i64 0, .int .u64 0])).run Try.prog ww539 = .ok (.bool b540) ww539 ∧
  bif b540 then (
  bif atv431 == 23 then (
  bif issue451 == 23 then (
  ∃ (xWriter541 : Int) (xIndex542 : Int) (xPrev543 : Int) (xAtT544 : Int) (xAtW545 : Int) (xEpoch546 : Int) (xBody547a : Option Addr) (xBody547n : Nat) (xBody547c : Nat) (xSig548 : Int), cellsAt ww539 (blk ww385.heap.size) [.int .i64 xWriter541, .int .i64 xIndex542, .int .u64 xPrev543, .int .i64 xAtT544, .int .i64 xAtW545, .int .i64 xEpoch546, .slice xBody547a xBody547n xBody547c, .int .u64 xSig548] 0 ∧
  Calls Try.prog 26 #[.pointer none, .agg #[.int .i64 xWriter541, .int .i64 xIndex542, .int .u64 xPrev543, .int .i64 xAtT544, .int .i64 xAtW545, .int .i64 xEpoch546, .slice xBody547a xBody547n xBody547c, .int .u64 xSig548]] ww539 fun ee550 ww551 => ∃ (check549 : Int), ee550 = .returned (.int .i64 check549) ∧
  bif check549 == 23 then (
  ∃ (xWriter552 : Int) (xIndex553 : Int) (xPrev554 : Int) (xAtT555 : Int) (xAtW556 : Int) (xEpoch557 : Int) (xBody558a : Option Addr) (xBody558n : Nat) (xBody558c : Nat) (xSig559 : Int), cellsAt ww551 (blk ww385.heap.size) [.int .i64 xWriter552, .int .i64 xIndex553, .int .u64 xPrev554, .int .i64 xAtT555, .int .i64 xAtW556, .int .i64 xEpoch557, .slice xBody558a xBody558n xBody558c, .int .u64 xSig559] 0 ∧
  Calls Try.prog 15 #[.pointer none, .agg #[.int .i64 xWriter552, .int .i64 xIndex553, .int .u64 xPrev554, .int .i64 xAtT555, .int .i64 xAtW556, .int .i64 xEpoch557, .slice xBody558a xBody558n xBody558c, .int .u64 xSig559]] ww551 fun ee561 ww562 => ∃ (accept560 : Int), ee561 = .returned (.int .i64 accept560) ∧
  bif accept560 == 23 then (
  bif !odds487 then (
  Calls Try.prog 10 #[] ww562 fun ee564 ww565 => ∃ (alive563 : Bool), ee564 = .returned (.bool alive563) ∧
  R (.bool alive563) ww565) else (
  R (.bool false) ww562)) else (
  R (.bool false) ww562)) else (
  R (.bool false) ww551)) else (
  R (.bool false) ww539)) else (
  R (.bool false) ww539)) else (
  R (.bool false) ww539)) else (
  R (.bool false) ww534)) else (
  R (.bool false) ww531)) else (
  R (.bool false) ww528)) else (
  R (.bool false) ww508)))))))))

theorem cachettelaw07_ChainAts.eq (l1a : Option Addr) (l1n : Nat) (l1c : Nat) (atv2 : Int) (R : Value → World → Prop) (w : World) : mfunc Try.prog [(0, [0, 1, 6, 8], [(14, (.one .slice)), (15, (.one (.int .i64)))])] 8 [.slice l1a l1n l1c, .int .i64 atv2] R w = cachettelaw07_ChainAts.M l1a l1n l1c atv2 R w := by kernel_rfl
theorem cachettelaw07_ChainAts.ok (l1a : Option Addr) (l1n : Nat) (l1c : Nat) (atv2 : Int) {R : Value → World → Prop} {w : World} (h : cachettelaw07_ChainAts.M l1a l1n l1c atv2 R w) : Calls Try.prog 8 #[.slice l1a l1n l1c, .int .i64 atv2] w fun e w' => ∃ v, e = .returned v ∧ R v w' :=
  mfunc_ok follows (H := [(0, [0, 1, 6, 8], [(14, (.one .slice)), (15, (.one (.int .i64)))])]) (args := [.slice l1a l1n l1c, .int .i64 atv2]) (by rw [cachettelaw07_ChainAts.eq]; exact h)

def cachettelaw07_ChainAts.N (l1a : Option Addr) (l1n : Nat) (l1c : Nat) (atv2 : Int) (R : Value → World → Prop) (w : World) : Prop :=
  Calls Try.prog 9 #[.slice none 0 0, .slice l1a l1n l1c] w fun ee4 ww5 => ∃ (light3 : Bool), ee4 = .returned (.bool light3) ∧
  (light3 = false →
    Calls Try.prog 10 #[] ww5 fun ee8 ww9 => ∃ (alive7 : Bool), ee8 = .returned (.bool alive7) ∧
    R (.bool alive7) ww9) ∧
  (light3 = true →
    Calls Try.prog 11 #[.slice none 0 0] ww5 fun ee11 ww12 => ∃ (new10 : Option Addr), ee11 = .returned (.pointer new10) ∧
    Calls Try.prog 12 #[.pointer new10] ww12 fun ee15 ww16 => ∃ (pair13 : Int) (pair14 : Int), ee15 = .returned (.tuple #[.int .u64 pair13, .int .u64 pair14]) ∧
    Calls Try.prog 13 #[.pointer new10, .int .i64 1, .int .u64 pair14] ww16 fun ee19 ww20 => ∃ (new17 : Option Addr) (new18 : Int), ee19 = .returned (.tuple #[.pointer new17, .int .i64 new18]) ∧
    Calls Try.prog 13 #[.pointer new10, .int .i64 atv2, .int .u64 pair14] ww20 fun ee23 ww24 => ∃ (new21 : Option Addr) (new22 : Int), ee23 = .returned (.tuple #[.pointer new21, .int .i64 new22]) ∧
    Calls Try.prog 13 #[.pointer none, .int .i64 1, .int .u64 pair14] ww24 fun ee27 ww28 => ∃ (new25 : Option Addr) (new26 : Int), ee27 = .returned (.tuple #[.pointer new25, .int .i64 new26]) ∧
    (new18 ≠ 0 →
      R (.bool false) ww28) ∧
    (new18 = 0 →
      (atv2 ≥ 0 →
        ((new22 == 0) ≠ (decide (atv2 < 8)) →
          R (.bool false) ww28) ∧
        ((new22 == 0) = (decide (atv2 < 8)) →
          (new26 ≠ 23 →
            R (.bool false) ww28) ∧
          (new26 = 23 →
            ∃ (I0 : Nat → List Value → World → Prop) (m35 : Nat), I0 m35 [.slice none 0 0, .int .i64 0] ww28 ∧ ∀ (m36 : Nat) (ww37 : World) (all33a : Option Addr) (all33n : Nat) (all33c : Nat) (n34 : Int), I0 m36 [.slice all33a all33n all33c, .int .i64 n34] ww37 →
            (n34 < (l1n : Int) →
              ∃ a40 : Addr, l1a = some a40 ∧
              0 ≤ (n34 : Int) ∧ (n34 : Int) < (l1n : Int) ∧
              ∃ (T42 : Int), ww37.cell? ((a40.add (Int.toNat n34 * 14)).add 1) = some (.int .i64 T42) ∧
              0 ≤ (n34 : Int) ∧ (n34 : Int) < (l1n : Int) ∧
              ∃ (Epoch44 : Int), ww37.cell? ((a40.add (Int.toNat n34 * 14)).add 2) = some (.int .i64 Epoch44) ∧
              0 ≤ (n34 : Int) ∧ (n34 : Int) < (l1n : Int) ∧
              ∃ (Body46a : Option Addr) (Body46n : Nat) (Body46c : Nat), ww37.cell? ((a40.add (Int.toNat n34 * 14)).add 3) = some (.slice Body46a Body46n Body46c) ∧
              (∀ (ww39 : World), Ext no ww37 ww39 →
              Calls Try.prog 14 #[.pointer new17, .int .u64 pair13, .agg #[.int .i64 T42, .int .i64 1], .int .i64 Epoch44, .slice Body46a Body46n Body46c] ww39 fun ee56 ww57 => ∃ (Writer47 : Int) (Index48 : Int) (Prev49 : Int) (AtT50 : Int) (AtW51 : Int) (Epoch52 : Int) (Body53a : Option Addr) (Body53n : Nat) (Body53c : Nat) (Sig54 : Int) (issue55 : Int), ee56 = .returned (.tuple #[.agg #[.int .i64 Writer47, .int .i64 Index48, .int .u64 Prev49, .int .i64 AtT50, .int .i64 AtW51, .int .i64 Epoch52, .slice Body53a Body53n Body53c, .int .u64 Sig54], .int .i64 issue55]) ∧
              (issue55 = 0 →
                ∀ (ww68 : World) (q69 : Nat), Ext no ww57 ww68 → Blk ww68 q69 39 [.int .i64 Writer47, .int .i64 Index48, .int .u64 Prev49, .int .i64 AtT50, .int .i64 AtW51, .int .i64 Epoch52, .slice Body53a Body53n Body53c, .int .u64 Sig54] → ww57.heap.size ≤ q69 → q69 < ww68.heap.size →
                ∃ (a71a : Option Addr) (a71n : Nat) (a71c : Nat) (ww72 : World), (Builtin.append_ #[49, 49] 49 #[.slice all33a all33n all33c, .slice (some (blk q69)) 1 1]).run Try.prog ww68 = .ok (.slice a71a a71n a71c) ww72 ∧
                (-9223372036854775808 : Int) ≤ (n34 + 1) ∧ (n34 + 1) < 9223372036854775808 ∧
                ∃ m73, m73 < m36 ∧ I0 m73 [.slice a71a a71n a71c, .int .i64 (n34 + 1)] ww72) ∧
              (issue55 ≠ 0 →
                (-9223372036854775808 : Int) ≤ (n34 + 1) ∧ (n34 + 1) < 9223372036854775808 ∧
                ∀ (ww66 : World), Ext no ww57 ww66 →
                ∃ m75, m75 < m36 ∧ I0 m75 [.slice all33a all33n all33c, .int .i64 (n34 + 1)] ww66)) ∧
              (∀ (ww47 : World) (p48 : Nat), Ext no ww37 ww47 → Priv ww37 ww47 [p48] →
              Calls Try.prog 14 #[.pointer new17, .int .u64 pair13, .agg #[.int .i64 T42, .int .i64 1], .int .i64 Epoch44, .slice Body46a Body46n Body46c] ww47 fun ee58 ww59 => ∃ (Writer49 : Int) (Index50 : Int) (Prev51 : Int) (AtT52 : Int) (AtW53 : Int) (Epoch54 : Int) (Body55a : Option Addr) (Body55n : Nat) (Body55c : Nat) (Sig56 : Int) (issue57 : Int), ee58 = .returned (.tuple #[.agg #[.int .i64 Writer49, .int .i64 Index50, .int .u64 Prev51, .int .i64 AtT52, .int .i64 AtW53, .int .i64 Epoch54, .slice Body55a Body55n Body55c, .int .u64 Sig56], .int .i64 issue57]) ∧
              Keep [p48] ww47 ww59 ∧
              (issue57 = 0 →
                ∀ (ww67 : World), Ext (fun b => b = p48) ww59 ww67 →
                ∀ (ww69 : World) (q70 : Nat), Ext no ww67 ww69 → Blk ww69 q70 39 [.int .i64 Writer49, .int .i64 Index50, .int .u64 Prev51, .int .i64 AtT52, .int .i64 AtW53, .int .i64 Epoch54, .slice Body55a Body55n Body55c, .int .u64 Sig56] → ww67.heap.size ≤ q70 → q70 < ww69.heap.size →
                ∃ (a71a : Option Addr) (a71n : Nat) (a71c : Nat) (ww72 : World), (Builtin.append_ #[49, 49] 49 #[.slice all33a all33n all33c, .slice (some (blk q70)) 1 1]).run Try.prog ww69 = .ok (.slice a71a a71n a71c) ww72 ∧
                (-9223372036854775808 : Int) ≤ (n34 + 1) ∧ (n34 + 1) < 9223372036854775808 ∧
                ∃ m73, m73 < m36 ∧ I0 m73 [.slice a71a a71n a71c, .int .i64 (n34 + 1)] ww72) ∧
              (issue57 ≠ 0 →
                (-9223372036854775808 : Int) ≤ (n34 + 1) ∧ (n34 + 1) < 9223372036854775808 ∧
                ∀ (ww67 : World), Ext (fun b => b = p48) ww59 ww67 →
                ∃ m74, m74 < m36 ∧ I0 m74 [.slice all33a all33n all33c, .int .i64 (n34 + 1)] ww67))) ∧
            ((l1n : Int) ≤ n34 →
              Calls Try.prog 34 #[.pointer new17, .int .i64 atv2] ww37 fun ee85 ww86 => ∃ (Writer76 : Int) (Index77 : Int) (Prev78 : Int) (AtT79 : Int) (AtW80 : Int) (Epoch81 : Int) (Body82a : Option Addr) (Body82n : Nat) (Body82c : Nat) (Sig83 : Int) (atv84 : Int), ee85 = .returned (.tuple #[.agg #[.int .i64 Writer76, .int .i64 Index77, .int .u64 Prev78, .int .i64 AtT79, .int .i64 AtW80, .int .i64 Epoch81, .slice Body82a Body82n Body82c, .int .u64 Sig83], .int .i64 atv84]) ∧
              (atv2 < 0 →
                (atv84 = 2 →
                  ∀ (ww95 : World), Ext no ww86 ww95 →
                  Calls Try.prog 27 #[.agg #[.int .i64 Writer76, .int .i64 Index77, .int .u64 Prev78, .int .i64 AtT79, .int .i64 AtW80, .int .i64 Epoch81, .slice Body82a Body82n Body82c, .int .u64 Sig83], .agg #[.int .i64 0, .int .i64 0, .int .u64 0, .int .i64 0, .int .i64 0, .int .i64 0, .slice none 0 0, .int .u64 0]] ww95 fun ee100 ww101 => ∃ (same99 : Bool), ee100 = .returned (.bool same99) ∧
                  (same99 = true →
                    Calls Try.prog 10 #[] ww101 fun ee104 ww105 => ∃ (alive103 : Bool), ee104 = .returned (.bool alive103) ∧
                    R (.bool alive103) ww105) ∧
                  (same99 = false →
                    R (.bool false) ww101)) ∧
                (atv84 ≠ 2 →
                  ∀ (ww95 : World), Ext no ww86 ww95 →
                  R (.bool false) ww95)) ∧
              ((0 : Int) ≤ atv2 →
                (atv2 ≥ (all33n : Int) →
                  (atv84 = 2 →
                    ∀ (ww95 : World), Ext no ww86 ww95 →
                    Calls Try.prog 27 #[.agg #[.int .i64 Writer76, .int .i64 Index77, .int .u64 Prev78, .int .i64 AtT79, .int .i64 AtW80, .int .i64 Epoch81, .slice Body82a Body82n Body82c, .int .u64 Sig83], .agg #[.int .i64 0, .int .i64 0, .int .u64 0, .int .i64 0, .int .i64 0, .int .i64 0, .slice none 0 0, .int .u64 0]] ww95 fun ee111 ww112 => ∃ (same110 : Bool), ee111 = .returned (.bool same110) ∧
                    (same110 = true →
                      Calls Try.prog 10 #[] ww112 fun ee115 ww116 => ∃ (alive114 : Bool), ee115 = .returned (.bool alive114) ∧
                      R (.bool alive114) ww116) ∧
                    (same110 = false →
                      R (.bool false) ww112)) ∧
                  (atv84 ≠ 2 →
                    ∀ (ww95 : World), Ext no ww86 ww95 →
                    R (.bool false) ww95)) ∧
                (atv2 < (all33n : Int) →
                  ∀ (ww95 : World) (p118 : Nat), Ext no ww86 ww95 → Priv ww86 ww95 [p118] →
                  Calls Try.prog 34 #[.pointer none, .int .i64 0] ww95 fun ee128 ww129 => ∃ (Writer119 : Int) (Index120 : Int) (Prev121 : Int) (AtT122 : Int) (AtW123 : Int) (Epoch124 : Int) (Body125a : Option Addr) (Body125n : Nat) (Body125c : Nat) (Sig126 : Int) (atv127 : Int), ee128 = .returned (.tuple #[.agg #[.int .i64 Writer119, .int .i64 Index120, .int .u64 Prev121, .int .i64 AtT122, .int .i64 AtW123, .int .i64 Epoch124, .slice Body125a Body125n Body125c, .int .u64 Sig126], .int .i64 atv127]) ∧
                  Keep [p118] ww95 ww129 ∧
                  ∀ (ww138 : World), Ext no ww129 ww138 →
                  Calls Try.prog 14 #[.pointer none, .int .u64 pair13, .agg #[.int .i64 1, .int .i64 0], .int .i64 0, .slice none 0 0] ww138 fun ee149 ww150 => ∃ (Writer140 : Int) (Index141 : Int) (Prev142 : Int) (AtT143 : Int) (AtW144 : Int) (Epoch145 : Int) (Body146a : Option Addr) (Body146n : Nat) (Body146c : Nat) (Sig147 : Int) (issue148 : Int), ee149 = .returned (.tuple #[.agg #[.int .i64 Writer140, .int .i64 Index141, .int .u64 Prev142, .int .i64 AtT143, .int .i64 AtW144, .int .i64 Epoch145, .slice Body146a Body146n Body146c, .int .u64 Sig147], .int .i64 issue148]) ∧
                  Keep [p118] ww138 ww150 ∧
                  ∀ (ww159 : World), Ext no ww150 ww159 →
                  Calls Try.prog 24 #[.pointer none, .agg #[.int .i64 Writer76, .int .i64 Index77, .int .u64 Prev78, .int .i64 AtT79, .int .i64 AtW80, .int .i64 Epoch81, .slice Body82a Body82n Body82c, .int .u64 Sig83]] ww159 fun ee178 ww179 => ∃ (Writer161 : Int) (Index162 : Int) (Prev163 : Int) (AtT164 : Int) (AtW165 : Int) (Epoch166 : Int) (Body167a : Option Addr) (Body167n : Nat) (Body167c : Nat) (Sig168 : Int) (Writer169 : Int) (Index170 : Int) (Prev171 : Int) (AtT172 : Int) (AtW173 : Int) (Epoch174 : Int) (Body175a : Option Addr) (Body175n : Nat) (Body175c : Nat) (Sig176 : Int) (odds177 : Bool), ee178 = .returned (.tuple #[.agg #[.int .i64 Writer161, .int .i64 Index162, .int .u64 Prev163, .int .i64 AtT164, .int .i64 AtW165, .int .i64 Epoch166, .slice Body167a Body167n Body167c, .int .u64 Sig168], .agg #[.int .i64 Writer169, .int .i64 Index170, .int .u64 Prev171, .int .i64 AtT172, .int .i64 AtW173, .int .i64 Epoch174, .slice Body175a Body175n Body175c, .int .u64 Sig176], .bool odds177]) ∧
                  Keep [p118] ww159 ww179 ∧
                  (atv84 = 0 →
                    ∃ a200 : Addr, all33a = some a200 ∧
                    0 ≤ (atv2 : Int) ∧ (atv2 : Int) < (all33n : Int) ∧
                    ∃ (xWriter202 : Int) (xIndex203 : Int) (xPrev204 : Int) (xAtT205 : Int) (xAtW206 : Int) (xEpoch207 : Int) (xBody208a : Option Addr) (xBody208n : Nat) (xBody208c : Nat) (xSig209 : Int), cellsAt ww179 (a200.add (Int.toNat atv2 * 8)) [.int .i64 xWriter202, .int .i64 xIndex203, .int .u64 xPrev204, .int .i64 xAtT205, .int .i64 xAtW206, .int .i64 xEpoch207, .slice xBody208a xBody208n xBody208c, .int .u64 xSig209] 0 ∧
                    ∀ (ww198 : World), Ext no ww179 ww198 →
                    Calls Try.prog 27 #[.agg #[.int .i64 Writer76, .int .i64 Index77, .int .u64 Prev78, .int .i64 AtT79, .int .i64 AtW80, .int .i64 Epoch81, .slice Body82a Body82n Body82c, .int .u64 Sig83], .agg #[.int .i64 xWriter202, .int .i64 xIndex203, .int .u64 xPrev204, .int .i64 xAtT205, .int .i64 xAtW206, .int .i64 xEpoch207, .slice xBody208a xBody208n xBody208c, .int .u64 xSig209]] ww198 fun ee213 ww214 => ∃ (same212 : Bool), ee213 = .returned (.bool same212) ∧
                    Keep [p118] ww198 ww214 ∧
                    (same212 = true →
                      Calls Try.prog 35 #[.pointer none] ww214 fun ee217 ww218 => ∃ (writer216 : Int), ee217 = .returned (.int .i64 writer216) ∧
                      Keep [p118] ww214 ww218 ∧
                      (writer216 = (-1) →
                        Calls Try.prog 28 #[.pointer none] ww218 fun ee221 ww222 => ∃ (len220 : Int), ee221 = .returned (.int .i64 len220) ∧
                        Keep [p118] ww218 ww222 ∧
                        (len220 = 0 →
                          Calls Try.prog 16 #[.pointer none] ww222 fun ee227 ww228 => ∃ (Writer224 : Int) (Len225 : Int) (Sum226 : Int), ee227 = .returned (.agg #[.int .i64 Writer224, .int .i64 Len225, .int .u64 Sum226]) ∧
                          Keep [p118] ww222 ww228 ∧
                          (Writer224 = 0 ∧ Len225 = 0 ∧ Sum226 = 0 →
                            (atv127 = 23 →
                              (issue148 = 23 →
                                Calls Try.prog 26 #[.pointer none, .agg #[.int .i64 Writer76, .int .i64 Index77, .int .u64 Prev78, .int .i64 AtT79, .int .i64 AtW80, .int .i64 Epoch81, .slice Body82a Body82n Body82c, .int .u64 Sig83]] ww228 fun ee233 ww234 => ∃ (check232 : Int), ee233 = .returned (.int .i64 check232) ∧
                                Keep [p118] ww228 ww234 ∧
                                (check232 = 23 →
                                  Calls Try.prog 15 #[.pointer none, .agg #[.int .i64 Writer76, .int .i64 Index77, .int .u64 Prev78, .int .i64 AtT79, .int .i64 AtW80, .int .i64 Epoch81, .slice Body82a Body82n Body82c, .int .u64 Sig83]] ww234 fun ee237 ww238 => ∃ (accept236 : Int), ee237 = .returned (.int .i64 accept236) ∧
                                  (accept236 = 23 →
                                    (odds177 = false →
                                      Calls Try.prog 10 #[] ww238 fun ee242 ww243 => ∃ (alive241 : Bool), ee242 = .returned (.bool alive241) ∧
                                      R (.bool alive241) ww243) ∧
                                    (odds177 = true →
                                      R (.bool false) ww238)) ∧
                                  (accept236 ≠ 23 →
                                    R (.bool false) ww238)) ∧
                                (check232 ≠ 23 →
                                  R (.bool false) ww234)) ∧
                              (issue148 ≠ 23 →
                                R (.bool false) ww228)) ∧
                            (atv127 ≠ 23 →
                              R (.bool false) ww228)) ∧
                          (¬ (Writer224 = 0 ∧ Len225 = 0 ∧ Sum226 = 0) →
                            R (.bool false) ww228)) ∧
                        (len220 ≠ 0 →
                          R (.bool false) ww222)) ∧
                      (writer216 ≠ (-1) →
                        R (.bool false) ww218)) ∧
                    (same212 = false →
                      R (.bool false) ww214)) ∧
                  (atv84 ≠ 0 →
                    ∀ (ww198 : World), Ext no ww179 ww198 →
                    R (.bool false) ww198))))))) ∧
      (atv2 < 0 →
        ((new22 == 0) ≠ false →
          R (.bool false) ww28) ∧
        ((new22 == 0) = false →
          (new26 ≠ 23 →
            R (.bool false) ww28) ∧
          (new26 = 23 →
            ∃ (I0 : Nat → List Value → World → Prop) (m250 : Nat), I0 m250 [.slice none 0 0, .int .i64 0] ww28 ∧ ∀ (m251 : Nat) (ww252 : World) (all248a : Option Addr) (all248n : Nat) (all248c : Nat) (n249 : Int), I0 m251 [.slice all248a all248n all248c, .int .i64 n249] ww252 →
            (n249 < (l1n : Int) →
              ∃ a255 : Addr, l1a = some a255 ∧
              0 ≤ (n249 : Int) ∧ (n249 : Int) < (l1n : Int) ∧
              ∃ (T257 : Int), ww252.cell? ((a255.add (Int.toNat n249 * 14)).add 1) = some (.int .i64 T257) ∧
              0 ≤ (n249 : Int) ∧ (n249 : Int) < (l1n : Int) ∧
              ∃ (Epoch259 : Int), ww252.cell? ((a255.add (Int.toNat n249 * 14)).add 2) = some (.int .i64 Epoch259) ∧
              0 ≤ (n249 : Int) ∧ (n249 : Int) < (l1n : Int) ∧
              ∃ (Body261a : Option Addr) (Body261n : Nat) (Body261c : Nat), ww252.cell? ((a255.add (Int.toNat n249 * 14)).add 3) = some (.slice Body261a Body261n Body261c) ∧
              (∀ (ww254 : World), Ext no ww252 ww254 →
              Calls Try.prog 14 #[.pointer new17, .int .u64 pair13, .agg #[.int .i64 T257, .int .i64 1], .int .i64 Epoch259, .slice Body261a Body261n Body261c] ww254 fun ee271 ww272 => ∃ (Writer262 : Int) (Index263 : Int) (Prev264 : Int) (AtT265 : Int) (AtW266 : Int) (Epoch267 : Int) (Body268a : Option Addr) (Body268n : Nat) (Body268c : Nat) (Sig269 : Int) (issue270 : Int), ee271 = .returned (.tuple #[.agg #[.int .i64 Writer262, .int .i64 Index263, .int .u64 Prev264, .int .i64 AtT265, .int .i64 AtW266, .int .i64 Epoch267, .slice Body268a Body268n Body268c, .int .u64 Sig269], .int .i64 issue270]) ∧
              (issue270 = 0 →
                ∀ (ww283 : World) (q284 : Nat), Ext no ww272 ww283 → Blk ww283 q284 39 [.int .i64 Writer262, .int .i64 Index263, .int .u64 Prev264, .int .i64 AtT265, .int .i64 AtW266, .int .i64 Epoch267, .slice Body268a Body268n Body268c, .int .u64 Sig269] → ww272.heap.size ≤ q284 → q284 < ww283.heap.size →
                ∃ (a286a : Option Addr) (a286n : Nat) (a286c : Nat) (ww287 : World), (Builtin.append_ #[49, 49] 49 #[.slice all248a all248n all248c, .slice (some (blk q284)) 1 1]).run Try.prog ww283 = .ok (.slice a286a a286n a286c) ww287 ∧
                (-9223372036854775808 : Int) ≤ (n249 + 1) ∧ (n249 + 1) < 9223372036854775808 ∧
                ∃ m288, m288 < m251 ∧ I0 m288 [.slice a286a a286n a286c, .int .i64 (n249 + 1)] ww287) ∧
              (issue270 ≠ 0 →
                (-9223372036854775808 : Int) ≤ (n249 + 1) ∧ (n249 + 1) < 9223372036854775808 ∧
                ∀ (ww281 : World), Ext no ww272 ww281 →
                ∃ m290, m290 < m251 ∧ I0 m290 [.slice all248a all248n all248c, .int .i64 (n249 + 1)] ww281)) ∧
              (∀ (ww262 : World) (p263 : Nat), Ext no ww252 ww262 → Priv ww252 ww262 [p263] →
              Calls Try.prog 14 #[.pointer new17, .int .u64 pair13, .agg #[.int .i64 T257, .int .i64 1], .int .i64 Epoch259, .slice Body261a Body261n Body261c] ww262 fun ee273 ww274 => ∃ (Writer264 : Int) (Index265 : Int) (Prev266 : Int) (AtT267 : Int) (AtW268 : Int) (Epoch269 : Int) (Body270a : Option Addr) (Body270n : Nat) (Body270c : Nat) (Sig271 : Int) (issue272 : Int), ee273 = .returned (.tuple #[.agg #[.int .i64 Writer264, .int .i64 Index265, .int .u64 Prev266, .int .i64 AtT267, .int .i64 AtW268, .int .i64 Epoch269, .slice Body270a Body270n Body270c, .int .u64 Sig271], .int .i64 issue272]) ∧
              Keep [p263] ww262 ww274 ∧
              (issue272 = 0 →
                ∀ (ww282 : World), Ext (fun b => b = p263) ww274 ww282 →
                ∀ (ww284 : World) (q285 : Nat), Ext no ww282 ww284 → Blk ww284 q285 39 [.int .i64 Writer264, .int .i64 Index265, .int .u64 Prev266, .int .i64 AtT267, .int .i64 AtW268, .int .i64 Epoch269, .slice Body270a Body270n Body270c, .int .u64 Sig271] → ww282.heap.size ≤ q285 → q285 < ww284.heap.size →
                ∃ (a286a : Option Addr) (a286n : Nat) (a286c : Nat) (ww287 : World), (Builtin.append_ #[49, 49] 49 #[.slice all248a all248n all248c, .slice (some (blk q285)) 1 1]).run Try.prog ww284 = .ok (.slice a286a a286n a286c) ww287 ∧
                (-9223372036854775808 : Int) ≤ (n249 + 1) ∧ (n249 + 1) < 9223372036854775808 ∧
                ∃ m288, m288 < m251 ∧ I0 m288 [.slice a286a a286n a286c, .int .i64 (n249 + 1)] ww287) ∧
              (issue272 ≠ 0 →
                (-9223372036854775808 : Int) ≤ (n249 + 1) ∧ (n249 + 1) < 9223372036854775808 ∧
                ∀ (ww282 : World), Ext (fun b => b = p263) ww274 ww282 →
                ∃ m289, m289 < m251 ∧ I0 m289 [.slice all248a all248n all248c, .int .i64 (n249 + 1)] ww282))) ∧
            ((l1n : Int) ≤ n249 →
              Calls Try.prog 34 #[.pointer new17, .int .i64 atv2] ww252 fun ee300 ww301 => ∃ (Writer291 : Int) (Index292 : Int) (Prev293 : Int) (AtT294 : Int) (AtW295 : Int) (Epoch296 : Int) (Body297a : Option Addr) (Body297n : Nat) (Body297c : Nat) (Sig298 : Int) (atv299 : Int), ee300 = .returned (.tuple #[.agg #[.int .i64 Writer291, .int .i64 Index292, .int .u64 Prev293, .int .i64 AtT294, .int .i64 AtW295, .int .i64 Epoch296, .slice Body297a Body297n Body297c, .int .u64 Sig298], .int .i64 atv299]) ∧
              (atv2 < 0 →
                (atv299 = 2 →
                  ∀ (ww310 : World), Ext no ww301 ww310 →
                  Calls Try.prog 27 #[.agg #[.int .i64 Writer291, .int .i64 Index292, .int .u64 Prev293, .int .i64 AtT294, .int .i64 AtW295, .int .i64 Epoch296, .slice Body297a Body297n Body297c, .int .u64 Sig298], .agg #[.int .i64 0, .int .i64 0, .int .u64 0, .int .i64 0, .int .i64 0, .int .i64 0, .slice none 0 0, .int .u64 0]] ww310 fun ee315 ww316 => ∃ (same314 : Bool), ee315 = .returned (.bool same314) ∧
                  (same314 = true →
                    Calls Try.prog 10 #[] ww316 fun ee319 ww320 => ∃ (alive318 : Bool), ee319 = .returned (.bool alive318) ∧
                    R (.bool alive318) ww320) ∧
                  (same314 = false →
                    R (.bool false) ww316)) ∧
                (atv299 ≠ 2 →
                  ∀ (ww310 : World), Ext no ww301 ww310 →
                  R (.bool false) ww310)) ∧
              ((0 : Int) ≤ atv2 →
                (atv2 ≥ (all248n : Int) →
                  (atv299 = 2 →
                    ∀ (ww310 : World), Ext no ww301 ww310 →
                    Calls Try.prog 27 #[.agg #[.int .i64 Writer291, .int .i64 Index292, .int .u64 Prev293, .int .i64 AtT294, .int .i64 AtW295, .int .i64 Epoch296, .slice Body297a Body297n Body297c, .int .u64 Sig298], .agg #[.int .i64 0, .int .i64 0, .int .u64 0, .int .i64 0, .int .i64 0, .int .i64 0, .slice none 0 0, .int .u64 0]] ww310 fun ee326 ww327 => ∃ (same325 : Bool), ee326 = .returned (.bool same325) ∧
                    (same325 = true →
                      Calls Try.prog 10 #[] ww327 fun ee330 ww331 => ∃ (alive329 : Bool), ee330 = .returned (.bool alive329) ∧
                      R (.bool alive329) ww331) ∧
                    (same325 = false →
                      R (.bool false) ww327)) ∧
                  (atv299 ≠ 2 →
                    ∀ (ww310 : World), Ext no ww301 ww310 →
                    R (.bool false) ww310)) ∧
                (atv2 < (all248n : Int) →
                  ∀ (ww310 : World) (p333 : Nat), Ext no ww301 ww310 → Priv ww301 ww310 [p333] →
                  Calls Try.prog 34 #[.pointer none, .int .i64 0] ww310 fun ee343 ww344 => ∃ (Writer334 : Int) (Index335 : Int) (Prev336 : Int) (AtT337 : Int) (AtW338 : Int) (Epoch339 : Int) (Body340a : Option Addr) (Body340n : Nat) (Body340c : Nat) (Sig341 : Int) (atv342 : Int), ee343 = .returned (.tuple #[.agg #[.int .i64 Writer334, .int .i64 Index335, .int .u64 Prev336, .int .i64 AtT337, .int .i64 AtW338, .int .i64 Epoch339, .slice Body340a Body340n Body340c, .int .u64 Sig341], .int .i64 atv342]) ∧
                  Keep [p333] ww310 ww344 ∧
                  ∀ (ww353 : World), Ext no ww344 ww353 →
                  Calls Try.prog 14 #[.pointer none, .int .u64 pair13, .agg #[.int .i64 1, .int .i64 0], .int .i64 0, .slice none 0 0] ww353 fun ee364 ww365 => ∃ (Writer355 : Int) (Index356 : Int) (Prev357 : Int) (AtT358 : Int) (AtW359 : Int) (Epoch360 : Int) (Body361a : Option Addr) (Body361n : Nat) (Body361c : Nat) (Sig362 : Int) (issue363 : Int), ee364 = .returned (.tuple #[.agg #[.int .i64 Writer355, .int .i64 Index356, .int .u64 Prev357, .int .i64 AtT358, .int .i64 AtW359, .int .i64 Epoch360, .slice Body361a Body361n Body361c, .int .u64 Sig362], .int .i64 issue363]) ∧
                  Keep [p333] ww353 ww365 ∧
                  ∀ (ww374 : World), Ext no ww365 ww374 →
                  Calls Try.prog 24 #[.pointer none, .agg #[.int .i64 Writer291, .int .i64 Index292, .int .u64 Prev293, .int .i64 AtT294, .int .i64 AtW295, .int .i64 Epoch296, .slice Body297a Body297n Body297c, .int .u64 Sig298]] ww374 fun ee393 ww394 => ∃ (Writer376 : Int) (Index377 : Int) (Prev378 : Int) (AtT379 : Int) (AtW380 : Int) (Epoch381 : Int) (Body382a : Option Addr) (Body382n : Nat) (Body382c : Nat) (Sig383 : Int) (Writer384 : Int) (Index385 : Int) (Prev386 : Int) (AtT387 : Int) (AtW388 : Int) (Epoch389 : Int) (Body390a : Option Addr) (Body390n : Nat) (Body390c : Nat) (Sig391 : Int) (odds392 : Bool), ee393 = .returned (.tuple #[.agg #[.int .i64 Writer376, .int .i64 Index377, .int .u64 Prev378, .int .i64 AtT379, .int .i64 AtW380, .int .i64 Epoch381, .slice Body382a Body382n Body382c, .int .u64 Sig383], .agg #[.int .i64 Writer384, .int .i64 Index385, .int .u64 Prev386, .int .i64 AtT387, .int .i64 AtW388, .int .i64 Epoch389, .slice Body390a Body390n Body390c, .int .u64 Sig391], .bool odds392]) ∧
                  Keep [p333] ww374 ww394 ∧
                  (atv299 = 0 →
                    ∃ a415 : Addr, all248a = some a415 ∧
                    0 ≤ (atv2 : Int) ∧ (atv2 : Int) < (all248n : Int) ∧
                    ∃ (xWriter417 : Int) (xIndex418 : Int) (xPrev419 : Int) (xAtT420 : Int) (xAtW421 : Int) (xEpoch422 : Int) (xBody423a : Option Addr) (xBody423n : Nat) (xBody423c : Nat) (xSig424 : Int), cellsAt ww394 (a415.add (Int.toNat atv2 * 8)) [.int .i64 xWriter417, .int .i64 xIndex418, .int .u64 xPrev419, .int .i64 xAtT420, .int .i64 xAtW421, .int .i64 xEpoch422, .slice xBody423a xBody423n xBody423c, .int .u64 xSig424] 0 ∧
                    ∀ (ww413 : World), Ext no ww394 ww413 →
                    Calls Try.prog 27 #[.agg #[.int .i64 Writer291, .int .i64 Index292, .int .u64 Prev293, .int .i64 AtT294, .int .i64 AtW295, .int .i64 Epoch296, .slice Body297a Body297n Body297c, .int .u64 Sig298], .agg #[.int .i64 xWriter417, .int .i64 xIndex418, .int .u64 xPrev419, .int .i64 xAtT420, .int .i64 xAtW421, .int .i64 xEpoch422, .slice xBody423a xBody423n xBody423c, .int .u64 xSig424]] ww413 fun ee428 ww429 => ∃ (same427 : Bool), ee428 = .returned (.bool same427) ∧
                    Keep [p333] ww413 ww429 ∧
                    (same427 = true →
                      Calls Try.prog 35 #[.pointer none] ww429 fun ee432 ww433 => ∃ (writer431 : Int), ee432 = .returned (.int .i64 writer431) ∧
                      Keep [p333] ww429 ww433 ∧
                      (writer431 = (-1) →
                        Calls Try.prog 28 #[.pointer none] ww433 fun ee436 ww437 => ∃ (len435 : Int), ee436 = .returned (.int .i64 len435) ∧
                        Keep [p333] ww433 ww437 ∧
                        (len435 = 0 →
                          Calls Try.prog 16 #[.pointer none] ww437 fun ee442 ww443 => ∃ (Writer439 : Int) (Len440 : Int) (Sum441 : Int), ee442 = .returned (.agg #[.int .i64 Writer439, .int .i64 Len440, .int .u64 Sum441]) ∧
                          Keep [p333] ww437 ww443 ∧
                          (Writer439 = 0 ∧ Len440 = 0 ∧ Sum441 = 0 →
                            (atv342 = 23 →
                              (issue363 = 23 →
                                Calls Try.prog 26 #[.pointer none, .agg #[.int .i64 Writer291, .int .i64 Index292, .int .u64 Prev293, .int .i64 AtT294, .int .i64 AtW295, .int .i64 Epoch296, .slice Body297a Body297n Body297c, .int .u64 Sig298]] ww443 fun ee448 ww449 => ∃ (check447 : Int), ee448 = .returned (.int .i64 check447) ∧
                                Keep [p333] ww443 ww449 ∧
                                (check447 = 23 →
                                  Calls Try.prog 15 #[.pointer none, .agg #[.int .i64 Writer291, .int .i64 Index292, .int .u64 Prev293, .int .i64 AtT294, .int .i64 AtW295, .int .i64 Epoch296, .slice Body297a Body297n Body297c, .int .u64 Sig298]] ww449 fun ee452 ww453 => ∃ (accept451 : Int), ee452 = .returned (.int .i64 accept451) ∧
                                  (accept451 = 23 →
                                    (odds392 = false →
                                      Calls Try.prog 10 #[] ww453 fun ee457 ww458 => ∃ (alive456 : Bool), ee457 = .returned (.bool alive456) ∧
                                      R (.bool alive456) ww458) ∧
                                    (odds392 = true →
                                      R (.bool false) ww453)) ∧
                                  (accept451 ≠ 23 →
                                    R (.bool false) ww453)) ∧
                                (check447 ≠ 23 →
                                  R (.bool false) ww449)) ∧
                              (issue363 ≠ 23 →
                                R (.bool false) ww443)) ∧
                            (atv342 ≠ 23 →
                              R (.bool false) ww443)) ∧
                          (¬ (Writer439 = 0 ∧ Len440 = 0 ∧ Sum441 = 0) →
                            R (.bool false) ww443)) ∧
                        (len435 ≠ 0 →
                          R (.bool false) ww437)) ∧
                      (writer431 ≠ (-1) →
                        R (.bool false) ww433)) ∧
                    (same427 = false →
                      R (.bool false) ww429)) ∧
                  (atv299 ≠ 0 →
                    ∀ (ww413 : World), Ext no ww394 ww413 →
                    R (.bool false) ww413)))))))))

theorem cachettelaw07_ChainAts.up (l1a : Option Addr) (l1n : Nat) (l1c : Nat) (atv2 : Int) {R : Value → World → Prop} {w : World} (h : cachettelaw07_ChainAts.N l1a l1n l1c atv2 R w) : cachettelaw07_ChainAts.M l1a l1n l1c atv2 R w := by
  unfold cachettelaw07_ChainAts.M
  unfold cachettelaw07_ChainAts.N at h
  refine h.mono fun ee4 ww5 h => ?_
  obtain ⟨light3, he, h⟩ := h
  refine ⟨light3, he, ?_⟩
  refine bif_of (fun c6 => ?_) (fun c6 => ?_)
  · have h := h.1 (not_t c6)
    refine h.mono fun ee8 ww9 h => ?_
    obtain ⟨alive7, he, h⟩ := h
    refine ⟨alive7, he, ?_⟩
    exact h
  · have h := h.2 (not_f c6)
    refine h.mono fun ee11 ww12 h => ?_
    obtain ⟨new10, he, h⟩ := h
    refine ⟨new10, he, ?_⟩
    refine h.mono fun ee15 ww16 h => ?_
    obtain ⟨pair13, pair14, he, h⟩ := h
    refine ⟨pair13, pair14, he, ?_⟩
    refine h.mono fun ee19 ww20 h => ?_
    obtain ⟨new17, new18, he, h⟩ := h
    refine ⟨new17, new18, he, ?_⟩
    refine h.mono fun ee23 ww24 h => ?_
    obtain ⟨new21, new22, he, h⟩ := h
    refine ⟨new21, new22, he, ?_⟩
    refine h.mono fun ee27 ww28 h => ?_
    obtain ⟨new25, new26, he, h⟩ := h
    refine ⟨new25, new26, he, ?_⟩
    refine bif_of (fun c29 => ?_) (fun c29 => ?_)
    · have h := h.1 (bne_t c29)
      exact h
    · have h := h.2 (bne_f c29)
      refine bif_of (fun c30 => ?_) (fun c30 => ?_)
      · have h := h.1 (of_decide_eq_true c30)
        refine bif_of (fun c31 => ?_) (fun c31 => ?_)
        · have h := h.1 (bbeq_f (not_t c31))
          exact h
        · have h := h.2 (bbeq_t (not_f c31))
          refine bif_of (fun c32 => ?_) (fun c32 => ?_)
          · have h := h.1 (bne_t c32)
            exact h
          · have h := h.2 (bne_f c32)
            obtain ⟨I0, m35, h0, h⟩ := h
            refine ⟨I0, m35, h0, fun m36 ww37 all33a all33n all33c n34 hI => ?_⟩
            have h := h m36 ww37 all33a all33n all33c n34 hI
            refine bif_of (fun c38 => ?_) (fun c38 => ?_)
            · have h := h.1 (of_decide_eq_true c38)
              refine thenW_in fun ww39 e39 => ?_
              have hx39 := (Ext.refl no ww37).x_drew e39
              obtain ⟨a40, ha40, h⟩ := h
              refine elim_some ha40 ?_
              obtain ⟨hq1, hq2, h⟩ := h
              refine ⟨hq1, hq2, ?_⟩
              obtain ⟨T42, hc41, h⟩ := h
              refine ⟨T42, (hx39).cell hc41 id, ?_⟩
              refine elim_some ha40 ?_
              obtain ⟨hq1, hq2, h⟩ := h
              refine ⟨hq1, hq2, ?_⟩
              obtain ⟨Epoch44, hc43, h⟩ := h
              refine ⟨Epoch44, (hx39).cell hc43 id, ?_⟩
              refine elim_some ha40 ?_
              obtain ⟨hq1, hq2, h⟩ := h
              refine ⟨hq1, hq2, ?_⟩
              obtain ⟨Body46a, Body46n, Body46c, hc45, h⟩ := h
              refine ⟨Body46a, Body46n, Body46c, (hx39).cell hc45 id, ?_⟩
              obtain ⟨h0', h1'⟩ := h
              refine ⟨?_, ?_⟩
              · have h := h0'
                have h := h ww39 hx39
                refine h.mono fun ee56 ww57 h => ?_
                obtain ⟨Writer47, Index48, Prev49, AtT50, AtW51, Epoch52, Body53a, Body53n, Body53c, Sig54, issue55, he, h⟩ := h
                refine ⟨Writer47, Index48, Prev49, AtT50, AtW51, Epoch52, Body53a, Body53n, Body53c, Sig54, issue55, he, ?_⟩
                refine thenW_in fun ww58 e58 => ?_
                have hb1 := Blk.of_new e58
                have hg1 := ((Ext.refl no ww57)).size
                have hx58 := (Ext.refl no ww57).x_alloc e58
                refine ⟨hb1.cani 0 rfl rfl, thenW_in fun ww59 e59 => ?_⟩
                have hx59 := hx58.x_set (q := ww57.heap.size) (i := 0) rfl (.inr hg1) e59
                have hb1 : Blk ww59 ww57.heap.size 39 [.int .i64 Writer47, .int .i64 0, .int .u64 0, .int .i64 0, .int .i64 0, .int .i64 0, .slice none 0 0, .int .u64 0] := hb1.seti 0 rfl e59
                refine ⟨hb1.cani 1 rfl rfl, thenW_in fun ww60 e60 => ?_⟩
                have hx60 := hx59.x_set (q := ww57.heap.size) (i := 1) rfl (.inr hg1) e60
                have hb1 : Blk ww60 ww57.heap.size 39 [.int .i64 Writer47, .int .i64 Index48, .int .u64 0, .int .i64 0, .int .i64 0, .int .i64 0, .slice none 0 0, .int .u64 0] := hb1.seti 1 rfl e60
                refine ⟨hb1.cani 2 rfl rfl, thenW_in fun ww61 e61 => ?_⟩
                have hx61 := hx60.x_set (q := ww57.heap.size) (i := 2) rfl (.inr hg1) e61
                have hb1 : Blk ww61 ww57.heap.size 39 [.int .i64 Writer47, .int .i64 Index48, .int .u64 Prev49, .int .i64 0, .int .i64 0, .int .i64 0, .slice none 0 0, .int .u64 0] := hb1.seti 2 rfl e61
                refine ⟨hb1.cani 3 rfl rfl, thenW_in fun ww62 e62 => ?_⟩
                have hx62 := hx61.x_set (q := ww57.heap.size) (i := 3) rfl (.inr hg1) e62
                have hb1 : Blk ww62 ww57.heap.size 39 [.int .i64 Writer47, .int .i64 Index48, .int .u64 Prev49, .int .i64 AtT50, .int .i64 0, .int .i64 0, .slice none 0 0, .int .u64 0] := hb1.seti 3 rfl e62
                refine ⟨hb1.cani 4 rfl rfl, thenW_in fun ww63 e63 => ?_⟩
                have hx63 := hx62.x_set (q := ww57.heap.size) (i := 4) rfl (.inr hg1) e63
                have hb1 : Blk ww63 ww57.heap.size 39 [.int .i64 Writer47, .int .i64 Index48, .int .u64 Prev49, .int .i64 AtT50, .int .i64 AtW51, .int .i64 0, .slice none 0 0, .int .u64 0] := hb1.seti 4 rfl e63
                refine ⟨hb1.cani 5 rfl rfl, thenW_in fun ww64 e64 => ?_⟩
                have hx64 := hx63.x_set (q := ww57.heap.size) (i := 5) rfl (.inr hg1) e64
                have hb1 : Blk ww64 ww57.heap.size 39 [.int .i64 Writer47, .int .i64 Index48, .int .u64 Prev49, .int .i64 AtT50, .int .i64 AtW51, .int .i64 Epoch52, .slice none 0 0, .int .u64 0] := hb1.seti 5 rfl e64
                refine ⟨hb1.cani 6 rfl rfl, thenW_in fun ww65 e65 => ?_⟩
                have hx65 := hx64.x_set (q := ww57.heap.size) (i := 6) rfl (.inr hg1) e65
                have hb1 : Blk ww65 ww57.heap.size 39 [.int .i64 Writer47, .int .i64 Index48, .int .u64 Prev49, .int .i64 AtT50, .int .i64 AtW51, .int .i64 Epoch52, .slice Body53a Body53n Body53c, .int .u64 0] := hb1.seti 6 rfl e65
                refine ⟨hb1.cani 7 rfl rfl, thenW_in fun ww66 e66 => ?_⟩
                have hx66 := hx65.x_set (q := ww57.heap.size) (i := 7) rfl (.inr hg1) e66
                have hb1 : Blk ww66 ww57.heap.size 39 [.int .i64 Writer47, .int .i64 Index48, .int .u64 Prev49, .int .i64 AtT50, .int .i64 AtW51, .int .i64 Epoch52, .slice Body53a Body53n Body53c, .int .u64 Sig54] := hb1.seti 7 rfl e66
                refine bif_of (fun c67 => ?_) (fun c67 => ?_)
                · have h := h.1 (beq_t c67)
                  refine ⟨Writer47, Index48, Prev49, AtT50, AtW51, Epoch52, Body53a, Body53n, Body53c, Sig54, ⟨hb1.celli 0 rfl rfl, hb1.celli 1 rfl rfl, hb1.celli 2 rfl rfl, hb1.celli 3 rfl rfl, hb1.celli 4 rfl rfl, hb1.celli 5 rfl rfl, hb1.celli 6 rfl rfl, hb1.celli 7 rfl rfl, trivial⟩, ?_⟩
                  refine thenW_in fun ww68 e68 => ?_
                  have h := h ww68 ww66.heap.size (hx66.x_alloc e68) (Blk.of_new e68) (hx66).size (size_lt_alloc e68)
                  obtain ⟨a71a, a71n, a71c, ww72, hr, h⟩ := h
                  refine ⟨a71a, a71n, a71c, ww72, hr, ?_⟩
                  obtain ⟨hw1, hw2, h⟩ := h
                  try rw [w64 hw1 hw2]
                  obtain ⟨m73, hk, h⟩ := h
                  exact ⟨m73, hk, h⟩
                · have h := h.2 (beq_f c67)
                  obtain ⟨hw1, hw2, h⟩ := h
                  try rw [w64 hw1 hw2]
                  have h := h ww66 hx66
                  obtain ⟨m75, hk, h⟩ := h
                  exact ⟨m75, hk, h⟩
              · have h := h1'
                refine thenW_in fun ww47 e47 => ?_
                have hb1 := Blk.of_new e47
                have hg1 := (hx39).size
                have hx47 := hx39.x_alloc e47
                refine ⟨(hx47).cell hc45 id, (hx47).cell hc43 id, (hx47).cell hc41 id, ?_⟩
                have h := h ww47 (ww39.heap.size) hx47 (Priv.cons hg1 hb1.lt Priv.nil)
                refine h.mono fun ee58 ww59 h => ?_
                obtain ⟨Writer49, Index50, Prev51, AtT52, AtW53, Epoch54, Body55a, Body55n, Body55c, Sig56, issue57, he, hk, h⟩ := h
                refine ⟨Writer49, Index50, Prev51, AtT52, AtW53, Epoch54, Body55a, Body55n, Body55c, Sig56, issue57, he, ?_⟩
                have hb1 := hk.blk hb1 (by simp)
                have hm67 : Ext (fun b => b = ww39.heap.size) ww59 ww59 := ((Ext.refl no ww59)).none
                refine ⟨hb1.cani 0 rfl rfl, thenW_in fun ww60 e60 => ?_⟩
                have hx60 := hm67.x_set (q := ww39.heap.size) (i := 0) rfl (.inl rfl) e60
                have hb1 : Blk ww60 ww39.heap.size 39 [.int .i64 Writer49, .int .i64 0, .int .u64 0, .int .i64 0, .int .i64 0, .int .i64 0, .slice none 0 0, .int .u64 0] := hb1.seti 0 rfl e60
                refine ⟨hb1.cani 1 rfl rfl, thenW_in fun ww61 e61 => ?_⟩
                have hx61 := hx60.x_set (q := ww39.heap.size) (i := 1) rfl (.inl rfl) e61
                have hb1 : Blk ww61 ww39.heap.size 39 [.int .i64 Writer49, .int .i64 Index50, .int .u64 0, .int .i64 0, .int .i64 0, .int .i64 0, .slice none 0 0, .int .u64 0] := hb1.seti 1 rfl e61
                refine ⟨hb1.cani 2 rfl rfl, thenW_in fun ww62 e62 => ?_⟩
                have hx62 := hx61.x_set (q := ww39.heap.size) (i := 2) rfl (.inl rfl) e62
                have hb1 : Blk ww62 ww39.heap.size 39 [.int .i64 Writer49, .int .i64 Index50, .int .u64 Prev51, .int .i64 0, .int .i64 0, .int .i64 0, .slice none 0 0, .int .u64 0] := hb1.seti 2 rfl e62
                refine ⟨hb1.cani 3 rfl rfl, thenW_in fun ww63 e63 => ?_⟩
                have hx63 := hx62.x_set (q := ww39.heap.size) (i := 3) rfl (.inl rfl) e63
                have hb1 : Blk ww63 ww39.heap.size 39 [.int .i64 Writer49, .int .i64 Index50, .int .u64 Prev51, .int .i64 AtT52, .int .i64 0, .int .i64 0, .slice none 0 0, .int .u64 0] := hb1.seti 3 rfl e63
                refine ⟨hb1.cani 4 rfl rfl, thenW_in fun ww64 e64 => ?_⟩
                have hx64 := hx63.x_set (q := ww39.heap.size) (i := 4) rfl (.inl rfl) e64
                have hb1 : Blk ww64 ww39.heap.size 39 [.int .i64 Writer49, .int .i64 Index50, .int .u64 Prev51, .int .i64 AtT52, .int .i64 AtW53, .int .i64 0, .slice none 0 0, .int .u64 0] := hb1.seti 4 rfl e64
                refine ⟨hb1.cani 5 rfl rfl, thenW_in fun ww65 e65 => ?_⟩
                have hx65 := hx64.x_set (q := ww39.heap.size) (i := 5) rfl (.inl rfl) e65
                have hb1 : Blk ww65 ww39.heap.size 39 [.int .i64 Writer49, .int .i64 Index50, .int .u64 Prev51, .int .i64 AtT52, .int .i64 AtW53, .int .i64 Epoch54, .slice none 0 0, .int .u64 0] := hb1.seti 5 rfl e65
                refine ⟨hb1.cani 6 rfl rfl, thenW_in fun ww66 e66 => ?_⟩
                have hx66 := hx65.x_set (q := ww39.heap.size) (i := 6) rfl (.inl rfl) e66
                have hb1 : Blk ww66 ww39.heap.size 39 [.int .i64 Writer49, .int .i64 Index50, .int .u64 Prev51, .int .i64 AtT52, .int .i64 AtW53, .int .i64 Epoch54, .slice Body55a Body55n Body55c, .int .u64 0] := hb1.seti 6 rfl e66
                refine ⟨hb1.cani 7 rfl rfl, thenW_in fun ww67 e67 => ?_⟩
                have hx67 := hx66.x_set (q := ww39.heap.size) (i := 7) rfl (.inl rfl) e67
                have hb1 : Blk ww67 ww39.heap.size 39 [.int .i64 Writer49, .int .i64 Index50, .int .u64 Prev51, .int .i64 AtT52, .int .i64 AtW53, .int .i64 Epoch54, .slice Body55a Body55n Body55c, .int .u64 Sig56] := hb1.seti 7 rfl e67
                refine bif_of (fun c68 => ?_) (fun c68 => ?_)
                · have h := h.1 (beq_t c68)
                  refine ⟨Writer49, Index50, Prev51, AtT52, AtW53, Epoch54, Body55a, Body55n, Body55c, Sig56, ⟨hb1.celli 0 rfl rfl, hb1.celli 1 rfl rfl, hb1.celli 2 rfl rfl, hb1.celli 3 rfl rfl, hb1.celli 4 rfl rfl, hb1.celli 5 rfl rfl, hb1.celli 6 rfl rfl, hb1.celli 7 rfl rfl, trivial⟩, ?_⟩
                  have h := h ww67 hx67
                  refine thenW_in fun ww69 e69 => ?_
                  have h := h ww69 ww67.heap.size ((Ext.refl no ww67).x_alloc e69) (Blk.of_new e69) ((Ext.refl no ww67)).size (size_lt_alloc e69)
                  obtain ⟨a71a, a71n, a71c, ww72, hr, h⟩ := h
                  refine ⟨a71a, a71n, a71c, ww72, hr, ?_⟩
                  obtain ⟨hw1, hw2, h⟩ := h
                  try rw [w64 hw1 hw2]
                  obtain ⟨m73, hk, h⟩ := h
                  exact ⟨m73, hk, h⟩
                · have h := h.2 (beq_f c68)
                  obtain ⟨hw1, hw2, h⟩ := h
                  try rw [w64 hw1 hw2]
                  have h := h ww67 hx67
                  obtain ⟨m74, hk, h⟩ := h
                  exact ⟨m74, hk, h⟩
            · have h := h.2 (Int.not_lt.1 (of_decide_eq_false c38))
              refine h.mono fun ee85 ww86 h => ?_
              obtain ⟨Writer76, Index77, Prev78, AtT79, AtW80, Epoch81, Body82a, Body82n, Body82c, Sig83, atv84, he, h⟩ := h
              refine ⟨Writer76, Index77, Prev78, AtT79, AtW80, Epoch81, Body82a, Body82n, Body82c, Sig83, atv84, he, ?_⟩
              refine thenW_in fun ww87 e87 => ?_
              have hb2 := Blk.of_new e87
              have hg2 := ((Ext.refl no ww86)).size
              have hx87 := (Ext.refl no ww86).x_alloc e87
              refine ⟨hb2.cani 0 rfl rfl, thenW_in fun ww88 e88 => ?_⟩
              have hx88 := hx87.x_set (q := ww86.heap.size) (i := 0) rfl (.inr hg2) e88
              have hb2 : Blk ww88 ww86.heap.size 39 [.int .i64 Writer76, .int .i64 0, .int .u64 0, .int .i64 0, .int .i64 0, .int .i64 0, .slice none 0 0, .int .u64 0] := hb2.seti 0 rfl e88
              refine ⟨hb2.cani 1 rfl rfl, thenW_in fun ww89 e89 => ?_⟩
              have hx89 := hx88.x_set (q := ww86.heap.size) (i := 1) rfl (.inr hg2) e89
              have hb2 : Blk ww89 ww86.heap.size 39 [.int .i64 Writer76, .int .i64 Index77, .int .u64 0, .int .i64 0, .int .i64 0, .int .i64 0, .slice none 0 0, .int .u64 0] := hb2.seti 1 rfl e89
              refine ⟨hb2.cani 2 rfl rfl, thenW_in fun ww90 e90 => ?_⟩
              have hx90 := hx89.x_set (q := ww86.heap.size) (i := 2) rfl (.inr hg2) e90
              have hb2 : Blk ww90 ww86.heap.size 39 [.int .i64 Writer76, .int .i64 Index77, .int .u64 Prev78, .int .i64 0, .int .i64 0, .int .i64 0, .slice none 0 0, .int .u64 0] := hb2.seti 2 rfl e90
              refine ⟨hb2.cani 3 rfl rfl, thenW_in fun ww91 e91 => ?_⟩
              have hx91 := hx90.x_set (q := ww86.heap.size) (i := 3) rfl (.inr hg2) e91
              have hb2 : Blk ww91 ww86.heap.size 39 [.int .i64 Writer76, .int .i64 Index77, .int .u64 Prev78, .int .i64 AtT79, .int .i64 0, .int .i64 0, .slice none 0 0, .int .u64 0] := hb2.seti 3 rfl e91
              refine ⟨hb2.cani 4 rfl rfl, thenW_in fun ww92 e92 => ?_⟩
              have hx92 := hx91.x_set (q := ww86.heap.size) (i := 4) rfl (.inr hg2) e92
              have hb2 : Blk ww92 ww86.heap.size 39 [.int .i64 Writer76, .int .i64 Index77, .int .u64 Prev78, .int .i64 AtT79, .int .i64 AtW80, .int .i64 0, .slice none 0 0, .int .u64 0] := hb2.seti 4 rfl e92
              refine ⟨hb2.cani 5 rfl rfl, thenW_in fun ww93 e93 => ?_⟩
              have hx93 := hx92.x_set (q := ww86.heap.size) (i := 5) rfl (.inr hg2) e93
              have hb2 : Blk ww93 ww86.heap.size 39 [.int .i64 Writer76, .int .i64 Index77, .int .u64 Prev78, .int .i64 AtT79, .int .i64 AtW80, .int .i64 Epoch81, .slice none 0 0, .int .u64 0] := hb2.seti 5 rfl e93
              refine ⟨hb2.cani 6 rfl rfl, thenW_in fun ww94 e94 => ?_⟩
              have hx94 := hx93.x_set (q := ww86.heap.size) (i := 6) rfl (.inr hg2) e94
              have hb2 : Blk ww94 ww86.heap.size 39 [.int .i64 Writer76, .int .i64 Index77, .int .u64 Prev78, .int .i64 AtT79, .int .i64 AtW80, .int .i64 Epoch81, .slice Body82a Body82n Body82c, .int .u64 0] := hb2.seti 6 rfl e94
              refine ⟨hb2.cani 7 rfl rfl, thenW_in fun ww95 e95 => ?_⟩
              have hx95 := hx94.x_set (q := ww86.heap.size) (i := 7) rfl (.inr hg2) e95
              have hb2 : Blk ww95 ww86.heap.size 39 [.int .i64 Writer76, .int .i64 Index77, .int .u64 Prev78, .int .i64 AtT79, .int .i64 AtW80, .int .i64 Epoch81, .slice Body82a Body82n Body82c, .int .u64 Sig83] := hb2.seti 7 rfl e95
              refine bif_of (fun c96 => ?_) (fun c96 => ?_)
              · have h := h.1 (of_decide_eq_true c96)
                refine bif_of (fun c97 => ?_) (fun c97 => ?_)
                · have h := h.1 (beq_t c97)
                  refine ⟨Writer76, Index77, Prev78, AtT79, AtW80, Epoch81, Body82a, Body82n, Body82c, Sig83, ⟨hb2.celli 0 rfl rfl, hb2.celli 1 rfl rfl, hb2.celli 2 rfl rfl, hb2.celli 3 rfl rfl, hb2.celli 4 rfl rfl, hb2.celli 5 rfl rfl, hb2.celli 6 rfl rfl, hb2.celli 7 rfl rfl, trivial⟩, ?_⟩
                  have h := h ww95 hx95
                  refine h.mono fun ee100 ww101 h => ?_
                  obtain ⟨same99, he, h⟩ := h
                  refine ⟨same99, he, ?_⟩
                  refine bif_of (fun c102 => ?_) (fun c102 => ?_)
                  · have h := h.1 c102
                    refine h.mono fun ee104 ww105 h => ?_
                    obtain ⟨alive103, he, h⟩ := h
                    refine ⟨alive103, he, ?_⟩
                    exact h
                  · have h := h.2 c102
                    exact h
                · have h := h.2 (beq_f c97)
                  have h := h ww95 hx95
                  exact h
              · have h := h.2 (Int.not_lt.1 (of_decide_eq_false c96))
                refine bif_of (fun c107 => ?_) (fun c107 => ?_)
                · have h := h.1 (of_decide_eq_true c107)
                  refine bif_of (fun c108 => ?_) (fun c108 => ?_)
                  · have h := h.1 (beq_t c108)
                    refine ⟨Writer76, Index77, Prev78, AtT79, AtW80, Epoch81, Body82a, Body82n, Body82c, Sig83, ⟨hb2.celli 0 rfl rfl, hb2.celli 1 rfl rfl, hb2.celli 2 rfl rfl, hb2.celli 3 rfl rfl, hb2.celli 4 rfl rfl, hb2.celli 5 rfl rfl, hb2.celli 6 rfl rfl, hb2.celli 7 rfl rfl, trivial⟩, ?_⟩
                    have h := h ww95 hx95
                    refine h.mono fun ee111 ww112 h => ?_
                    obtain ⟨same110, he, h⟩ := h
                    refine ⟨same110, he, ?_⟩
                    refine bif_of (fun c113 => ?_) (fun c113 => ?_)
                    · have h := h.1 c113
                      refine h.mono fun ee115 ww116 h => ?_
                      obtain ⟨alive114, he, h⟩ := h
                      refine ⟨alive114, he, ?_⟩
                      exact h
                    · have h := h.2 c113
                      exact h
                  · have h := h.2 (beq_f c108)
                    have h := h ww95 hx95
                    exact h
                · have h := h.2 (Int.not_le.1 (of_decide_eq_false c107))
                  have h := h ww95 (ww86.heap.size) hx95 (Priv.cons hg2 hb2.lt Priv.nil)
                  refine h.mono fun ee128 ww129 h => ?_
                  obtain ⟨Writer119, Index120, Prev121, AtT122, AtW123, Epoch124, Body125a, Body125n, Body125c, Sig126, atv127, he, hk, h⟩ := h
                  refine ⟨Writer119, Index120, Prev121, AtT122, AtW123, Epoch124, Body125a, Body125n, Body125c, Sig126, atv127, he, ?_⟩
                  have hb2 := hk.blk hb2 (by simp)
                  refine thenW_in fun ww130 e130 => ?_
                  have hb3 := Blk.of_new e130
                  have hg3 := ((Ext.refl no ww129)).size
                  have hb2_3 := Nat.ne_of_lt hb2.lt
                  have hb2 := hb2.x_alloc e130
                  have hx130 := (Ext.refl no ww129).x_alloc e130
                  refine ⟨hb3.cani 0 rfl rfl, thenW_in fun ww131 e131 => ?_⟩
                  have hx131 := hx130.x_set (q := ww129.heap.size) (i := 0) rfl (.inr hg3) e131
                  have hb2 := hb2.oth (q := ww129.heap.size) (i := 0) rfl hb2_3 e131
                  have hb3 : Blk ww131 ww129.heap.size 39 [.int .i64 Writer119, .int .i64 0, .int .u64 0, .int .i64 0, .int .i64 0, .int .i64 0, .slice none 0 0, .int .u64 0] := hb3.seti 0 rfl e131
                  refine ⟨hb3.cani 1 rfl rfl, thenW_in fun ww132 e132 => ?_⟩
                  have hx132 := hx131.x_set (q := ww129.heap.size) (i := 1) rfl (.inr hg3) e132
                  have hb2 := hb2.oth (q := ww129.heap.size) (i := 1) rfl hb2_3 e132
                  have hb3 : Blk ww132 ww129.heap.size 39 [.int .i64 Writer119, .int .i64 Index120, .int .u64 0, .int .i64 0, .int .i64 0, .int .i64 0, .slice none 0 0, .int .u64 0] := hb3.seti 1 rfl e132
                  refine ⟨hb3.cani 2 rfl rfl, thenW_in fun ww133 e133 => ?_⟩
                  have hx133 := hx132.x_set (q := ww129.heap.size) (i := 2) rfl (.inr hg3) e133
                  have hb2 := hb2.oth (q := ww129.heap.size) (i := 2) rfl hb2_3 e133
                  have hb3 : Blk ww133 ww129.heap.size 39 [.int .i64 Writer119, .int .i64 Index120, .int .u64 Prev121, .int .i64 0, .int .i64 0, .int .i64 0, .slice none 0 0, .int .u64 0] := hb3.seti 2 rfl e133
                  refine ⟨hb3.cani 3 rfl rfl, thenW_in fun ww134 e134 => ?_⟩
                  have hx134 := hx133.x_set (q := ww129.heap.size) (i := 3) rfl (.inr hg3) e134
                  have hb2 := hb2.oth (q := ww129.heap.size) (i := 3) rfl hb2_3 e134
                  have hb3 : Blk ww134 ww129.heap.size 39 [.int .i64 Writer119, .int .i64 Index120, .int .u64 Prev121, .int .i64 AtT122, .int .i64 0, .int .i64 0, .slice none 0 0, .int .u64 0] := hb3.seti 3 rfl e134
                  refine ⟨hb3.cani 4 rfl rfl, thenW_in fun ww135 e135 => ?_⟩
                  have hx135 := hx134.x_set (q := ww129.heap.size) (i := 4) rfl (.inr hg3) e135
                  have hb2 := hb2.oth (q := ww129.heap.size) (i := 4) rfl hb2_3 e135
                  have hb3 : Blk ww135 ww129.heap.size 39 [.int .i64 Writer119, .int .i64 Index120, .int .u64 Prev121, .int .i64 AtT122, .int .i64 AtW123, .int .i64 0, .slice none 0 0, .int .u64 0] := hb3.seti 4 rfl e135
                  refine ⟨hb3.cani 5 rfl rfl, thenW_in fun ww136 e136 => ?_⟩
                  have hx136 := hx135.x_set (q := ww129.heap.size) (i := 5) rfl (.inr hg3) e136
                  have hb2 := hb2.oth (q := ww129.heap.size) (i := 5) rfl hb2_3 e136
                  have hb3 : Blk ww136 ww129.heap.size 39 [.int .i64 Writer119, .int .i64 Index120, .int .u64 Prev121, .int .i64 AtT122, .int .i64 AtW123, .int .i64 Epoch124, .slice none 0 0, .int .u64 0] := hb3.seti 5 rfl e136
                  refine ⟨hb3.cani 6 rfl rfl, thenW_in fun ww137 e137 => ?_⟩
                  have hx137 := hx136.x_set (q := ww129.heap.size) (i := 6) rfl (.inr hg3) e137
                  have hb2 := hb2.oth (q := ww129.heap.size) (i := 6) rfl hb2_3 e137
                  have hb3 : Blk ww137 ww129.heap.size 39 [.int .i64 Writer119, .int .i64 Index120, .int .u64 Prev121, .int .i64 AtT122, .int .i64 AtW123, .int .i64 Epoch124, .slice Body125a Body125n Body125c, .int .u64 0] := hb3.seti 6 rfl e137
                  refine ⟨hb3.cani 7 rfl rfl, thenW_in fun ww138 e138 => ?_⟩
                  have hx138 := hx137.x_set (q := ww129.heap.size) (i := 7) rfl (.inr hg3) e138
                  have hb2 := hb2.oth (q := ww129.heap.size) (i := 7) rfl hb2_3 e138
                  have hb3 : Blk ww138 ww129.heap.size 39 [.int .i64 Writer119, .int .i64 Index120, .int .u64 Prev121, .int .i64 AtT122, .int .i64 AtW123, .int .i64 Epoch124, .slice Body125a Body125n Body125c, .int .u64 Sig126] := hb3.seti 7 rfl e138
                  have h := h ww138 hx138
                  refine h.mono fun ee149 ww150 h => ?_
                  obtain ⟨Writer140, Index141, Prev142, AtT143, AtW144, Epoch145, Body146a, Body146n, Body146c, Sig147, issue148, he, hk, h⟩ := h
                  refine ⟨Writer140, Index141, Prev142, AtT143, AtW144, Epoch145, Body146a, Body146n, Body146c, Sig147, issue148, he, ?_⟩
                  have hb2 := hk.blk hb2 (by simp)
                  refine thenW_in fun ww151 e151 => ?_
                  have hb4 := Blk.of_new e151
                  have hg4 := ((Ext.refl no ww150)).size
                  have hb2_4 := Nat.ne_of_lt hb2.lt
                  have hb2 := hb2.x_alloc e151
                  have hx151 := (Ext.refl no ww150).x_alloc e151
                  refine ⟨hb4.cani 0 rfl rfl, thenW_in fun ww152 e152 => ?_⟩
                  have hx152 := hx151.x_set (q := ww150.heap.size) (i := 0) rfl (.inr hg4) e152
                  have hb2 := hb2.oth (q := ww150.heap.size) (i := 0) rfl hb2_4 e152
                  have hb4 : Blk ww152 ww150.heap.size 39 [.int .i64 Writer140, .int .i64 0, .int .u64 0, .int .i64 0, .int .i64 0, .int .i64 0, .slice none 0 0, .int .u64 0] := hb4.seti 0 rfl e152
                  refine ⟨hb4.cani 1 rfl rfl, thenW_in fun ww153 e153 => ?_⟩
                  have hx153 := hx152.x_set (q := ww150.heap.size) (i := 1) rfl (.inr hg4) e153
                  have hb2 := hb2.oth (q := ww150.heap.size) (i := 1) rfl hb2_4 e153
                  have hb4 : Blk ww153 ww150.heap.size 39 [.int .i64 Writer140, .int .i64 Index141, .int .u64 0, .int .i64 0, .int .i64 0, .int .i64 0, .slice none 0 0, .int .u64 0] := hb4.seti 1 rfl e153
                  refine ⟨hb4.cani 2 rfl rfl, thenW_in fun ww154 e154 => ?_⟩
                  have hx154 := hx153.x_set (q := ww150.heap.size) (i := 2) rfl (.inr hg4) e154
                  have hb2 := hb2.oth (q := ww150.heap.size) (i := 2) rfl hb2_4 e154
                  have hb4 : Blk ww154 ww150.heap.size 39 [.int .i64 Writer140, .int .i64 Index141, .int .u64 Prev142, .int .i64 0, .int .i64 0, .int .i64 0, .slice none 0 0, .int .u64 0] := hb4.seti 2 rfl e154
                  refine ⟨hb4.cani 3 rfl rfl, thenW_in fun ww155 e155 => ?_⟩
                  have hx155 := hx154.x_set (q := ww150.heap.size) (i := 3) rfl (.inr hg4) e155
                  have hb2 := hb2.oth (q := ww150.heap.size) (i := 3) rfl hb2_4 e155
                  have hb4 : Blk ww155 ww150.heap.size 39 [.int .i64 Writer140, .int .i64 Index141, .int .u64 Prev142, .int .i64 AtT143, .int .i64 0, .int .i64 0, .slice none 0 0, .int .u64 0] := hb4.seti 3 rfl e155
                  refine ⟨hb4.cani 4 rfl rfl, thenW_in fun ww156 e156 => ?_⟩
                  have hx156 := hx155.x_set (q := ww150.heap.size) (i := 4) rfl (.inr hg4) e156
                  have hb2 := hb2.oth (q := ww150.heap.size) (i := 4) rfl hb2_4 e156
                  have hb4 : Blk ww156 ww150.heap.size 39 [.int .i64 Writer140, .int .i64 Index141, .int .u64 Prev142, .int .i64 AtT143, .int .i64 AtW144, .int .i64 0, .slice none 0 0, .int .u64 0] := hb4.seti 4 rfl e156
                  refine ⟨hb4.cani 5 rfl rfl, thenW_in fun ww157 e157 => ?_⟩
                  have hx157 := hx156.x_set (q := ww150.heap.size) (i := 5) rfl (.inr hg4) e157
                  have hb2 := hb2.oth (q := ww150.heap.size) (i := 5) rfl hb2_4 e157
                  have hb4 : Blk ww157 ww150.heap.size 39 [.int .i64 Writer140, .int .i64 Index141, .int .u64 Prev142, .int .i64 AtT143, .int .i64 AtW144, .int .i64 Epoch145, .slice none 0 0, .int .u64 0] := hb4.seti 5 rfl e157
                  refine ⟨hb4.cani 6 rfl rfl, thenW_in fun ww158 e158 => ?_⟩
                  have hx158 := hx157.x_set (q := ww150.heap.size) (i := 6) rfl (.inr hg4) e158
                  have hb2 := hb2.oth (q := ww150.heap.size) (i := 6) rfl hb2_4 e158
                  have hb4 : Blk ww158 ww150.heap.size 39 [.int .i64 Writer140, .int .i64 Index141, .int .u64 Prev142, .int .i64 AtT143, .int .i64 AtW144, .int .i64 Epoch145, .slice Body146a Body146n Body146c, .int .u64 0] := hb4.seti 6 rfl e158
                  refine ⟨hb4.cani 7 rfl rfl, thenW_in fun ww159 e159 => ?_⟩
                  have hx159 := hx158.x_set (q := ww150.heap.size) (i := 7) rfl (.inr hg4) e159
                  have hb2 := hb2.oth (q := ww150.heap.size) (i := 7) rfl hb2_4 e159
                  have hb4 : Blk ww159 ww150.heap.size 39 [.int .i64 Writer140, .int .i64 Index141, .int .u64 Prev142, .int .i64 AtT143, .int .i64 AtW144, .int .i64 Epoch145, .slice Body146a Body146n Body146c, .int .u64 Sig147] := hb4.seti 7 rfl e159
                  refine ⟨Writer76, Index77, Prev78, AtT79, AtW80, Epoch81, Body82a, Body82n, Body82c, Sig83, ⟨hb2.celli 0 rfl rfl, hb2.celli 1 rfl rfl, hb2.celli 2 rfl rfl, hb2.celli 3 rfl rfl, hb2.celli 4 rfl rfl, hb2.celli 5 rfl rfl, hb2.celli 6 rfl rfl, hb2.celli 7 rfl rfl, trivial⟩, ?_⟩
                  have h := h ww159 hx159
                  refine h.mono fun ee178 ww179 h => ?_
                  obtain ⟨Writer161, Index162, Prev163, AtT164, AtW165, Epoch166, Body167a, Body167n, Body167c, Sig168, Writer169, Index170, Prev171, AtT172, AtW173, Epoch174, Body175a, Body175n, Body175c, Sig176, odds177, he, hk, h⟩ := h
                  refine ⟨Writer161, Index162, Prev163, AtT164, AtW165, Epoch166, Body167a, Body167n, Body167c, Sig168, Writer169, Index170, Prev171, AtT172, AtW173, Epoch174, Body175a, Body175n, Body175c, Sig176, odds177, he, ?_⟩
                  have hb2 := hk.blk hb2 (by simp)
                  refine thenW_in fun ww180 e180 => ?_
                  have hb5 := Blk.of_new e180
                  have hg5 := ((Ext.refl no ww179)).size
                  have hb2_5 := Nat.ne_of_lt hb2.lt
                  have hb2 := hb2.x_alloc e180
                  have hx180 := (Ext.refl no ww179).x_alloc e180
                  refine thenW_in fun ww181 e181 => ?_
                  have hb6 := Blk.of_new e181
                  have hg6 := (hx180).size
                  have hb2_6 := Nat.ne_of_lt hb2.lt
                  have hb2 := hb2.x_alloc e181
                  have hb5_6 := Nat.ne_of_lt hb5.lt
                  have hb5 := hb5.x_alloc e181
                  have hx181 := hx180.x_alloc e181
                  refine ⟨hb5.cani 0 rfl rfl, thenW_in fun ww182 e182 => ?_⟩
                  have hx182 := hx181.x_set (q := ww179.heap.size) (i := 0) rfl (.inr hg5) e182
                  have hb2 := hb2.oth (q := ww179.heap.size) (i := 0) rfl hb2_5 e182
                  have hb6 := hb6.oth (q := ww179.heap.size) (i := 0) rfl (Ne.symm hb5_6) e182
                  have hb5 : Blk ww182 ww179.heap.size 39 [.int .i64 Writer161, .int .i64 0, .int .u64 0, .int .i64 0, .int .i64 0, .int .i64 0, .slice none 0 0, .int .u64 0] := hb5.seti 0 rfl e182
                  refine ⟨hb5.cani 1 rfl rfl, thenW_in fun ww183 e183 => ?_⟩
                  have hx183 := hx182.x_set (q := ww179.heap.size) (i := 1) rfl (.inr hg5) e183
                  have hb2 := hb2.oth (q := ww179.heap.size) (i := 1) rfl hb2_5 e183
                  have hb6 := hb6.oth (q := ww179.heap.size) (i := 1) rfl (Ne.symm hb5_6) e183
                  have hb5 : Blk ww183 ww179.heap.size 39 [.int .i64 Writer161, .int .i64 Index162, .int .u64 0, .int .i64 0, .int .i64 0, .int .i64 0, .slice none 0 0, .int .u64 0] := hb5.seti 1 rfl e183
                  refine ⟨hb5.cani 2 rfl rfl, thenW_in fun ww184 e184 => ?_⟩
                  have hx184 := hx183.x_set (q := ww179.heap.size) (i := 2) rfl (.inr hg5) e184
                  have hb2 := hb2.oth (q := ww179.heap.size) (i := 2) rfl hb2_5 e184
                  have hb6 := hb6.oth (q := ww179.heap.size) (i := 2) rfl (Ne.symm hb5_6) e184
                  have hb5 : Blk ww184 ww179.heap.size 39 [.int .i64 Writer161, .int .i64 Index162, .int .u64 Prev163, .int .i64 0, .int .i64 0, .int .i64 0, .slice none 0 0, .int .u64 0] := hb5.seti 2 rfl e184
                  refine ⟨hb5.cani 3 rfl rfl, thenW_in fun ww185 e185 => ?_⟩
                  have hx185 := hx184.x_set (q := ww179.heap.size) (i := 3) rfl (.inr hg5) e185
                  have hb2 := hb2.oth (q := ww179.heap.size) (i := 3) rfl hb2_5 e185
                  have hb6 := hb6.oth (q := ww179.heap.size) (i := 3) rfl (Ne.symm hb5_6) e185
                  have hb5 : Blk ww185 ww179.heap.size 39 [.int .i64 Writer161, .int .i64 Index162, .int .u64 Prev163, .int .i64 AtT164, .int .i64 0, .int .i64 0, .slice none 0 0, .int .u64 0] := hb5.seti 3 rfl e185
                  refine ⟨hb5.cani 4 rfl rfl, thenW_in fun ww186 e186 => ?_⟩
                  have hx186 := hx185.x_set (q := ww179.heap.size) (i := 4) rfl (.inr hg5) e186
                  have hb2 := hb2.oth (q := ww179.heap.size) (i := 4) rfl hb2_5 e186
                  have hb6 := hb6.oth (q := ww179.heap.size) (i := 4) rfl (Ne.symm hb5_6) e186
                  have hb5 : Blk ww186 ww179.heap.size 39 [.int .i64 Writer161, .int .i64 Index162, .int .u64 Prev163, .int .i64 AtT164, .int .i64 AtW165, .int .i64 0, .slice none 0 0, .int .u64 0] := hb5.seti 4 rfl e186
                  refine ⟨hb5.cani 5 rfl rfl, thenW_in fun ww187 e187 => ?_⟩
                  have hx187 := hx186.x_set (q := ww179.heap.size) (i := 5) rfl (.inr hg5) e187
                  have hb2 := hb2.oth (q := ww179.heap.size) (i := 5) rfl hb2_5 e187
                  have hb6 := hb6.oth (q := ww179.heap.size) (i := 5) rfl (Ne.symm hb5_6) e187
                  have hb5 : Blk ww187 ww179.heap.size 39 [.int .i64 Writer161, .int .i64 Index162, .int .u64 Prev163, .int .i64 AtT164, .int .i64 AtW165, .int .i64 Epoch166, .slice none 0 0, .int .u64 0] := hb5.seti 5 rfl e187
                  refine ⟨hb5.cani 6 rfl rfl, thenW_in fun ww188 e188 => ?_⟩
                  have hx188 := hx187.x_set (q := ww179.heap.size) (i := 6) rfl (.inr hg5) e188
                  have hb2 := hb2.oth (q := ww179.heap.size) (i := 6) rfl hb2_5 e188
                  have hb6 := hb6.oth (q := ww179.heap.size) (i := 6) rfl (Ne.symm hb5_6) e188
                  have hb5 : Blk ww188 ww179.heap.size 39 [.int .i64 Writer161, .int .i64 Index162, .int .u64 Prev163, .int .i64 AtT164, .int .i64 AtW165, .int .i64 Epoch166, .slice Body167a Body167n Body167c, .int .u64 0] := hb5.seti 6 rfl e188
                  refine ⟨hb5.cani 7 rfl rfl, thenW_in fun ww189 e189 => ?_⟩
                  have hx189 := hx188.x_set (q := ww179.heap.size) (i := 7) rfl (.inr hg5) e189
                  have hb2 := hb2.oth (q := ww179.heap.size) (i := 7) rfl hb2_5 e189
                  have hb6 := hb6.oth (q := ww179.heap.size) (i := 7) rfl (Ne.symm hb5_6) e189
                  have hb5 : Blk ww189 ww179.heap.size 39 [.int .i64 Writer161, .int .i64 Index162, .int .u64 Prev163, .int .i64 AtT164, .int .i64 AtW165, .int .i64 Epoch166, .slice Body167a Body167n Body167c, .int .u64 Sig168] := hb5.seti 7 rfl e189
                  refine ⟨hb6.cani 0 rfl rfl, thenW_in fun ww190 e190 => ?_⟩
                  have hx190 := hx189.x_set (q := ww180.heap.size) (i := 0) rfl (.inr hg6) e190
                  have hb2 := hb2.oth (q := ww180.heap.size) (i := 0) rfl hb2_6 e190
                  have hb6 : Blk ww190 ww180.heap.size 39 [.int .i64 Writer169, .int .i64 0, .int .u64 0, .int .i64 0, .int .i64 0, .int .i64 0, .slice none 0 0, .int .u64 0] := hb6.seti 0 rfl e190
                  refine ⟨hb6.cani 1 rfl rfl, thenW_in fun ww191 e191 => ?_⟩
                  have hx191 := hx190.x_set (q := ww180.heap.size) (i := 1) rfl (.inr hg6) e191
                  have hb2 := hb2.oth (q := ww180.heap.size) (i := 1) rfl hb2_6 e191
                  have hb6 : Blk ww191 ww180.heap.size 39 [.int .i64 Writer169, .int .i64 Index170, .int .u64 0, .int .i64 0, .int .i64 0, .int .i64 0, .slice none 0 0, .int .u64 0] := hb6.seti 1 rfl e191
                  refine ⟨hb6.cani 2 rfl rfl, thenW_in fun ww192 e192 => ?_⟩
                  have hx192 := hx191.x_set (q := ww180.heap.size) (i := 2) rfl (.inr hg6) e192
                  have hb2 := hb2.oth (q := ww180.heap.size) (i := 2) rfl hb2_6 e192
                  have hb6 : Blk ww192 ww180.heap.size 39 [.int .i64 Writer169, .int .i64 Index170, .int .u64 Prev171, .int .i64 0, .int .i64 0, .int .i64 0, .slice none 0 0, .int .u64 0] := hb6.seti 2 rfl e192
                  refine ⟨hb6.cani 3 rfl rfl, thenW_in fun ww193 e193 => ?_⟩
                  have hx193 := hx192.x_set (q := ww180.heap.size) (i := 3) rfl (.inr hg6) e193
                  have hb2 := hb2.oth (q := ww180.heap.size) (i := 3) rfl hb2_6 e193
                  have hb6 : Blk ww193 ww180.heap.size 39 [.int .i64 Writer169, .int .i64 Index170, .int .u64 Prev171, .int .i64 AtT172, .int .i64 0, .int .i64 0, .slice none 0 0, .int .u64 0] := hb6.seti 3 rfl e193
                  refine ⟨hb6.cani 4 rfl rfl, thenW_in fun ww194 e194 => ?_⟩
                  have hx194 := hx193.x_set (q := ww180.heap.size) (i := 4) rfl (.inr hg6) e194
                  have hb2 := hb2.oth (q := ww180.heap.size) (i := 4) rfl hb2_6 e194
                  have hb6 : Blk ww194 ww180.heap.size 39 [.int .i64 Writer169, .int .i64 Index170, .int .u64 Prev171, .int .i64 AtT172, .int .i64 AtW173, .int .i64 0, .slice none 0 0, .int .u64 0] := hb6.seti 4 rfl e194
                  refine ⟨hb6.cani 5 rfl rfl, thenW_in fun ww195 e195 => ?_⟩
                  have hx195 := hx194.x_set (q := ww180.heap.size) (i := 5) rfl (.inr hg6) e195
                  have hb2 := hb2.oth (q := ww180.heap.size) (i := 5) rfl hb2_6 e195
                  have hb6 : Blk ww195 ww180.heap.size 39 [.int .i64 Writer169, .int .i64 Index170, .int .u64 Prev171, .int .i64 AtT172, .int .i64 AtW173, .int .i64 Epoch174, .slice none 0 0, .int .u64 0] := hb6.seti 5 rfl e195
                  refine ⟨hb6.cani 6 rfl rfl, thenW_in fun ww196 e196 => ?_⟩
                  have hx196 := hx195.x_set (q := ww180.heap.size) (i := 6) rfl (.inr hg6) e196
                  have hb2 := hb2.oth (q := ww180.heap.size) (i := 6) rfl hb2_6 e196
                  have hb6 : Blk ww196 ww180.heap.size 39 [.int .i64 Writer169, .int .i64 Index170, .int .u64 Prev171, .int .i64 AtT172, .int .i64 AtW173, .int .i64 Epoch174, .slice Body175a Body175n Body175c, .int .u64 0] := hb6.seti 6 rfl e196
                  refine ⟨hb6.cani 7 rfl rfl, thenW_in fun ww197 e197 => ?_⟩
                  have hx197 := hx196.x_set (q := ww180.heap.size) (i := 7) rfl (.inr hg6) e197
                  have hb2 := hb2.oth (q := ww180.heap.size) (i := 7) rfl hb2_6 e197
                  have hb6 : Blk ww197 ww180.heap.size 39 [.int .i64 Writer169, .int .i64 Index170, .int .u64 Prev171, .int .i64 AtT172, .int .i64 AtW173, .int .i64 Epoch174, .slice Body175a Body175n Body175c, .int .u64 Sig176] := hb6.seti 7 rfl e197
                  refine thenW_in fun ww198 e198 => ?_
                  have hx198 := hx197.x_drew e198
                  have hb2 := hb2.x_drew e198
                  refine bif_of (fun c199 => ?_) (fun c199 => ?_)
                  · have h := h.1 (beq_t c199)
                    refine ⟨Writer76, Index77, Prev78, AtT79, AtW80, Epoch81, Body82a, Body82n, Body82c, Sig83, ⟨hb2.celli 0 rfl rfl, hb2.celli 1 rfl rfl, hb2.celli 2 rfl rfl, hb2.celli 3 rfl rfl, hb2.celli 4 rfl rfl, hb2.celli 5 rfl rfl, hb2.celli 6 rfl rfl, hb2.celli 7 rfl rfl, trivial⟩, ?_⟩
                    obtain ⟨a200, ha200, h⟩ := h
                    refine elim_some ha200 ?_
                    obtain ⟨hq1, hq2, h⟩ := h
                    refine ⟨hq1, hq2, ?_⟩
                    obtain ⟨xWriter202, xIndex203, xPrev204, xAtT205, xAtW206, xEpoch207, xBody208a, xBody208n, xBody208c, xSig209, hc201, h⟩ := h
                    refine ⟨xWriter202, xIndex203, xPrev204, xAtT205, xAtW206, xEpoch207, xBody208a, xBody208n, xBody208c, xSig209, cellsAt_no (hx198) hc201, ?_⟩
                    have h := h ww198 hx198
                    refine h.mono fun ee213 ww214 h => ?_
                    obtain ⟨same212, he, hk, h⟩ := h
                    refine ⟨same212, he, ?_⟩
                    have hb2 := hk.blk hb2 (by simp)
                    refine bif_of (fun c215 => ?_) (fun c215 => ?_)
                    · have h := h.1 c215
                      refine h.mono fun ee217 ww218 h => ?_
                      obtain ⟨writer216, he, hk, h⟩ := h
                      refine ⟨writer216, he, ?_⟩
                      have hb2 := hk.blk hb2 (by simp)
                      refine bif_of (fun c219 => ?_) (fun c219 => ?_)
                      · have h := h.1 (beq_t c219)
                        refine h.mono fun ee221 ww222 h => ?_
                        obtain ⟨len220, he, hk, h⟩ := h
                        refine ⟨len220, he, ?_⟩
                        have hb2 := hk.blk hb2 (by simp)
                        refine bif_of (fun c223 => ?_) (fun c223 => ?_)
                        · have h := h.1 (beq_t c223)
                          refine h.mono fun ee227 ww228 h => ?_
                          obtain ⟨Writer224, Len225, Sum226, he, hk, h⟩ := h
                          refine ⟨Writer224, Len225, Sum226, he, ?_⟩
                          have hb2 := hk.blk hb2 (by simp)
                          refine ⟨_, eqT46_eq Writer224 Len225 Sum226 0 0 0 _, ?_⟩
                          refine bif_of (fun c229 => ?_) (fun c229 => ?_)
                          · have h := h.1 (of_decide_eq_true c229)
                            refine bif_of (fun c230 => ?_) (fun c230 => ?_)
                            · have h := h.1 (beq_t c230)
                              refine bif_of (fun c231 => ?_) (fun c231 => ?_)
                              · have h := h.1 (beq_t c231)
                                refine ⟨Writer76, Index77, Prev78, AtT79, AtW80, Epoch81, Body82a, Body82n, Body82c, Sig83, ⟨hb2.celli 0 rfl rfl, hb2.celli 1 rfl rfl, hb2.celli 2 rfl rfl, hb2.celli 3 rfl rfl, hb2.celli 4 rfl rfl, hb2.celli 5 rfl rfl, hb2.celli 6 rfl rfl, hb2.celli 7 rfl rfl, trivial⟩, ?_⟩
                                refine h.mono fun ee233 ww234 h => ?_
                                obtain ⟨check232, he, hk, h⟩ := h
                                refine ⟨check232, he, ?_⟩
                                have hb2 := hk.blk hb2 (by simp)
                                refine bif_of (fun c235 => ?_) (fun c235 => ?_)
                                · have h := h.1 (beq_t c235)
                                  refine ⟨Writer76, Index77, Prev78, AtT79, AtW80, Epoch81, Body82a, Body82n, Body82c, Sig83, ⟨hb2.celli 0 rfl rfl, hb2.celli 1 rfl rfl, hb2.celli 2 rfl rfl, hb2.celli 3 rfl rfl, hb2.celli 4 rfl rfl, hb2.celli 5 rfl rfl, hb2.celli 6 rfl rfl, hb2.celli 7 rfl rfl, trivial⟩, ?_⟩
                                  refine h.mono fun ee237 ww238 h => ?_
                                  obtain ⟨accept236, he, h⟩ := h
                                  refine ⟨accept236, he, ?_⟩
                                  refine bif_of (fun c239 => ?_) (fun c239 => ?_)
                                  · have h := h.1 (beq_t c239)
                                    refine bif_of (fun c240 => ?_) (fun c240 => ?_)
                                    · have h := h.1 (not_t c240)
                                      refine h.mono fun ee242 ww243 h => ?_
                                      obtain ⟨alive241, he, h⟩ := h
                                      refine ⟨alive241, he, ?_⟩
                                      exact h
                                    · have h := h.2 (not_f c240)
                                      exact h
                                  · have h := h.2 (beq_f c239)
                                    exact h
                                · have h := h.2 (beq_f c235)
                                  exact h
                              · have h := h.2 (beq_f c231)
                                exact h
                            · have h := h.2 (beq_f c230)
                              exact h
                          · have h := h.2 (of_decide_eq_false c229)
                            exact h
                        · have h := h.2 (beq_f c223)
                          exact h
                      · have h := h.2 (beq_f c219)
                        exact h
                    · have h := h.2 c215
                      exact h
                  · have h := h.2 (beq_f c199)
                    have h := h ww198 hx198
                    exact h
      · have h := h.2 (Int.not_le.1 (of_decide_eq_false c30))
        refine bif_of (fun c246 => ?_) (fun c246 => ?_)
        · have h := h.1 (bbeq_f (not_t c246))
          exact h
        · have h := h.2 (bbeq_t (not_f c246))
          refine bif_of (fun c247 => ?_) (fun c247 => ?_)
          · have h := h.1 (bne_t c247)
            exact h
          · have h := h.2 (bne_f c247)
            obtain ⟨I0, m250, h0, h⟩ := h
            refine ⟨I0, m250, h0, fun m251 ww252 all248a all248n all248c n249 hI => ?_⟩
            have h := h m251 ww252 all248a all248n all248c n249 hI
            refine bif_of (fun c253 => ?_) (fun c253 => ?_)
            · have h := h.1 (of_decide_eq_true c253)
              refine thenW_in fun ww254 e254 => ?_
              have hx254 := (Ext.refl no ww252).x_drew e254
              obtain ⟨a255, ha255, h⟩ := h
              refine elim_some ha255 ?_
              obtain ⟨hq1, hq2, h⟩ := h
              refine ⟨hq1, hq2, ?_⟩
              obtain ⟨T257, hc256, h⟩ := h
              refine ⟨T257, (hx254).cell hc256 id, ?_⟩
              refine elim_some ha255 ?_
              obtain ⟨hq1, hq2, h⟩ := h
              refine ⟨hq1, hq2, ?_⟩
              obtain ⟨Epoch259, hc258, h⟩ := h
              refine ⟨Epoch259, (hx254).cell hc258 id, ?_⟩
              refine elim_some ha255 ?_
              obtain ⟨hq1, hq2, h⟩ := h
              refine ⟨hq1, hq2, ?_⟩
              obtain ⟨Body261a, Body261n, Body261c, hc260, h⟩ := h
              refine ⟨Body261a, Body261n, Body261c, (hx254).cell hc260 id, ?_⟩
              obtain ⟨h0', h1'⟩ := h
              refine ⟨?_, ?_⟩
              · have h := h0'
                have h := h ww254 hx254
                refine h.mono fun ee271 ww272 h => ?_
                obtain ⟨Writer262, Index263, Prev264, AtT265, AtW266, Epoch267, Body268a, Body268n, Body268c, Sig269, issue270, he, h⟩ := h
                refine ⟨Writer262, Index263, Prev264, AtT265, AtW266, Epoch267, Body268a, Body268n, Body268c, Sig269, issue270, he, ?_⟩
                refine thenW_in fun ww273 e273 => ?_
                have hb7 := Blk.of_new e273
                have hg7 := ((Ext.refl no ww272)).size
                have hx273 := (Ext.refl no ww272).x_alloc e273
                refine ⟨hb7.cani 0 rfl rfl, thenW_in fun ww274 e274 => ?_⟩
                have hx274 := hx273.x_set (q := ww272.heap.size) (i := 0) rfl (.inr hg7) e274
                have hb7 : Blk ww274 ww272.heap.size 39 [.int .i64 Writer262, .int .i64 0, .int .u64 0, .int .i64 0, .int .i64 0, .int .i64 0, .slice none 0 0, .int .u64 0] := hb7.seti 0 rfl e274
                refine ⟨hb7.cani 1 rfl rfl, thenW_in fun ww275 e275 => ?_⟩
                have hx275 := hx274.x_set (q := ww272.heap.size) (i := 1) rfl (.inr hg7) e275
                have hb7 : Blk ww275 ww272.heap.size 39 [.int .i64 Writer262, .int .i64 Index263, .int .u64 0, .int .i64 0, .int .i64 0, .int .i64 0, .slice none 0 0, .int .u64 0] := hb7.seti 1 rfl e275
                refine ⟨hb7.cani 2 rfl rfl, thenW_in fun ww276 e276 => ?_⟩
                have hx276 := hx275.x_set (q := ww272.heap.size) (i := 2) rfl (.inr hg7) e276
                have hb7 : Blk ww276 ww272.heap.size 39 [.int .i64 Writer262, .int .i64 Index263, .int .u64 Prev264, .int .i64 0, .int .i64 0, .int .i64 0, .slice none 0 0, .int .u64 0] := hb7.seti 2 rfl e276
                refine ⟨hb7.cani 3 rfl rfl, thenW_in fun ww277 e277 => ?_⟩
                have hx277 := hx276.x_set (q := ww272.heap.size) (i := 3) rfl (.inr hg7) e277
                have hb7 : Blk ww277 ww272.heap.size 39 [.int .i64 Writer262, .int .i64 Index263, .int .u64 Prev264, .int .i64 AtT265, .int .i64 0, .int .i64 0, .slice none 0 0, .int .u64 0] := hb7.seti 3 rfl e277
                refine ⟨hb7.cani 4 rfl rfl, thenW_in fun ww278 e278 => ?_⟩
                have hx278 := hx277.x_set (q := ww272.heap.size) (i := 4) rfl (.inr hg7) e278
                have hb7 : Blk ww278 ww272.heap.size 39 [.int .i64 Writer262, .int .i64 Index263, .int .u64 Prev264, .int .i64 AtT265, .int .i64 AtW266, .int .i64 0, .slice none 0 0, .int .u64 0] := hb7.seti 4 rfl e278
                refine ⟨hb7.cani 5 rfl rfl, thenW_in fun ww279 e279 => ?_⟩
                have hx279 := hx278.x_set (q := ww272.heap.size) (i := 5) rfl (.inr hg7) e279
                have hb7 : Blk ww279 ww272.heap.size 39 [.int .i64 Writer262, .int .i64 Index263, .int .u64 Prev264, .int .i64 AtT265, .int .i64 AtW266, .int .i64 Epoch267, .slice none 0 0, .int .u64 0] := hb7.seti 5 rfl e279
                refine ⟨hb7.cani 6 rfl rfl, thenW_in fun ww280 e280 => ?_⟩
                have hx280 := hx279.x_set (q := ww272.heap.size) (i := 6) rfl (.inr hg7) e280
                have hb7 : Blk ww280 ww272.heap.size 39 [.int .i64 Writer262, .int .i64 Index263, .int .u64 Prev264, .int .i64 AtT265, .int .i64 AtW266, .int .i64 Epoch267, .slice Body268a Body268n Body268c, .int .u64 0] := hb7.seti 6 rfl e280
                refine ⟨hb7.cani 7 rfl rfl, thenW_in fun ww281 e281 => ?_⟩
                have hx281 := hx280.x_set (q := ww272.heap.size) (i := 7) rfl (.inr hg7) e281
                have hb7 : Blk ww281 ww272.heap.size 39 [.int .i64 Writer262, .int .i64 Index263, .int .u64 Prev264, .int .i64 AtT265, .int .i64 AtW266, .int .i64 Epoch267, .slice Body268a Body268n Body268c, .int .u64 Sig269] := hb7.seti 7 rfl e281
                refine bif_of (fun c282 => ?_) (fun c282 => ?_)
                · have h := h.1 (beq_t c282)
                  refine ⟨Writer262, Index263, Prev264, AtT265, AtW266, Epoch267, Body268a, Body268n, Body268c, Sig269, ⟨hb7.celli 0 rfl rfl, hb7.celli 1 rfl rfl, hb7.celli 2 rfl rfl, hb7.celli 3 rfl rfl, hb7.celli 4 rfl rfl, hb7.celli 5 rfl rfl, hb7.celli 6 rfl rfl, hb7.celli 7 rfl rfl, trivial⟩, ?_⟩
                  refine thenW_in fun ww283 e283 => ?_
                  have h := h ww283 ww281.heap.size (hx281.x_alloc e283) (Blk.of_new e283) (hx281).size (size_lt_alloc e283)
                  obtain ⟨a286a, a286n, a286c, ww287, hr, h⟩ := h
                  refine ⟨a286a, a286n, a286c, ww287, hr, ?_⟩
                  obtain ⟨hw1, hw2, h⟩ := h
                  try rw [w64 hw1 hw2]
                  obtain ⟨m288, hk, h⟩ := h
                  exact ⟨m288, hk, h⟩
                · have h := h.2 (beq_f c282)
                  obtain ⟨hw1, hw2, h⟩ := h
                  try rw [w64 hw1 hw2]
                  have h := h ww281 hx281
                  obtain ⟨m290, hk, h⟩ := h
                  exact ⟨m290, hk, h⟩
              · have h := h1'
                refine thenW_in fun ww262 e262 => ?_
                have hb7 := Blk.of_new e262
                have hg7 := (hx254).size
                have hx262 := hx254.x_alloc e262
                refine ⟨(hx262).cell hc260 id, (hx262).cell hc258 id, (hx262).cell hc256 id, ?_⟩
                have h := h ww262 (ww254.heap.size) hx262 (Priv.cons hg7 hb7.lt Priv.nil)
                refine h.mono fun ee273 ww274 h => ?_
                obtain ⟨Writer264, Index265, Prev266, AtT267, AtW268, Epoch269, Body270a, Body270n, Body270c, Sig271, issue272, he, hk, h⟩ := h
                refine ⟨Writer264, Index265, Prev266, AtT267, AtW268, Epoch269, Body270a, Body270n, Body270c, Sig271, issue272, he, ?_⟩
                have hb7 := hk.blk hb7 (by simp)
                have hm282 : Ext (fun b => b = ww254.heap.size) ww274 ww274 := ((Ext.refl no ww274)).none
                refine ⟨hb7.cani 0 rfl rfl, thenW_in fun ww275 e275 => ?_⟩
                have hx275 := hm282.x_set (q := ww254.heap.size) (i := 0) rfl (.inl rfl) e275
                have hb7 : Blk ww275 ww254.heap.size 39 [.int .i64 Writer264, .int .i64 0, .int .u64 0, .int .i64 0, .int .i64 0, .int .i64 0, .slice none 0 0, .int .u64 0] := hb7.seti 0 rfl e275
                refine ⟨hb7.cani 1 rfl rfl, thenW_in fun ww276 e276 => ?_⟩
                have hx276 := hx275.x_set (q := ww254.heap.size) (i := 1) rfl (.inl rfl) e276
                have hb7 : Blk ww276 ww254.heap.size 39 [.int .i64 Writer264, .int .i64 Index265, .int .u64 0, .int .i64 0, .int .i64 0, .int .i64 0, .slice none 0 0, .int .u64 0] := hb7.seti 1 rfl e276
                refine ⟨hb7.cani 2 rfl rfl, thenW_in fun ww277 e277 => ?_⟩
                have hx277 := hx276.x_set (q := ww254.heap.size) (i := 2) rfl (.inl rfl) e277
                have hb7 : Blk ww277 ww254.heap.size 39 [.int .i64 Writer264, .int .i64 Index265, .int .u64 Prev266, .int .i64 0, .int .i64 0, .int .i64 0, .slice none 0 0, .int .u64 0] := hb7.seti 2 rfl e277
                refine ⟨hb7.cani 3 rfl rfl, thenW_in fun ww278 e278 => ?_⟩
                have hx278 := hx277.x_set (q := ww254.heap.size) (i := 3) rfl (.inl rfl) e278
                have hb7 : Blk ww278 ww254.heap.size 39 [.int .i64 Writer264, .int .i64 Index265, .int .u64 Prev266, .int .i64 AtT267, .int .i64 0, .int .i64 0, .slice none 0 0, .int .u64 0] := hb7.seti 3 rfl e278
                refine ⟨hb7.cani 4 rfl rfl, thenW_in fun ww279 e279 => ?_⟩
                have hx279 := hx278.x_set (q := ww254.heap.size) (i := 4) rfl (.inl rfl) e279
                have hb7 : Blk ww279 ww254.heap.size 39 [.int .i64 Writer264, .int .i64 Index265, .int .u64 Prev266, .int .i64 AtT267, .int .i64 AtW268, .int .i64 0, .slice none 0 0, .int .u64 0] := hb7.seti 4 rfl e279
                refine ⟨hb7.cani 5 rfl rfl, thenW_in fun ww280 e280 => ?_⟩
                have hx280 := hx279.x_set (q := ww254.heap.size) (i := 5) rfl (.inl rfl) e280
                have hb7 : Blk ww280 ww254.heap.size 39 [.int .i64 Writer264, .int .i64 Index265, .int .u64 Prev266, .int .i64 AtT267, .int .i64 AtW268, .int .i64 Epoch269, .slice none 0 0, .int .u64 0] := hb7.seti 5 rfl e280
                refine ⟨hb7.cani 6 rfl rfl, thenW_in fun ww281 e281 => ?_⟩
                have hx281 := hx280.x_set (q := ww254.heap.size) (i := 6) rfl (.inl rfl) e281
                have hb7 : Blk ww281 ww254.heap.size 39 [.int .i64 Writer264, .int .i64 Index265, .int .u64 Prev266, .int .i64 AtT267, .int .i64 AtW268, .int .i64 Epoch269, .slice Body270a Body270n Body270c, .int .u64 0] := hb7.seti 6 rfl e281
                refine ⟨hb7.cani 7 rfl rfl, thenW_in fun ww282 e282 => ?_⟩
                have hx282 := hx281.x_set (q := ww254.heap.size) (i := 7) rfl (.inl rfl) e282
                have hb7 : Blk ww282 ww254.heap.size 39 [.int .i64 Writer264, .int .i64 Index265, .int .u64 Prev266, .int .i64 AtT267, .int .i64 AtW268, .int .i64 Epoch269, .slice Body270a Body270n Body270c, .int .u64 Sig271] := hb7.seti 7 rfl e282
                refine bif_of (fun c283 => ?_) (fun c283 => ?_)
                · have h := h.1 (beq_t c283)
                  refine ⟨Writer264, Index265, Prev266, AtT267, AtW268, Epoch269, Body270a, Body270n, Body270c, Sig271, ⟨hb7.celli 0 rfl rfl, hb7.celli 1 rfl rfl, hb7.celli 2 rfl rfl, hb7.celli 3 rfl rfl, hb7.celli 4 rfl rfl, hb7.celli 5 rfl rfl, hb7.celli 6 rfl rfl, hb7.celli 7 rfl rfl, trivial⟩, ?_⟩
                  have h := h ww282 hx282
                  refine thenW_in fun ww284 e284 => ?_
                  have h := h ww284 ww282.heap.size ((Ext.refl no ww282).x_alloc e284) (Blk.of_new e284) ((Ext.refl no ww282)).size (size_lt_alloc e284)
                  obtain ⟨a286a, a286n, a286c, ww287, hr, h⟩ := h
                  refine ⟨a286a, a286n, a286c, ww287, hr, ?_⟩
                  obtain ⟨hw1, hw2, h⟩ := h
                  try rw [w64 hw1 hw2]
                  obtain ⟨m288, hk, h⟩ := h
                  exact ⟨m288, hk, h⟩
                · have h := h.2 (beq_f c283)
                  obtain ⟨hw1, hw2, h⟩ := h
                  try rw [w64 hw1 hw2]
                  have h := h ww282 hx282
                  obtain ⟨m289, hk, h⟩ := h
                  exact ⟨m289, hk, h⟩
            · have h := h.2 (Int.not_lt.1 (of_decide_eq_false c253))
              refine h.mono fun ee300 ww301 h => ?_
              obtain ⟨Writer291, Index292, Prev293, AtT294, AtW295, Epoch296, Body297a, Body297n, Body297c, Sig298, atv299, he, h⟩ := h
              refine ⟨Writer291, Index292, Prev293, AtT294, AtW295, Epoch296, Body297a, Body297n, Body297c, Sig298, atv299, he, ?_⟩
              refine thenW_in fun ww302 e302 => ?_
              have hb8 := Blk.of_new e302
              have hg8 := ((Ext.refl no ww301)).size
              have hx302 := (Ext.refl no ww301).x_alloc e302
              refine ⟨hb8.cani 0 rfl rfl, thenW_in fun ww303 e303 => ?_⟩
              have hx303 := hx302.x_set (q := ww301.heap.size) (i := 0) rfl (.inr hg8) e303
              have hb8 : Blk ww303 ww301.heap.size 39 [.int .i64 Writer291, .int .i64 0, .int .u64 0, .int .i64 0, .int .i64 0, .int .i64 0, .slice none 0 0, .int .u64 0] := hb8.seti 0 rfl e303
              refine ⟨hb8.cani 1 rfl rfl, thenW_in fun ww304 e304 => ?_⟩
              have hx304 := hx303.x_set (q := ww301.heap.size) (i := 1) rfl (.inr hg8) e304
              have hb8 : Blk ww304 ww301.heap.size 39 [.int .i64 Writer291, .int .i64 Index292, .int .u64 0, .int .i64 0, .int .i64 0, .int .i64 0, .slice none 0 0, .int .u64 0] := hb8.seti 1 rfl e304
              refine ⟨hb8.cani 2 rfl rfl, thenW_in fun ww305 e305 => ?_⟩
              have hx305 := hx304.x_set (q := ww301.heap.size) (i := 2) rfl (.inr hg8) e305
              have hb8 : Blk ww305 ww301.heap.size 39 [.int .i64 Writer291, .int .i64 Index292, .int .u64 Prev293, .int .i64 0, .int .i64 0, .int .i64 0, .slice none 0 0, .int .u64 0] := hb8.seti 2 rfl e305
              refine ⟨hb8.cani 3 rfl rfl, thenW_in fun ww306 e306 => ?_⟩
              have hx306 := hx305.x_set (q := ww301.heap.size) (i := 3) rfl (.inr hg8) e306
              have hb8 : Blk ww306 ww301.heap.size 39 [.int .i64 Writer291, .int .i64 Index292, .int .u64 Prev293, .int .i64 AtT294, .int .i64 0, .int .i64 0, .slice none 0 0, .int .u64 0] := hb8.seti 3 rfl e306
              refine ⟨hb8.cani 4 rfl rfl, thenW_in fun ww307 e307 => ?_⟩
              have hx307 := hx306.x_set (q := ww301.heap.size) (i := 4) rfl (.inr hg8) e307
              have hb8 : Blk ww307 ww301.heap.size 39 [.int .i64 Writer291, .int .i64 Index292, .int .u64 Prev293, .int .i64 AtT294, .int .i64 AtW295, .int .i64 0, .slice none 0 0, .int .u64 0] := hb8.seti 4 rfl e307
              refine ⟨hb8.cani 5 rfl rfl, thenW_in fun ww308 e308 => ?_⟩
              have hx308 := hx307.x_set (q := ww301.heap.size) (i := 5) rfl (.inr hg8) e308
              have hb8 : Blk ww308 ww301.heap.size 39 [.int .i64 Writer291, .int .i64 Index292, .int .u64 Prev293, .int .i64 AtT294, .int .i64 AtW295, .int .i64 Epoch296, .slice none 0 0, .int .u64 0] := hb8.seti 5 rfl e308
              refine ⟨hb8.cani 6 rfl rfl, thenW_in fun ww309 e309 => ?_⟩
              have hx309 := hx308.x_set (q := ww301.heap.size) (i := 6) rfl (.inr hg8) e309
              have hb8 : Blk ww309 ww301.heap.size 39 [.int .i64 Writer291, .int .i64 Index292, .int .u64 Prev293, .int .i64 AtT294, .int .i64 AtW295, .int .i64 Epoch296, .slice Body297a Body297n Body297c, .int .u64 0] := hb8.seti 6 rfl e309
              refine ⟨hb8.cani 7 rfl rfl, thenW_in fun ww310 e310 => ?_⟩
              have hx310 := hx309.x_set (q := ww301.heap.size) (i := 7) rfl (.inr hg8) e310
              have hb8 : Blk ww310 ww301.heap.size 39 [.int .i64 Writer291, .int .i64 Index292, .int .u64 Prev293, .int .i64 AtT294, .int .i64 AtW295, .int .i64 Epoch296, .slice Body297a Body297n Body297c, .int .u64 Sig298] := hb8.seti 7 rfl e310
              refine bif_of (fun c311 => ?_) (fun c311 => ?_)
              · have h := h.1 (of_decide_eq_true c311)
                refine bif_of (fun c312 => ?_) (fun c312 => ?_)
                · have h := h.1 (beq_t c312)
                  refine ⟨Writer291, Index292, Prev293, AtT294, AtW295, Epoch296, Body297a, Body297n, Body297c, Sig298, ⟨hb8.celli 0 rfl rfl, hb8.celli 1 rfl rfl, hb8.celli 2 rfl rfl, hb8.celli 3 rfl rfl, hb8.celli 4 rfl rfl, hb8.celli 5 rfl rfl, hb8.celli 6 rfl rfl, hb8.celli 7 rfl rfl, trivial⟩, ?_⟩
                  have h := h ww310 hx310
                  refine h.mono fun ee315 ww316 h => ?_
                  obtain ⟨same314, he, h⟩ := h
                  refine ⟨same314, he, ?_⟩
                  refine bif_of (fun c317 => ?_) (fun c317 => ?_)
                  · have h := h.1 c317
                    refine h.mono fun ee319 ww320 h => ?_
                    obtain ⟨alive318, he, h⟩ := h
                    refine ⟨alive318, he, ?_⟩
                    exact h
                  · have h := h.2 c317
                    exact h
                · have h := h.2 (beq_f c312)
                  have h := h ww310 hx310
                  exact h
              · have h := h.2 (Int.not_lt.1 (of_decide_eq_false c311))
                refine bif_of (fun c322 => ?_) (fun c322 => ?_)
                · have h := h.1 (of_decide_eq_true c322)
                  refine bif_of (fun c323 => ?_) (fun c323 => ?_)
                  · have h := h.1 (beq_t c323)
                    refine ⟨Writer291, Index292, Prev293, AtT294, AtW295, Epoch296, Body297a, Body297n, Body297c, Sig298, ⟨hb8.celli 0 rfl rfl, hb8.celli 1 rfl rfl, hb8.celli 2 rfl rfl, hb8.celli 3 rfl rfl, hb8.celli 4 rfl rfl, hb8.celli 5 rfl rfl, hb8.celli 6 rfl rfl, hb8.celli 7 rfl rfl, trivial⟩, ?_⟩
                    have h := h ww310 hx310
                    refine h.mono fun ee326 ww327 h => ?_
                    obtain ⟨same325, he, h⟩ := h
                    refine ⟨same325, he, ?_⟩
                    refine bif_of (fun c328 => ?_) (fun c328 => ?_)
                    · have h := h.1 c328
                      refine h.mono fun ee330 ww331 h => ?_
                      obtain ⟨alive329, he, h⟩ := h
                      refine ⟨alive329, he, ?_⟩
                      exact h
                    · have h := h.2 c328
                      exact h
                  · have h := h.2 (beq_f c323)
                    have h := h ww310 hx310
                    exact h
                · have h := h.2 (Int.not_le.1 (of_decide_eq_false c322))
                  have h := h ww310 (ww301.heap.size) hx310 (Priv.cons hg8 hb8.lt Priv.nil)
                  refine h.mono fun ee343 ww344 h => ?_
                  obtain ⟨Writer334, Index335, Prev336, AtT337, AtW338, Epoch339, Body340a, Body340n, Body340c, Sig341, atv342, he, hk, h⟩ := h
                  refine ⟨Writer334, Index335, Prev336, AtT337, AtW338, Epoch339, Body340a, Body340n, Body340c, Sig341, atv342, he, ?_⟩
                  have hb8 := hk.blk hb8 (by simp)
                  refine thenW_in fun ww345 e345 => ?_
                  have hb9 := Blk.of_new e345
                  have hg9 := ((Ext.refl no ww344)).size
                  have hb8_9 := Nat.ne_of_lt hb8.lt
                  have hb8 := hb8.x_alloc e345
                  have hx345 := (Ext.refl no ww344).x_alloc e345
                  refine ⟨hb9.cani 0 rfl rfl, thenW_in fun ww346 e346 => ?_⟩
                  have hx346 := hx345.x_set (q := ww344.heap.size) (i := 0) rfl (.inr hg9) e346
                  have hb8 := hb8.oth (q := ww344.heap.size) (i := 0) rfl hb8_9 e346
                  have hb9 : Blk ww346 ww344.heap.size 39 [.int .i64 Writer334, .int .i64 0, .int .u64 0, .int .i64 0, .int .i64 0, .int .i64 0, .slice none 0 0, .int .u64 0] := hb9.seti 0 rfl e346
                  refine ⟨hb9.cani 1 rfl rfl, thenW_in fun ww347 e347 => ?_⟩
                  have hx347 := hx346.x_set (q := ww344.heap.size) (i := 1) rfl (.inr hg9) e347
                  have hb8 := hb8.oth (q := ww344.heap.size) (i := 1) rfl hb8_9 e347
                  have hb9 : Blk ww347 ww344.heap.size 39 [.int .i64 Writer334, .int .i64 Index335, .int .u64 0, .int .i64 0, .int .i64 0, .int .i64 0, .slice none 0 0, .int .u64 0] := hb9.seti 1 rfl e347
                  refine ⟨hb9.cani 2 rfl rfl, thenW_in fun ww348 e348 => ?_⟩
                  have hx348 := hx347.x_set (q := ww344.heap.size) (i := 2) rfl (.inr hg9) e348
                  have hb8 := hb8.oth (q := ww344.heap.size) (i := 2) rfl hb8_9 e348
                  have hb9 : Blk ww348 ww344.heap.size 39 [.int .i64 Writer334, .int .i64 Index335, .int .u64 Prev336, .int .i64 0, .int .i64 0, .int .i64 0, .slice none 0 0, .int .u64 0] := hb9.seti 2 rfl e348
                  refine ⟨hb9.cani 3 rfl rfl, thenW_in fun ww349 e349 => ?_⟩
                  have hx349 := hx348.x_set (q := ww344.heap.size) (i := 3) rfl (.inr hg9) e349
                  have hb8 := hb8.oth (q := ww344.heap.size) (i := 3) rfl hb8_9 e349
                  have hb9 : Blk ww349 ww344.heap.size 39 [.int .i64 Writer334, .int .i64 Index335, .int .u64 Prev336, .int .i64 AtT337, .int .i64 0, .int .i64 0, .slice none 0 0, .int .u64 0] := hb9.seti 3 rfl e349
                  refine ⟨hb9.cani 4 rfl rfl, thenW_in fun ww350 e350 => ?_⟩
                  have hx350 := hx349.x_set (q := ww344.heap.size) (i := 4) rfl (.inr hg9) e350
                  have hb8 := hb8.oth (q := ww344.heap.size) (i := 4) rfl hb8_9 e350
                  have hb9 : Blk ww350 ww344.heap.size 39 [.int .i64 Writer334, .int .i64 Index335, .int .u64 Prev336, .int .i64 AtT337, .int .i64 AtW338, .int .i64 0, .slice none 0 0, .int .u64 0] := hb9.seti 4 rfl e350
                  refine ⟨hb9.cani 5 rfl rfl, thenW_in fun ww351 e351 => ?_⟩
                  have hx351 := hx350.x_set (q := ww344.heap.size) (i := 5) rfl (.inr hg9) e351
                  have hb8 := hb8.oth (q := ww344.heap.size) (i := 5) rfl hb8_9 e351
                  have hb9 : Blk ww351 ww344.heap.size 39 [.int .i64 Writer334, .int .i64 Index335, .int .u64 Prev336, .int .i64 AtT337, .int .i64 AtW338, .int .i64 Epoch339, .slice none 0 0, .int .u64 0] := hb9.seti 5 rfl e351
                  refine ⟨hb9.cani 6 rfl rfl, thenW_in fun ww352 e352 => ?_⟩
                  have hx352 := hx351.x_set (q := ww344.heap.size) (i := 6) rfl (.inr hg9) e352
                  have hb8 := hb8.oth (q := ww344.heap.size) (i := 6) rfl hb8_9 e352
                  have hb9 : Blk ww352 ww344.heap.size 39 [.int .i64 Writer334, .int .i64 Index335, .int .u64 Prev336, .int .i64 AtT337, .int .i64 AtW338, .int .i64 Epoch339, .slice Body340a Body340n Body340c, .int .u64 0] := hb9.seti 6 rfl e352
                  refine ⟨hb9.cani 7 rfl rfl, thenW_in fun ww353 e353 => ?_⟩
                  have hx353 := hx352.x_set (q := ww344.heap.size) (i := 7) rfl (.inr hg9) e353
                  have hb8 := hb8.oth (q := ww344.heap.size) (i := 7) rfl hb8_9 e353
                  have hb9 : Blk ww353 ww344.heap.size 39 [.int .i64 Writer334, .int .i64 Index335, .int .u64 Prev336, .int .i64 AtT337, .int .i64 AtW338, .int .i64 Epoch339, .slice Body340a Body340n Body340c, .int .u64 Sig341] := hb9.seti 7 rfl e353
                  have h := h ww353 hx353
                  refine h.mono fun ee364 ww365 h => ?_
                  obtain ⟨Writer355, Index356, Prev357, AtT358, AtW359, Epoch360, Body361a, Body361n, Body361c, Sig362, issue363, he, hk, h⟩ := h
                  refine ⟨Writer355, Index356, Prev357, AtT358, AtW359, Epoch360, Body361a, Body361n, Body361c, Sig362, issue363, he, ?_⟩
                  have hb8 := hk.blk hb8 (by simp)
                  refine thenW_in fun ww366 e366 => ?_
                  have hb10 := Blk.of_new e366
                  have hg10 := ((Ext.refl no ww365)).size
                  have hb8_10 := Nat.ne_of_lt hb8.lt
                  have hb8 := hb8.x_alloc e366
                  have hx366 := (Ext.refl no ww365).x_alloc e366
                  refine ⟨hb10.cani 0 rfl rfl, thenW_in fun ww367 e367 => ?_⟩
                  have hx367 := hx366.x_set (q := ww365.heap.size) (i := 0) rfl (.inr hg10) e367
                  have hb8 := hb8.oth (q := ww365.heap.size) (i := 0) rfl hb8_10 e367
                  have hb10 : Blk ww367 ww365.heap.size 39 [.int .i64 Writer355, .int .i64 0, .int .u64 0, .int .i64 0, .int .i64 0, .int .i64 0, .slice none 0 0, .int .u64 0] := hb10.seti 0 rfl e367
                  refine ⟨hb10.cani 1 rfl rfl, thenW_in fun ww368 e368 => ?_⟩
                  have hx368 := hx367.x_set (q := ww365.heap.size) (i := 1) rfl (.inr hg10) e368
                  have hb8 := hb8.oth (q := ww365.heap.size) (i := 1) rfl hb8_10 e368
                  have hb10 : Blk ww368 ww365.heap.size 39 [.int .i64 Writer355, .int .i64 Index356, .int .u64 0, .int .i64 0, .int .i64 0, .int .i64 0, .slice none 0 0, .int .u64 0] := hb10.seti 1 rfl e368
                  refine ⟨hb10.cani 2 rfl rfl, thenW_in fun ww369 e369 => ?_⟩
                  have hx369 := hx368.x_set (q := ww365.heap.size) (i := 2) rfl (.inr hg10) e369
                  have hb8 := hb8.oth (q := ww365.heap.size) (i := 2) rfl hb8_10 e369
                  have hb10 : Blk ww369 ww365.heap.size 39 [.int .i64 Writer355, .int .i64 Index356, .int .u64 Prev357, .int .i64 0, .int .i64 0, .int .i64 0, .slice none 0 0, .int .u64 0] := hb10.seti 2 rfl e369
                  refine ⟨hb10.cani 3 rfl rfl, thenW_in fun ww370 e370 => ?_⟩
                  have hx370 := hx369.x_set (q := ww365.heap.size) (i := 3) rfl (.inr hg10) e370
                  have hb8 := hb8.oth (q := ww365.heap.size) (i := 3) rfl hb8_10 e370
                  have hb10 : Blk ww370 ww365.heap.size 39 [.int .i64 Writer355, .int .i64 Index356, .int .u64 Prev357, .int .i64 AtT358, .int .i64 0, .int .i64 0, .slice none 0 0, .int .u64 0] := hb10.seti 3 rfl e370
                  refine ⟨hb10.cani 4 rfl rfl, thenW_in fun ww371 e371 => ?_⟩
                  have hx371 := hx370.x_set (q := ww365.heap.size) (i := 4) rfl (.inr hg10) e371
                  have hb8 := hb8.oth (q := ww365.heap.size) (i := 4) rfl hb8_10 e371
                  have hb10 : Blk ww371 ww365.heap.size 39 [.int .i64 Writer355, .int .i64 Index356, .int .u64 Prev357, .int .i64 AtT358, .int .i64 AtW359, .int .i64 0, .slice none 0 0, .int .u64 0] := hb10.seti 4 rfl e371
                  refine ⟨hb10.cani 5 rfl rfl, thenW_in fun ww372 e372 => ?_⟩
                  have hx372 := hx371.x_set (q := ww365.heap.size) (i := 5) rfl (.inr hg10) e372
                  have hb8 := hb8.oth (q := ww365.heap.size) (i := 5) rfl hb8_10 e372
                  have hb10 : Blk ww372 ww365.heap.size 39 [.int .i64 Writer355, .int .i64 Index356, .int .u64 Prev357, .int .i64 AtT358, .int .i64 AtW359, .int .i64 Epoch360, .slice none 0 0, .int .u64 0] := hb10.seti 5 rfl e372
                  refine ⟨hb10.cani 6 rfl rfl, thenW_in fun ww373 e373 => ?_⟩
                  have hx373 := hx372.x_set (q := ww365.heap.size) (i := 6) rfl (.inr hg10) e373
                  have hb8 := hb8.oth (q := ww365.heap.size) (i := 6) rfl hb8_10 e373
                  have hb10 : Blk ww373 ww365.heap.size 39 [.int .i64 Writer355, .int .i64 Index356, .int .u64 Prev357, .int .i64 AtT358, .int .i64 AtW359, .int .i64 Epoch360, .slice Body361a Body361n Body361c, .int .u64 0] := hb10.seti 6 rfl e373
                  refine ⟨hb10.cani 7 rfl rfl, thenW_in fun ww374 e374 => ?_⟩
                  have hx374 := hx373.x_set (q := ww365.heap.size) (i := 7) rfl (.inr hg10) e374
                  have hb8 := hb8.oth (q := ww365.heap.size) (i := 7) rfl hb8_10 e374
                  have hb10 : Blk ww374 ww365.heap.size 39 [.int .i64 Writer355, .int .i64 Index356, .int .u64 Prev357, .int .i64 AtT358, .int .i64 AtW359, .int .i64 Epoch360, .slice Body361a Body361n Body361c, .int .u64 Sig362] := hb10.seti 7 rfl e374
                  refine ⟨Writer291, Index292, Prev293, AtT294, AtW295, Epoch296, Body297a, Body297n, Body297c, Sig298, ⟨hb8.celli 0 rfl rfl, hb8.celli 1 rfl rfl, hb8.celli 2 rfl rfl, hb8.celli 3 rfl rfl, hb8.celli 4 rfl rfl, hb8.celli 5 rfl rfl, hb8.celli 6 rfl rfl, hb8.celli 7 rfl rfl, trivial⟩, ?_⟩
                  have h := h ww374 hx374
                  refine h.mono fun ee393 ww394 h => ?_
                  obtain ⟨Writer376, Index377, Prev378, AtT379, AtW380, Epoch381, Body382a, Body382n, Body382c, Sig383, Writer384, Index385, Prev386, AtT387, AtW388, Epoch389, Body390a, Body390n, Body390c, Sig391, odds392, he, hk, h⟩ := h
                  refine ⟨Writer376, Index377, Prev378, AtT379, AtW380, Epoch381, Body382a, Body382n, Body382c, Sig383, Writer384, Index385, Prev386, AtT387, AtW388, Epoch389, Body390a, Body390n, Body390c, Sig391, odds392, he, ?_⟩
                  have hb8 := hk.blk hb8 (by simp)
                  refine thenW_in fun ww395 e395 => ?_
                  have hb11 := Blk.of_new e395
                  have hg11 := ((Ext.refl no ww394)).size
                  have hb8_11 := Nat.ne_of_lt hb8.lt
                  have hb8 := hb8.x_alloc e395
                  have hx395 := (Ext.refl no ww394).x_alloc e395
                  refine thenW_in fun ww396 e396 => ?_
                  have hb12 := Blk.of_new e396
                  have hg12 := (hx395).size
                  have hb8_12 := Nat.ne_of_lt hb8.lt
                  have hb8 := hb8.x_alloc e396
                  have hb11_12 := Nat.ne_of_lt hb11.lt
                  have hb11 := hb11.x_alloc e396
                  have hx396 := hx395.x_alloc e396
                  refine ⟨hb11.cani 0 rfl rfl, thenW_in fun ww397 e397 => ?_⟩
                  have hx397 := hx396.x_set (q := ww394.heap.size) (i := 0) rfl (.inr hg11) e397
                  have hb8 := hb8.oth (q := ww394.heap.size) (i := 0) rfl hb8_11 e397
                  have hb12 := hb12.oth (q := ww394.heap.size) (i := 0) rfl (Ne.symm hb11_12) e397
                  have hb11 : Blk ww397 ww394.heap.size 39 [.int .i64 Writer376, .int .i64 0, .int .u64 0, .int .i64 0, .int .i64 0, .int .i64 0, .slice none 0 0, .int .u64 0] := hb11.seti 0 rfl e397
                  refine ⟨hb11.cani 1 rfl rfl, thenW_in fun ww398 e398 => ?_⟩
                  have hx398 := hx397.x_set (q := ww394.heap.size) (i := 1) rfl (.inr hg11) e398
                  have hb8 := hb8.oth (q := ww394.heap.size) (i := 1) rfl hb8_11 e398
                  have hb12 := hb12.oth (q := ww394.heap.size) (i := 1) rfl (Ne.symm hb11_12) e398
                  have hb11 : Blk ww398 ww394.heap.size 39 [.int .i64 Writer376, .int .i64 Index377, .int .u64 0, .int .i64 0, .int .i64 0, .int .i64 0, .slice none 0 0, .int .u64 0] := hb11.seti 1 rfl e398
                  refine ⟨hb11.cani 2 rfl rfl, thenW_in fun ww399 e399 => ?_⟩
                  have hx399 := hx398.x_set (q := ww394.heap.size) (i := 2) rfl (.inr hg11) e399
                  have hb8 := hb8.oth (q := ww394.heap.size) (i := 2) rfl hb8_11 e399
                  have hb12 := hb12.oth (q := ww394.heap.size) (i := 2) rfl (Ne.symm hb11_12) e399
                  have hb11 : Blk ww399 ww394.heap.size 39 [.int .i64 Writer376, .int .i64 Index377, .int .u64 Prev378, .int .i64 0, .int .i64 0, .int .i64 0, .slice none 0 0, .int .u64 0] := hb11.seti 2 rfl e399
                  refine ⟨hb11.cani 3 rfl rfl, thenW_in fun ww400 e400 => ?_⟩
                  have hx400 := hx399.x_set (q := ww394.heap.size) (i := 3) rfl (.inr hg11) e400
                  have hb8 := hb8.oth (q := ww394.heap.size) (i := 3) rfl hb8_11 e400
                  have hb12 := hb12.oth (q := ww394.heap.size) (i := 3) rfl (Ne.symm hb11_12) e400
                  have hb11 : Blk ww400 ww394.heap.size 39 [.int .i64 Writer376, .int .i64 Index377, .int .u64 Prev378, .int .i64 AtT379, .int .i64 0, .int .i64 0, .slice none 0 0, .int .u64 0] := hb11.seti 3 rfl e400
                  refine ⟨hb11.cani 4 rfl rfl, thenW_in fun ww401 e401 => ?_⟩
                  have hx401 := hx400.x_set (q := ww394.heap.size) (i := 4) rfl (.inr hg11) e401
                  have hb8 := hb8.oth (q := ww394.heap.size) (i := 4) rfl hb8_11 e401
                  have hb12 := hb12.oth (q := ww394.heap.size) (i := 4) rfl (Ne.symm hb11_12) e401
                  have hb11 : Blk ww401 ww394.heap.size 39 [.int .i64 Writer376, .int .i64 Index377, .int .u64 Prev378, .int .i64 AtT379, .int .i64 AtW380, .int .i64 0, .slice none 0 0, .int .u64 0] := hb11.seti 4 rfl e401
                  refine ⟨hb11.cani 5 rfl rfl, thenW_in fun ww402 e402 => ?_⟩
                  have hx402 := hx401.x_set (q := ww394.heap.size) (i := 5) rfl (.inr hg11) e402
                  have hb8 := hb8.oth (q := ww394.heap.size) (i := 5) rfl hb8_11 e402
                  have hb12 := hb12.oth (q := ww394.heap.size) (i := 5) rfl (Ne.symm hb11_12) e402
                  have hb11 : Blk ww402 ww394.heap.size 39 [.int .i64 Writer376, .int .i64 Index377, .int .u64 Prev378, .int .i64 AtT379, .int .i64 AtW380, .int .i64 Epoch381, .slice none 0 0, .int .u64 0] := hb11.seti 5 rfl e402
                  refine ⟨hb11.cani 6 rfl rfl, thenW_in fun ww403 e403 => ?_⟩
                  have hx403 := hx402.x_set (q := ww394.heap.size) (i := 6) rfl (.inr hg11) e403
                  have hb8 := hb8.oth (q := ww394.heap.size) (i := 6) rfl hb8_11 e403
                  have hb12 := hb12.oth (q := ww394.heap.size) (i := 6) rfl (Ne.symm hb11_12) e403
                  have hb11 : Blk ww403 ww394.heap.size 39 [.int .i64 Writer376, .int .i64 Index377, .int .u64 Prev378, .int .i64 AtT379, .int .i64 AtW380, .int .i64 Epoch381, .slice Body382a Body382n Body382c, .int .u64 0] := hb11.seti 6 rfl e403
                  refine ⟨hb11.cani 7 rfl rfl, thenW_in fun ww404 e404 => ?_⟩
                  have hx404 := hx403.x_set (q := ww394.heap.size) (i := 7) rfl (.inr hg11) e404
                  have hb8 := hb8.oth (q := ww394.heap.size) (i := 7) rfl hb8_11 e404
                  have hb12 := hb12.oth (q := ww394.heap.size) (i := 7) rfl (Ne.symm hb11_12) e404
                  have hb11 : Blk ww404 ww394.heap.size 39 [.int .i64 Writer376, .int .i64 Index377, .int .u64 Prev378, .int .i64 AtT379, .int .i64 AtW380, .int .i64 Epoch381, .slice Body382a Body382n Body382c, .int .u64 Sig383] := hb11.seti 7 rfl e404
                  refine ⟨hb12.cani 0 rfl rfl, thenW_in fun ww405 e405 => ?_⟩
                  have hx405 := hx404.x_set (q := ww395.heap.size) (i := 0) rfl (.inr hg12) e405
                  have hb8 := hb8.oth (q := ww395.heap.size) (i := 0) rfl hb8_12 e405
                  have hb12 : Blk ww405 ww395.heap.size 39 [.int .i64 Writer384, .int .i64 0, .int .u64 0, .int .i64 0, .int .i64 0, .int .i64 0, .slice none 0 0, .int .u64 0] := hb12.seti 0 rfl e405
                  refine ⟨hb12.cani 1 rfl rfl, thenW_in fun ww406 e406 => ?_⟩
                  have hx406 := hx405.x_set (q := ww395.heap.size) (i := 1) rfl (.inr hg12) e406
                  have hb8 := hb8.oth (q := ww395.heap.size) (i := 1) rfl hb8_12 e406
                  have hb12 : Blk ww406 ww395.heap.size 39 [.int .i64 Writer384, .int .i64 Index385, .int .u64 0, .int .i64 0, .int .i64 0, .int .i64 0, .slice none 0 0, .int .u64 0] := hb12.seti 1 rfl e406
                  refine ⟨hb12.cani 2 rfl rfl, thenW_in fun ww407 e407 => ?_⟩
                  have hx407 := hx406.x_set (q := ww395.heap.size) (i := 2) rfl (.inr hg12) e407
                  have hb8 := hb8.oth (q := ww395.heap.size) (i := 2) rfl hb8_12 e407
                  have hb12 : Blk ww407 ww395.heap.size 39 [.int .i64 Writer384, .int .i64 Index385, .int .u64 Prev386, .int .i64 0, .int .i64 0, .int .i64 0, .slice none 0 0, .int .u64 0] := hb12.seti 2 rfl e407
                  refine ⟨hb12.cani 3 rfl rfl, thenW_in fun ww408 e408 => ?_⟩
                  have hx408 := hx407.x_set (q := ww395.heap.size) (i := 3) rfl (.inr hg12) e408
                  have hb8 := hb8.oth (q := ww395.heap.size) (i := 3) rfl hb8_12 e408
                  have hb12 : Blk ww408 ww395.heap.size 39 [.int .i64 Writer384, .int .i64 Index385, .int .u64 Prev386, .int .i64 AtT387, .int .i64 0, .int .i64 0, .slice none 0 0, .int .u64 0] := hb12.seti 3 rfl e408
                  refine ⟨hb12.cani 4 rfl rfl, thenW_in fun ww409 e409 => ?_⟩
                  have hx409 := hx408.x_set (q := ww395.heap.size) (i := 4) rfl (.inr hg12) e409
                  have hb8 := hb8.oth (q := ww395.heap.size) (i := 4) rfl hb8_12 e409
                  have hb12 : Blk ww409 ww395.heap.size 39 [.int .i64 Writer384, .int .i64 Index385, .int .u64 Prev386, .int .i64 AtT387, .int .i64 AtW388, .int .i64 0, .slice none 0 0, .int .u64 0] := hb12.seti 4 rfl e409
                  refine ⟨hb12.cani 5 rfl rfl, thenW_in fun ww410 e410 => ?_⟩
                  have hx410 := hx409.x_set (q := ww395.heap.size) (i := 5) rfl (.inr hg12) e410
                  have hb8 := hb8.oth (q := ww395.heap.size) (i := 5) rfl hb8_12 e410
                  have hb12 : Blk ww410 ww395.heap.size 39 [.int .i64 Writer384, .int .i64 Index385, .int .u64 Prev386, .int .i64 AtT387, .int .i64 AtW388, .int .i64 Epoch389, .slice none 0 0, .int .u64 0] := hb12.seti 5 rfl e410
                  refine ⟨hb12.cani 6 rfl rfl, thenW_in fun ww411 e411 => ?_⟩
                  have hx411 := hx410.x_set (q := ww395.heap.size) (i := 6) rfl (.inr hg12) e411
                  have hb8 := hb8.oth (q := ww395.heap.size) (i := 6) rfl hb8_12 e411
                  have hb12 : Blk ww411 ww395.heap.size 39 [.int .i64 Writer384, .int .i64 Index385, .int .u64 Prev386, .int .i64 AtT387, .int .i64 AtW388, .int .i64 Epoch389, .slice Body390a Body390n Body390c, .int .u64 0] := hb12.seti 6 rfl e411
                  refine ⟨hb12.cani 7 rfl rfl, thenW_in fun ww412 e412 => ?_⟩
                  have hx412 := hx411.x_set (q := ww395.heap.size) (i := 7) rfl (.inr hg12) e412
                  have hb8 := hb8.oth (q := ww395.heap.size) (i := 7) rfl hb8_12 e412
                  have hb12 : Blk ww412 ww395.heap.size 39 [.int .i64 Writer384, .int .i64 Index385, .int .u64 Prev386, .int .i64 AtT387, .int .i64 AtW388, .int .i64 Epoch389, .slice Body390a Body390n Body390c, .int .u64 Sig391] := hb12.seti 7 rfl e412
                  refine thenW_in fun ww413 e413 => ?_
                  have hx413 := hx412.x_drew e413
                  have hb8 := hb8.x_drew e413
                  refine bif_of (fun c414 => ?_) (fun c414 => ?_)
                  · have h := h.1 (beq_t c414)
                    refine ⟨Writer291, Index292, Prev293, AtT294, AtW295, Epoch296, Body297a, Body297n, Body297c, Sig298, ⟨hb8.celli 0 rfl rfl, hb8.celli 1 rfl rfl, hb8.celli 2 rfl rfl, hb8.celli 3 rfl rfl, hb8.celli 4 rfl rfl, hb8.celli 5 rfl rfl, hb8.celli 6 rfl rfl, hb8.celli 7 rfl rfl, trivial⟩, ?_⟩
                    obtain ⟨a415, ha415, h⟩ := h
                    refine elim_some ha415 ?_
                    obtain ⟨hq1, hq2, h⟩ := h
                    refine ⟨hq1, hq2, ?_⟩
                    obtain ⟨xWriter417, xIndex418, xPrev419, xAtT420, xAtW421, xEpoch422, xBody423a, xBody423n, xBody423c, xSig424, hc416, h⟩ := h
                    refine ⟨xWriter417, xIndex418, xPrev419, xAtT420, xAtW421, xEpoch422, xBody423a, xBody423n, xBody423c, xSig424, cellsAt_no (hx413) hc416, ?_⟩
                    have h := h ww413 hx413
                    refine h.mono fun ee428 ww429 h => ?_
                    obtain ⟨same427, he, hk, h⟩ := h
                    refine ⟨same427, he, ?_⟩
                    have hb8 := hk.blk hb8 (by simp)
                    refine bif_of (fun c430 => ?_) (fun c430 => ?_)
                    · have h := h.1 c430
                      refine h.mono fun ee432 ww433 h => ?_
                      obtain ⟨writer431, he, hk, h⟩ := h
                      refine ⟨writer431, he, ?_⟩
                      have hb8 := hk.blk hb8 (by simp)
                      refine bif_of (fun c434 => ?_) (fun c434 => ?_)
                      · have h := h.1 (beq_t c434)
                        refine h.mono fun ee436 ww437 h => ?_
                        obtain ⟨len435, he, hk, h⟩ := h
                        refine ⟨len435, he, ?_⟩
                        have hb8 := hk.blk hb8 (by simp)
                        refine bif_of (fun c438 => ?_) (fun c438 => ?_)
                        · have h := h.1 (beq_t c438)
                          refine h.mono fun ee442 ww443 h => ?_
                          obtain ⟨Writer439, Len440, Sum441, he, hk, h⟩ := h
                          refine ⟨Writer439, Len440, Sum441, he, ?_⟩
                          have hb8 := hk.blk hb8 (by simp)
                          refine ⟨_, eqT46_eq Writer439 Len440 Sum441 0 0 0 _, ?_⟩
                          refine bif_of (fun c444 => ?_) (fun c444 => ?_)
                          · have h := h.1 (of_decide_eq_true c444)
                            refine bif_of (fun c445 => ?_) (fun c445 => ?_)
                            · have h := h.1 (beq_t c445)
                              refine bif_of (fun c446 => ?_) (fun c446 => ?_)
                              · have h := h.1 (beq_t c446)
                                refine ⟨Writer291, Index292, Prev293, AtT294, AtW295, Epoch296, Body297a, Body297n, Body297c, Sig298, ⟨hb8.celli 0 rfl rfl, hb8.celli 1 rfl rfl, hb8.celli 2 rfl rfl, hb8.celli 3 rfl rfl, hb8.celli 4 rfl rfl, hb8.celli 5 rfl rfl, hb8.celli 6 rfl rfl, hb8.celli 7 rfl rfl, trivial⟩, ?_⟩
                                refine h.mono fun ee448 ww449 h => ?_
                                obtain ⟨check447, he, hk, h⟩ := h
                                refine ⟨check447, he, ?_⟩
                                have hb8 := hk.blk hb8 (by simp)
                                refine bif_of (fun c450 => ?_) (fun c450 => ?_)
                                · have h := h.1 (beq_t c450)
                                  refine ⟨Writer291, Index292, Prev293, AtT294, AtW295, Epoch296, Body297a, Body297n, Body297c, Sig298, ⟨hb8.celli 0 rfl rfl, hb8.celli 1 rfl rfl, hb8.celli 2 rfl rfl, hb8.celli 3 rfl rfl, hb8.celli 4 rfl rfl, hb8.celli 5 rfl rfl, hb8.celli 6 rfl rfl, hb8.celli 7 rfl rfl, trivial⟩, ?_⟩
                                  refine h.mono fun ee452 ww453 h => ?_
                                  obtain ⟨accept451, he, h⟩ := h
                                  refine ⟨accept451, he, ?_⟩
                                  refine bif_of (fun c454 => ?_) (fun c454 => ?_)
                                  · have h := h.1 (beq_t c454)
                                    refine bif_of (fun c455 => ?_) (fun c455 => ?_)
                                    · have h := h.1 (not_t c455)
                                      refine h.mono fun ee457 ww458 h => ?_
                                      obtain ⟨alive456, he, h⟩ := h
                                      refine ⟨alive456, he, ?_⟩
                                      exact h
                                    · have h := h.2 (not_f c455)
                                      exact h
                                  · have h := h.2 (beq_f c454)
                                    exact h
                                · have h := h.2 (beq_f c450)
                                  exact h
                              · have h := h.2 (beq_f c446)
                                exact h
                            · have h := h.2 (beq_f c445)
                              exact h
                          · have h := h.2 (of_decide_eq_false c444)
                            exact h
                        · have h := h.2 (beq_f c438)
                          exact h
                      · have h := h.2 (beq_f c434)
                        exact h
                    · have h := h.2 c430
                      exact h
                  · have h := h.2 (beq_f c414)
                    have h := h ww413 hx413
                    exact h

theorem cachettelaw07_ChainAts.go (l1a : Option Addr) (l1n : Nat) (l1c : Nat) (atv2 : Int) {R : Value → World → Prop} {w : World} (h : cachettelaw07_ChainAts.N l1a l1n l1c atv2 R w) : Calls Try.prog 8 #[.slice l1a l1n l1c, .int .i64 atv2] w fun e w' => ∃ v, e = .returned v ∧ R v w' := cachettelaw07_ChainAts.ok l1a l1n l1c atv2 (cachettelaw07_ChainAts.up l1a l1n l1c atv2 h)
theorem cachettelaw07_ChainAts.run (l1a : Option Addr) (l1n : Nat) (l1c : Nat) (atv2 : Int) {V : Value} {Q : World → Prop} {w : World} (h : cachettelaw07_ChainAts.N l1a l1n l1c atv2 (fun v w' => v = V ∧ Q w') w) : Calls Try.prog 8 #[.slice l1a l1n l1c, .int .i64 atv2] w (Ret V Q) := (cachettelaw07_ChainAts.go l1a l1n l1c atv2 h).mono fun e w' ⟨v, he, hv, hq⟩ => ⟨by rw [he, hv], hq⟩

section
variable {w : World}
theorem At_nil (i : Int) : Calls Try.prog 34 #[.pointer none, .int .i64 i] w (Ret (.tuple #[entV Ent.zero none 0, .int .i64 23]) fun w' => Ext no w w') := by
  refine chain_Log_At.run _ _ ?_
  unfold chain_Log_At.N
  exact ⟨fun _ w' X => ⟨rfl, X⟩, fun h => absurd rfl h⟩
theorem Writer_nil : Calls Try.prog 35 #[.pointer none] w (Ret (.int .i64 (-1)) fun w' => w' = w) := by
  refine chain_Log_Writer.run _ ?_
  unfold chain_Log_Writer.N
  exact ⟨fun _ => ⟨rfl, rfl⟩, fun h => absurd rfl h⟩
theorem Len_nil : Calls Try.prog 28 #[.pointer none] w (Ret (.int .i64 0) fun w' => w' = w) := by
  refine chain_Log_Len.run _ ?_
  unfold chain_Log_Len.N
  exact ⟨fun _ => ⟨rfl, rfl⟩, fun h => absurd rfl h⟩
theorem Head_nil : Calls Try.prog 16 #[.pointer none] w (Ret (.agg #[.int .i64 0, .int .i64 0, .int .u64 0]) fun w' => Ext no w w') := by
  refine chain_Log_Head.run _ ?_
  unfold chain_Log_Head.N
  exact ⟨fun _ w' X => ⟨rfl, X⟩, fun h => absurd rfl h⟩
theorem Check_nil {e : Ent} {a : Option Addr} {c : Nat} : Calls Try.prog 26 #[.pointer none, entV e a c] w (Ret (.int .i64 23) fun w' => Ext no w w') := by
  refine chain_Log_Check.run none e.w e.i e.pv e.t e.tw e.ep a e.body.length c e.sg ?_
  unfold chain_Log_Check.N
  exact ⟨fun _ w' X => ⟨rfl, X⟩, fun h => absurd rfl h⟩
theorem Accept_nil {e : Ent} {a : Option Addr} {c : Nat} : Calls Try.prog 15 #[.pointer none, entV e a c] w (Ret (.int .i64 23) fun w' => Ext no w w') := by
  refine chain_Log_Accept.run none e.w e.i e.pv e.t e.tw e.ep a e.body.length c e.sg ?_
  unfold chain_Log_Accept.N
  intro w10 p11 X10 hp
  exact (Check_nil (e := e)).mono fun x w14 ⟨he, X14⟩ => ⟨_, he, X14.kept, fun h => absurd h (by decide), fun _ => ⟨rfl, X10.trans X14⟩⟩
theorem Issue_nil (s t tw ep : Int) (a : Option Addr) (n c : Nat) : Calls Try.prog 14 #[.pointer none, .int .u64 s, .agg #[.int .i64 t, .int .i64 tw], .int .i64 ep, .slice a n c] w (Ret (.tuple #[entV Ent.zero none 0, .int .i64 23]) fun w' => Ext no w w') := by
  refine chain_Log_Issue.run none s t tw ep a n c ?_
  unfold chain_Log_Issue.N
  exact ⟨fun _ w' X => ⟨rfl, X⟩, fun h => absurd rfl h⟩
theorem Odds_nil {o : Own} (ok : Tags w o) {e : Ent} {a : Option Addr} {c : Nat} : Calls Try.prog 24 #[.pointer none, entV e a c] w (fun x w' => x = .returned (.tuple #[entV Ent.zero none 0, entV Ent.zero none 0, .bool false]) ∧ ∃ o', Step no w o w' o') := by
  refine (chain_Log_Odds.go none e.w e.i e.pv e.t e.tw e.ep a e.body.length c e.sg (R := fun v w' => v = (.tuple #[entV Ent.zero none 0, entV Ent.zero none 0, .bool false]) ∧ ∃ o', Step no w o w' o') ?_).mono fun x w' ⟨v, he, hv, hw⟩ => ⟨by rw [he, hv], hw⟩
  unfold chain_Log_Odds.N
  intro w12 p13 p14 p15 X12 hp
  obtain ⟨s12, M12⟩ := Step.priv X12 hp ok
  have g13 := hp p13 (by simp)
  have g14 := hp p14 (by simp)
  have g15 := hp p15 (by simp)
  refine (Check_nil (e := e)).mono fun x w18 ⟨he, X18⟩ => ⟨_, he, X18.kept, fun _ w36 X36 => ⟨rfl, ?_⟩, fun h => absurd h (by decide)⟩
  have s18' := Step.of_no X18 s12.ok
  have s36' := Step.stores X36 s18'.ok (M12.step s18') (by simp [or_comm])
  exact ⟨_, (s12.trans s18').trans' s36' fun i hi => .inr (by simp at hi; omega)⟩
theorem New_nil (wr pb : Int) : Calls Try.prog 13 #[.pointer none, .int .i64 1, .int .u64 pb] w (Ret (.tuple #[.pointer none, .int .i64 23]) fun w' => w' = w) := by
  refine chain_New.run none 1 pb ?_
  unfold chain_New.N
  exact ⟨fun h => absurd h (by decide), fun _ => ⟨fun h => absurd h (by decide), fun _ => ⟨fun _ => ⟨rfl, rfl⟩, fun h => absurd rfl h⟩⟩⟩
/-- what a loop of issues leaves. -/
def IssI (W : World) (q k : Nat) (s p : Int) (N n : Nat) (a1 : Option Addr) (c1 : Nat) (l1 : List PE) (w1 : World) : Prop :=
  ∃ (o1 : Own) (S : OS) (L : CL), Step no W (fun _ => none) w1 o1 ∧ OneI w1 o1 q k s p S L n ∧ L.wr = 1 ∧ Kept N w1 o1 a1 c1 l1 ∧ l1.map PE.e = L.es ∧ N ≤ w1.heap.size
theorem IssI.push {W w1 w' : World} {q k N n : Nat} {s p : Int} {a1 : Option Addr} {c1 : Nat} {l1 : List PE} {o1 o' : Own} {S' : OS} {L L' : CL} {e' : PE} (hN : W.heap.size ≤ N) (hq : q < N) (hk : k < N) (s1 : Step no W (fun _ => none) w1 o1) (hkept : Kept N w1 o1 a1 c1 l1) (hmap : l1.map PE.e = L.es) (hN1 : N ≤ w1.heap.size) (st : Step (fun i => i = q ∨ i = k) w1 o1 w' o') (hW : W.heap.size ≤ q ∧ W.heap.size ≤ k) (one : OneI w' o' q k s p S' L' n) (hok : e'.ok w' o') (hwr : L'.wr = 1) (hes : L'.es = L.es ++ [e'.e])
    {ww : World} {qq : Nat} (X : Ext no w' ww) (hb : Blk ww qq 39 [.int .i64 e'.e.w, .int .i64 e'.e.i, .int .u64 e'.e.pv, .int .i64 e'.e.t, .int .i64 e'.e.tw, .int .i64 e'.e.ep, .slice e'.a e'.e.body.length e'.c, .int .u64 e'.e.sg]) (h1 : w'.heap.size ≤ qq) (h2 : qq < ww.heap.size) :
    ∃ a' n' c' w'', (Builtin.append_ #[49, 49] 49 #[.slice a1 l1.length c1, .slice (some (blk qq)) 1 1]).run Try.prog ww = .ok (.slice a' n' c') w'' ∧ n' = (l1 ++ [e']).length ∧ IssI W q k s p N n a' c' (l1 ++ [e']) w'' := by
  have hl : l1.length ≤ 200 := by rw [← List.length_map (f := PE.e), hmap]; have := one.lok.few; rw [hes] at this; simp at this; omega
  have hk2 := hkept.step st fun i hi => by omega
  obtain ⟨a', c', w'', o'', hr, s2, _, kp⟩ := hk2.push st.ok (by omega) hok X hb h1 h2 (Nat.le_trans hN1 st.size)
  refine ⟨a', _, c', w'', hr, rfl, o'', S', L', (s1.trans' st fun i hi => .inr (by omega)).trans' s2 fun i hi => .inr (by omega), one.step s2 (by omega) (by omega), hwr, kp, ?_, Nat.le_trans hN1 (Nat.le_trans st.size s2.size)⟩
  rw [List.map_append, hmap, hes]; rfl
theorem IssI.none {W w1 w' : World} {q k N n : Nat} {s p : Int} {a1 : Option Addr} {c1 : Nat} {l1 : List PE} {o1 o' : Own} {S' : OS} {L L' : CL} (hq : q < N) (hk : k < N) (s1 : Step no W (fun _ => none) w1 o1) (hkept : Kept N w1 o1 a1 c1 l1) (hmap : l1.map PE.e = L.es) (hN1 : N ≤ w1.heap.size) (st : Step (fun i => i = q ∨ i = k) w1 o1 w' o') (hW : W.heap.size ≤ q ∧ W.heap.size ≤ k) (one : OneI w' o' q k s p S' L' n) (hwr : L'.wr = 1) (hes : L'.es = L.es) {ww : World} (X : Ext no w' ww) : IssI W q k s p N n a1 c1 l1 ww := by
  have s2 := Step.of_no X st.ok
  have st2 : Step (fun i => i = q ∨ i = k) w1 o1 ww _ := st.trans s2.none
  exact ⟨_, S', L', s1.trans' st2 fun i hi => .inr (by omega), one.step s2 id id, hwr, hkept.step st2 fun i hi => by omega, by rw [hmap, hes], Nat.le_trans hN1 st2.size⟩
end
end Go.Proofs.Ytnppbflccbpoeaa

/- ChainAts. -/
set_option linter.unusedVariables false
set_option linter.unusedSimpArgs false
set_option maxRecDepth 20000
set_option maxHeartbeats 2000000
namespace Go.Proofs.Ytnppbflccbpoeaa
open Go Go.Mx Go.Proofs
open W (OwnB GivesW numR countR doneR zig unzig intR)
theorem ChainAts_spec (W : World) {la : Option Addr} {lc : Nat} {l : List CO} (hl : RowAt W la (l.flatMap CO.C)) (hg : ∀ p ∈ l, p.good W) (at_ : Int) :
    Calls Try.prog 8 #[.slice la l.length lc, .int .i64 at_] W (Ret (.bool true) fun w' => Ext no W w') := by
  refine cachettelaw07_ChainAts.run _ _ _ _ ?_
  unfold cachettelaw07_ChainAts.N
  refine (light_spec (da := none) (dc := 0) (dn := 0) hl).mono fun e w5 ⟨he, hw⟩ => ⟨_, he, fun _ => ?_, fun hL => ?_⟩
  · subst hw
    exact (alive7_spec _).mono fun e w9 ⟨he, X⟩ => ⟨_, he, rfl, X⟩
  subst hw
  obtain ⟨_, hL2, hL3⟩ := light_of hL
  have ok0 : Tags w5 (fun _ => none) := fun b j _ h => by cases h
  have R0 : ∀ {a : Option Addr} {cs : List Value}, RowAt w5 a cs → Row w5 (fun _ => none) a cs := fun h => ⟨h, fun _ _ _ => rfl⟩
  refine (NewO (l := []) (c := 0) ok0 (RowAt.nil _ _) (by simp)).mono fun v w12 ⟨k, o12, hx, hk, s12, P12⟩ => ⟨_, hx, ?_⟩
  have i0 : OInv (OS.init []) := OInv.init (by simp)
  refine (PairO P12 s12.ok i0.ok (by decide)).mono fun v w16 ⟨o16, hx, s16', P16⟩ => ⟨_, _, hx, ?_⟩
  obtain ⟨i1, _, kp, ks, _⟩ := pair_inv i0
  have u1 : (pairOf (OS.init [])).2.used.length ≤ 2 := (pairOf_ok i0.ok).2
  generalize (pairOf (OS.init [])).2 = S1 at *
  generalize (pairOf (OS.init [])).1.1 = s at *
  generalize (pairOf (OS.init [])).1.2 = p at *
  have hk1 : Keyed S1 s p := ⟨ks, kp⟩
  have s16 : Step no w5 (fun _ => none) w16 o16 := s12.trans' s16' fun i hi => .inr (by omega)
  refine (cNew_spec (k := k) s16.ok 1 p).mono fun v w20 h => ?_
  rcases h with ⟨h, _⟩ | ⟨_, q, o20, hx, hq, s20', PL20⟩
  · exact absurd ⟨by decide, by decide⟩ h
  refine ⟨_, _, hx, ?_⟩
  have s20 := s16.trans s20'
  have hkl := P16.lt
  have l16 := s16.size
  have hqk : q ≠ k := by omega
  have one20 : OneI w20 o20 q k s p S1 ⟨1, p, [], 0⟩ 2 := ⟨PL20, P16.step s20' id, s20.ok, i1, hk1, LOk.nil 1, u1, hqk⟩
  refine (cNew_spec (k := k) s20.ok at_ p).mono fun v w24 h => ?_
  have h24 : ∃ (y : Option Addr) (z : Int) (o24 : Own), v = .returned (.tuple #[.pointer y, .int .i64 z]) ∧ (z == 0) = decide (0 ≤ at_ ∧ at_ < 8) ∧ Step no w20 o20 w24 o24 := by
    rcases h with ⟨h, hx, hw⟩ | ⟨h, q', o', hx, _, s', _⟩
    · subst hw; exact ⟨_, _, o20, hx, by rw [decide_eq_false h]; rfl, Step.refl _ s20.ok⟩
    · exact ⟨_, _, o', hx, by rw [decide_eq_true h]; rfl, s'⟩
  obtain ⟨y, z, o24, hx, hz, s24'⟩ := h24
  refine ⟨y, z, hx, ?_⟩
  refine (New_nil 1 p).mono fun v w28 ⟨hx, hw⟩ => ⟨_, _, hx, fun h => absurd rfl h, fun _ => ?_⟩
  subst hw
  have s24 := s20.trans s24'
  have one24 := one20.step s24' id id
  have hW : w5.heap.size ≤ q ∧ w5.heap.size ≤ k := ⟨by omega, by omega⟩
  have hql := one24.log.lt
  have hkl := one24.orc.lt
  have start : IssI w5 q k s p w28.heap.size 2 none 0 [] w28 := ⟨o24, S1, _, s24, one24, rfl, Kept.nil _ _ _, rfl, Nat.le_refl _⟩
  refine ⟨fun h0 => ⟨fun h => absurd ?_ h, fun _ => ⟨fun h => absurd rfl h, fun _ => ?_⟩⟩, fun h0 => ⟨fun h => absurd ?_ h, fun _ => ⟨fun h => absurd rfl h, fun _ => ?_⟩⟩⟩
  · rw [hz]; congr 1; simp; omega
  rotate_left
  · rw [hz]; simp; omega
  all_goals
    refine ⟨fun m vs w1 => ∃ (t : Nat) (a1 : Option Addr) (c1 : Nat) (l1 : List PE), vs = [.slice a1 l1.length c1, .int .i64 t] ∧ m + t = l.length ∧ IssI w5 q k s p w28.heap.size (2 + 2 * t) a1 c1 l1 w1, l.length, ⟨0, none, 0, [], rfl, rfl, start⟩, ?_⟩
    rintro m w1 ra rn rc i ⟨t, a1, c1, l1, hi, hm, o1, S, L, s1, one1, hwr, kept1, hmap, hN1⟩
    simp only [List.cons.injEq, Value.slice.injEq, Value.int.injEq, true_and, and_true] at hi
    obtain ⟨⟨rfl, rfl, rfl⟩, rfl⟩ := hi
    refine ⟨fun ht => ?_, fun ht => ?_⟩
    · have htl : t < l.length := by omega
      have hgt : l[t]? = some l[t] := List.getElem?_eq_getElem htl
      have hl1 := ((R0 hl).step s1).1
      obtain ⟨ad, rfl⟩ := hl.faddr CO.len (by decide) htl
      have hgd := hg _ (List.getElem_mem htl)
      have lg := hL3 _ (List.getElem_mem htl)
      generalize l[t] = x at *
      have c1' := hl1.fcell CO.len hgt 1 (v := .int .i64 x.t) rfl
      have c2' := hl1.fcell CO.len hgt 2 (v := .int .i64 x.ep) rfl
      have c3' := hl1.fcell CO.len hgt 3 (v := .slice x.a x.B.length x.c) rfl
      refine ⟨ad, rfl, by omega, by omega, x.t, by rw [Int.toNat_natCast]; exact c1', by omega, by omega, x.ep, by rw [Int.toNat_natCast]; exact c2', by omega, by omega, x.a, x.B.length, x.c, by rw [Int.toNat_natCast]; exact c3', fun w39 X39 => ?_, fun w47 p48 X47 hp48 => ?_⟩
      · have s39 := Step.of_no X39 one1.ok
        refine ((one1.step s39 id id).issue (by omega) x.t 1 x.ep (((R0 hgd.ra).step s1).step s39)).mono fun v w57 ⟨o57, S', L', e', cd, hx, s57, one57, ok57, bl, wr57, es57, _, _, _⟩ => ⟨_, _, _, _, _, _, _, _, _, _, _, hx, fun h0 w68 q69 X68 hb hq1 hq2 => ?_, fun hne => ⟨by omega, by omega, fun w66 X66 => ?_⟩⟩
        · obtain ⟨a', n', c', w72, hr, hn', I⟩ := IssI.push (Nat.le_trans (Nat.le_refl _) s24.size) hql hkl s1 kept1 hmap hN1 (s39.none.trans s57) hW one57 ok57 (by rw [wr57, hwr]) (by rw [es57, if_pos h0]) X68 hb hq1 hq2
          exact ⟨a', n', c', w72, hr, by omega, by omega, m - 1, by omega, t + 1, a', c', l1 ++ [e'], by rw [hn']; rfl, by omega, I⟩
        · exact ⟨m - 1, by omega, t + 1, _, _, l1, rfl, by omega, IssI.none hql hkl s1 kept1 hmap hN1 (s39.none.trans s57) hW one57 (by rw [wr57, hwr]) (by rw [es57, if_neg hne]) X66⟩
      · obtain ⟨s47, M47⟩ := Step.priv X47 hp48 one1.ok
        have g48 := hp48 p48 (by simp)
        refine ((one1.step s47 id id).issue (by omega) x.t 1 x.ep (((R0 hgd.ra).step s1).step s47)).mono fun v w59 ⟨o59, S', L', e', cd, hx, s59, one59, ok59, bl, wr59, es59, _, _, _⟩ => ⟨_, _, _, _, _, _, _, _, _, _, _, hx, M47.keep s59 (by simp; omega), fun h0 w67 X67 w69 q70 X69 hb hq1 hq2 => ?_, fun hne => ⟨by omega, by omega, fun w67 X67 => ?_⟩⟩
        · have s67 := Step.stores X67 s59.ok (M47.step s59) (by simp)
          obtain ⟨a', n', c', w72, hr, hn', I⟩ := IssI.push (Nat.le_trans (Nat.le_refl _) s24.size) hql hkl s1 kept1 hmap hN1 ((s47.none.trans s59).trans' s67 fun i hi => .inr (by simp at hi; omega)) hW (one59.step s67 (by simp; omega) (by simp; omega)) (ok59.step s67) (by rw [wr59, hwr]) (by rw [es59, if_pos h0]) X69 hb hq1 hq2
          exact ⟨a', n', c', w72, hr, by omega, by omega, m - 1, by omega, t + 1, a', c', l1 ++ [e'], by rw [hn']; rfl, by omega, I⟩
        · have s67 := Step.stores X67 s59.ok (M47.step s59) (by simp)
          exact ⟨m - 1, by omega, t + 1, _, _, l1, rfl, by omega, IssI.none hql hkl s1 kept1 hmap hN1 ((s47.none.trans s59).trans' s67 fun i hi => .inr (by simp at hi; omega)) hW (one59.step s67 (by simp; omega) (by simp; omega)) (by rw [wr59, hwr]) (by rw [es59, if_neg hne]) (Ext.refl _ _)⟩
    · have hes : L.es.length = l1.length := by rw [← hmap]; simp
      have hsz := one1.lok.few
      have hbodies : ∀ e ∈ L.es, e.body.length ≤ 1000000 := fun e he => by
        obtain ⟨i, hi⟩ := List.getElem?_of_mem he
        have := ((entRight_iff _).1 (one1.lok.good i e hi).1.right).2.2.2.2.2.2.2.2.2.1
        omega
      refine (cAt_spec one1.log one1.ok hbodies at_).mono fun v w86 ⟨o86, a', c', hx, s86', r86⟩ => ⟨_, _, _, _, _, _, _, _, _, _, _, hx, ?_⟩
      have s86 := s1.trans s86'
      have fin : ∀ {w' : World}, Ext no w86 w' → Ext no w5 w' := fun X => (s86.ext.mono fun b ⟨_, _, h⟩ _ => h).trans X
      have zsame : atC L at_ = (Ent.zero, 2) → ∀ (w95 : World), Ext no w86 w95 → Calls Try.prog 27 #[entV (atC L at_).1 a' c', entV Ent.zero none 0] w95 fun e w' => ∃ b : Bool, e = .returned (.bool b) ∧ (b = true → Calls Try.prog 10 #[] w' fun e w'' => ∃ b2 : Bool, e = .returned (.bool b2) ∧ (Value.bool b2 = Value.bool true ∧ Ext no w5 w'')) ∧ (b = false → (Value.bool false = Value.bool true ∧ Ext no w5 w')) := fun hz0 w95 X95 => by
        refine (rESame_spec (e := (atC L at_).1) (f := Ent.zero) (r86.1.no X95) (RowAt.nil _ _) (by rw [hz0]; decide)).mono fun v w101 ⟨hx, X101⟩ => ⟨_, hx, fun _ => ?_, fun h => absurd h (by rw [hz0]; decide)⟩
        exact (alive7_spec w101).mono fun v w105 ⟨hx, X105⟩ => ⟨_, hx, rfl, fin ((X95.trans X101).trans X105)⟩
      refine ⟨fun hneg => ?_, fun hpos => ⟨fun hge => ?_, fun hlt => ?_⟩⟩
      · have hz0 : atC L at_ = (Ent.zero, 2) := by unfold atC; rw [if_pos (.inl hneg)]
        exact ⟨fun _ w95 X95 => zsame hz0 w95 X95, fun h => absurd (by rw [hz0]) h⟩
      · have hz0 : atC L at_ = (Ent.zero, 2) := by unfold atC; rw [if_pos (.inr (by omega))]
        exact ⟨fun _ w95 X95 => zsame hz0 w95 X95, fun h => absurd (by rw [hz0]) h⟩
      · intro w95 p118 X95 hp118
        have hA : atC L at_ = ((L.es[at_.toNat]?).getD Ent.zero, 0) := by unfold atC; rw [if_neg (by omega)]
        have hi : at_.toNat < l1.length := by omega
        have hgx : l1[at_.toNat]? = some l1[at_.toNat] := List.getElem?_eq_getElem hi
        have hxm := List.getElem_mem hi
        generalize l1[at_.toNat] = x at *
        have hae : (atC L at_).1 = x.e := by rw [hA, ← hmap, List.getElem?_map, hgx]; rfl
        have hokx := kept1.oks x hxm
        obtain ⟨s95, M95⟩ := Step.priv X95 hp118 s86'.ok
        have g118 := hp118 p118 (by simp)
        refine (At_nil 0).mono fun v w129 ⟨hx, X129⟩ => ⟨_, _, _, _, _, _, _, _, _, _, _, hx, X129.kept, fun w138 X138 => ?_⟩
        refine (Issue_nil s 1 0 0 none 0 0).mono fun v w150 ⟨hx, X150⟩ => ⟨_, _, _, _, _, _, _, _, _, _, _, hx, X150.kept, fun w159 X159 => ?_⟩
        have s159 := (Step.of_no (((X129.trans X138).trans X150).trans X159) s95.ok)
        refine (Odds_nil s159.ok (e := (atC L at_).1)).mono fun v w179 ⟨hx, o179, s179⟩ => ⟨_, _, _, _, _, _, _, _, _, _, _, _, _, _, _, _, _, _, _, _, _, hx, (M95.step s159).keep s179 (fun _ _ => id), fun _ => ?_, fun h => absurd (by rw [hA]) h⟩
        have s86179 := (s95.trans s159).trans s179
        have s1179 := s86'.trans s86179
        have k179 := kept1.step s1179 fun i hi => hi.elim
        obtain ⟨bd, hbd⟩ := kept1.row.row.faddr PE.len (by decide) hi
        refine ⟨bd, hbd, by omega, by omega, x.e.w, x.e.i, x.e.pv, x.e.t, x.e.tw, x.e.ep, x.a, x.e.body.length, x.c, x.e.sg, PE.loads k179.row.row hbd hgx, fun w198 X198 => ?_⟩
        have M179 := (M95.step s159).step s179
        have s198 := Step.of_no X198 s179.ok
        refine (rESame_spec (e := (atC L at_).1) (f := x.e) (((r86.step s86179).step s198).1) (((hokx.1.step s1179).step s198).1) ?_).mono fun v w214 ⟨hx, X214⟩ => ⟨_, hx, X214.kept, fun _ => ?_, fun h => absurd h (by rw [hae]; simp)⟩
        · rw [hae]
          have := hbodies x.e (by rw [← hmap]; exact List.mem_map_of_mem hxm)
          have h2 := ((entRight_iff _).1 (one1.lok.good at_.toNat x.e (by rw [← hmap, List.getElem?_map, hgx]; rfl)).1.right).2.2.2.2.2.2.2.2.2.1
          omega
        refine Writer_nil.mono fun v w218 ⟨hx, hw⟩ => ⟨_, hx, by subst hw; exact Keep.refl _ _, fun _ => ?_, fun h => absurd rfl h⟩
        subst hw
        refine Len_nil.mono fun v w222 ⟨hx, hw⟩ => ⟨_, hx, by subst hw; exact Keep.refl _ _, fun _ => ?_, fun h => absurd rfl h⟩
        subst hw
        refine Head_nil.mono fun v w228 ⟨hx, X228⟩ => ⟨_, _, _, hx, X228.kept, fun _ => ⟨fun _ => ⟨fun _ => ?_, fun h => absurd rfl h⟩, fun h => absurd rfl h⟩, fun h => absurd ⟨rfl, rfl, rfl⟩ h⟩
        refine (Check_nil (e := (atC L at_).1)).mono fun v w236 ⟨hx, X236⟩ => ⟨_, hx, X236.kept, fun _ => ?_, fun h => absurd rfl h⟩
        refine (Accept_nil (e := (atC L at_).1)).mono fun v w240 ⟨hx, X240⟩ => ⟨_, hx, fun _ => ⟨fun _ => ?_, fun h => absurd h (by decide)⟩, fun h => absurd rfl h⟩
        refine (alive7_spec w240).mono fun v w245 ⟨hx, X245⟩ => ⟨_, hx, rfl, fin ?_⟩
        exact (s86179.ext.mono fun b ⟨_, _, h⟩ _ => h).trans (((((X198.trans X214).trans X228).trans X236).trans X240).trans X245)
theorem ChainAts_walk (W : World) (a0 : Option Addr) (len0 cap0 : Nat) (n1 : Int) (o0 : COsQ W [.slice a0 len0 cap0]) (w1 : (Lit.int .i64 n1).wf = true) :
    Calls Try.prog 8 #[.slice a0 len0 cap0, .int .i64 n1] W (Ret (.bool true) fun w' => Ext no W w') := by
  obtain ⟨_, c1, l, e1, l1, _, r1, f1⟩ := o0
  cases e1
  exact ChainAts_spec W r1 f1 n1
end Go.Proofs.Ytnppbflccbpoeaa
