/- What the functions of the oracle come to, printed by a program of ours (mgen.py) and checked by the kernel. -/
import Derived.Test.YtlfijjmjmgobhaaFol
import Derived.KernelRfl
set_option linter.unusedVariables false
set_option maxRecDepth 20000
namespace Go.Proofs.Ytlfijjmjmgobhaa
open Go Go.Mx Go.Proofs
/-- slices.Clone[[]uint64,uint64] -/
def clone64.M (s1a : Option Addr) (s1n : Nat) (s1c : Nat) (R : Value → World → Prop) (w : World) : Prop :=
  bif Option.isNone s1a then (
  R (.slice none 0 0) w) else (
  thenW (w.alloc (.cells #[] 23)) fun ww2 =>
  ∃ (a3a : Option Addr) (a3n : Nat) (a3c : Nat) (ww4 : World), (Builtin.append_ #[22, 22] 22 #[.slice (some (blk w.heap.size)) 0 0, .slice s1a s1n s1c]).run Try.prog ww2 = .ok (.slice a3a a3n a3c) ww4 ∧
  R (.slice a3a a3n a3c) ww4)

theorem clone64.eq (s1a : Option Addr) (s1n : Nat) (s1c : Nat) (R : Value → World → Prop) (w : World) : mfunc Try.prog [] 44 [.slice s1a s1n s1c] R w = clone64.M s1a s1n s1c R w := by kernel_rfl
theorem clone64.ok (s1a : Option Addr) (s1n : Nat) (s1c : Nat) {R : Value → World → Prop} {w : World} (h : clone64.M s1a s1n s1c R w) : Calls Try.prog 44 #[.slice s1a s1n s1c] w fun e w' => ∃ v, e = .returned v ∧ R v w' :=
  mfunc_ok follows (H := []) (args := [.slice s1a s1n s1c]) (by rw [clone64.eq]; exact h)

/-- slices.Clone[[]byte,byte] -/
def cloneB.M (s1a : Option Addr) (s1n : Nat) (s1c : Nat) (R : Value → World → Prop) (w : World) : Prop :=
  bif Option.isNone s1a then (
  R (.slice none 0 0) w) else (
  thenW (w.alloc (.cells #[] 5)) fun ww2 =>
  ∃ (a3a : Option Addr) (a3n : Nat) (a3c : Nat) (ww4 : World), (Builtin.append_ #[26, 26] 26 #[.slice (some (blk w.heap.size)) 0 0, .slice s1a s1n s1c]).run Try.prog ww2 = .ok (.slice a3a a3n a3c) ww4 ∧
  R (.slice a3a a3n a3c) ww4)

theorem cloneB.eq (s1a : Option Addr) (s1n : Nat) (s1c : Nat) (R : Value → World → Prop) (w : World) : mfunc Try.prog [] 87 [.slice s1a s1n s1c] R w = cloneB.M s1a s1n s1c R w := by kernel_rfl
theorem cloneB.ok (s1a : Option Addr) (s1n : Nat) (s1c : Nat) {R : Value → World → Prop} {w : World} (h : cloneB.M s1a s1n s1c R w) : Calls Try.prog 87 #[.slice s1a s1n s1c] w fun e w' => ∃ v, e = .returned v ∧ R v w' :=
  mfunc_ok follows (H := []) (args := [.slice s1a s1n s1c]) (by rw [cloneB.eq]; exact h)

/-- cachetteref01.Same -/
def same.M (a1a : Option Addr) (a1n : Nat) (a1c : Nat) (b2a : Option Addr) (b2n : Nat) (b2c : Nat) (R : Value → World → Prop) (w : World) : Prop :=
  bif (a1n : Int) != (b2n : Int) then (
  R (.bool false) w) else (
  ∃ (I0 : Nat → List Value → World → Prop) (m4 : Nat), I0 m4 [.int .i64 0] w ∧ ∀ (m5 : Nat) (ww6 : World) (i3 : Int), I0 m5 [.int .i64 i3] ww6 →
  bif decide (i3 < (a1n : Int)) then (
  thenW (ww6.drew) fun ww7 =>
  a1a.elim False fun a8 =>
  0 ≤ (i3 : Int) ∧ (i3 : Int) < (a1n : Int) ∧
  ∃ (x9 : Int), ww7.cell? (a8.add (Int.toNat i3 * 1)) = some (.int .u8 x9) ∧
  b2a.elim False fun a10 =>
  0 ≤ (i3 : Int) ∧ (i3 : Int) < (b2n : Int) ∧
  ∃ (x11 : Int), ww7.cell? (a10.add (Int.toNat i3 * 1)) = some (.int .u8 x11) ∧
  bif x9 != x11 then (
  R (.bool false) ww7) else (
  ∃ m12, m12 < m5 ∧ I0 m12 [.int .i64 (IntKind.i64.wrap (i3 + 1))] ww7)) else (
  R (.bool true) ww6))

theorem same.eq (a1a : Option Addr) (a1n : Nat) (a1c : Nat) (b2a : Option Addr) (b2n : Nat) (b2c : Nat) (R : Value → World → Prop) (w : World) : mfunc Try.prog [(0, [0, 1], [(5, (.one (.int .i64)))])] 29 [.slice a1a a1n a1c, .slice b2a b2n b2c] R w = same.M a1a a1n a1c b2a b2n b2c R w := by kernel_rfl
theorem same.ok (a1a : Option Addr) (a1n : Nat) (a1c : Nat) (b2a : Option Addr) (b2n : Nat) (b2c : Nat) {R : Value → World → Prop} {w : World} (h : same.M a1a a1n a1c b2a b2n b2c R w) : Calls Try.prog 29 #[.slice a1a a1n a1c, .slice b2a b2n b2c] w fun e w' => ∃ v, e = .returned v ∧ R v w' :=
  mfunc_ok follows (H := [(0, [0, 1], [(5, (.one (.int .i64)))])]) (args := [.slice a1a a1n a1c, .slice b2a b2n b2c]) (by rw [same.eq]; exact h)

/-- oracle.New -/
def oNew.M (draws1a : Option Addr) (draws1n : Nat) (draws1c : Nat) (R : Value → World → Prop) (w : World) : Prop :=
  Calls Try.prog 44 #[.slice draws1a draws1n draws1c] w fun ee3 ww4 => ∃ (clone2a : Option Addr) (clone2n : Nat) (clone2c : Nat), ee3 = .returned (.slice clone2a clone2n clone2c) ∧
  thenW (ww4.alloc (.map #[] 0)) fun ww5 =>
  thenW (ww5.alloc (.map #[] 0)) fun ww6 =>
  thenW (ww6.alloc (.map #[] 0)) fun ww7 =>
  thenW (ww7.alloc (.map #[] 0)) fun ww8 =>
  thenW (ww8.alloc (.map #[] 0)) fun ww9 =>
  thenW (ww9.alloc (.map #[] 0)) fun ww10 =>
  thenW (ww10.alloc (.map #[] 0)) fun ww11 =>
  thenW (ww11.alloc (.map #[] 0)) fun ww12 =>
  thenW (ww12.alloc (.map #[] 0)) fun ww13 =>
  thenW (ww13.alloc (.cells #[.slice clone2a clone2n clone2c, .map (some ww4.heap.size), .int .u64 1, .map (some ww5.heap.size), .map (some ww6.heap.size), .map (some ww7.heap.size), .map (some ww8.heap.size), .map (some ww9.heap.size), .map (some ww10.heap.size), .map (some ww11.heap.size), .map (some ww12.heap.size)] 112)) fun ww14 =>
  R (.pointer (some (blk ww13.heap.size))) ww14

theorem oNew.eq (draws1a : Option Addr) (draws1n : Nat) (draws1c : Nat) (R : Value → World → Prop) (w : World) : mfunc Try.prog [] 10 [.slice draws1a draws1n draws1c] R w = oNew.M draws1a draws1n draws1c R w := by kernel_rfl
theorem oNew.ok (draws1a : Option Addr) (draws1n : Nat) (draws1c : Nat) {R : Value → World → Prop} {w : World} (h : oNew.M draws1a draws1n draws1c R w) : Calls Try.prog 10 #[.slice draws1a draws1n draws1c] w fun e w' => ∃ v, e = .returned v ∧ R v w' :=
  mfunc_ok follows (H := []) (args := [.slice draws1a draws1n draws1c]) (by rw [oNew.eq]; exact h)

/-- (*oracle.Oracle).take -/
def oTake.M (o1 : Option Addr) (h2 : Int) (R : Value → World → Prop) (w : World) : Prop :=
  bif h2 == 0 then (
  R (.bool false) w) else (
  o1.elim False fun a3 =>
  ∃ (used4 : Option Nat), w.cell? (a3.add 1) = some (.map used4) ∧
  ∃ (v5 : Bool), (Instr.lookup 104 (.map used4) (.int .u64 h2) false).run Try.prog w = .ok (.bool v5) w ∧
  bif v5 then (
  R (.bool false) w) else (
  o1.elim False fun a6 =>
  ∃ (used7 : Option Nat), w.cell? (a6.add 1) = some (.map used7) ∧
  ∃ ww8 : World, (Instr.mapUpdate 104 (.map used7) (.int .u64 h2) (.bool true)).run Try.prog w = .ok () ww8 ∧
  R (.bool true) ww8))

theorem oTake.eq (o1 : Option Addr) (h2 : Int) (R : Value → World → Prop) (w : World) : mfunc Try.prog [] 78 [.pointer o1, .int .u64 h2] R w = oTake.M o1 h2 R w := by kernel_rfl
theorem oTake.ok (o1 : Option Addr) (h2 : Int) {R : Value → World → Prop} {w : World} (h : oTake.M o1 h2 R w) : Calls Try.prog 78 #[.pointer o1, .int .u64 h2] w fun e w' => ∃ v, e = .returned v ∧ R v w' :=
  mfunc_ok follows (H := []) (args := [.pointer o1, .int .u64 h2]) (by rw [oTake.eq]; exact h)

/-- (*oracle.Oracle).fresh -/
def oFresh.M (o1 : Option Addr) (R : Value → World → Prop) (w : World) : Prop :=
  ∃ (I0 : Nat → List Value → World → Prop) (m2 : Nat), I0 m2 [] w ∧ ∀ (m3 : Nat) (ww4 : World), I0 m3 [] ww4 →
  o1.elim False fun a5 =>
  ∃ (draws6a : Option Addr) (draws6n : Nat) (draws6c : Nat), ww4.cell? (a5.add 0) = some (.slice draws6a draws6n draws6c) ∧
  bif decide ((draws6n : Int) > 0) then (
  o1.elim False fun a7 =>
  ∃ (draws8a : Option Addr) (draws8n : Nat) (draws8c : Nat), ww4.cell? (a7.add 0) = some (.slice draws8a draws8n draws8c) ∧
  draws8a.elim False fun a9 =>
  0 ≤ (0 : Int) ∧ (0 : Int) < (draws8n : Int) ∧
  ∃ (x10 : Int), ww4.cell? (a9.add (Int.toNat 0 * 1)) = some (.int .u64 x10) ∧
  o1.elim False fun a11 =>
  ∃ (draws12a : Option Addr) (draws12n : Nat) (draws12c : Nat), ww4.cell? (a11.add 0) = some (.slice draws12a draws12n draws12c) ∧
  (0 : Int) ≤ (1 : Int) ∧ (1 : Int) ≤ (draws12n : Int) ∧
  o1.elim False fun a13 =>
  canStore ww4 ((a13.add 0).add 0) ∧
  thenW (ww4.setCell ((a13.add 0).add 0) (.slice (if draws12c = Int.toNat 1 then draws12a else Option.map (fun z : Addr => z.add ((Int.toNat 1) * 1)) draws12a) (draws12n - (Int.toNat 1)) (draws12c - (Int.toNat 1)))) fun ww14 =>
  Calls Try.prog 78 #[.pointer o1, .int .u64 x10] ww14 fun ee16 ww17 => ∃ (take15 : Bool), ee16 = .returned (.bool take15) ∧
  bif take15 then (
  R (.int .u64 x10) ww17) else (
  ∃ m18, m18 < m3 ∧ I0 m18 [] ww17)) else (
  ∃ (I2 : Nat → List Value → World → Prop) (m19 : Nat), I2 m19 [] ww4 ∧ ∀ (m20 : Nat) (ww21 : World), I2 m20 [] ww21 →
  o1.elim False fun a22 =>
  ∃ (next23 : Int), ww21.cell? (a22.add 2) = some (.int .u64 next23) ∧
  Calls Try.prog 78 #[.pointer o1, .int .u64 next23] ww21 fun ee25 ww26 => ∃ (take24 : Bool), ee25 = .returned (.bool take24) ∧
  bif !take24 then (
  o1.elim False fun a27 =>
  ∃ (next28 : Int), ww26.cell? (a27.add 2) = some (.int .u64 next28) ∧
  o1.elim False fun a29 =>
  canStore ww26 ((a29.add 2).add 0) ∧
  thenW (ww26.setCell ((a29.add 2).add 0) (.int .u64 (IntKind.u64.wrap (next28 + 1)))) fun ww30 =>
  ∃ m31, m31 < m20 ∧ I2 m31 [] ww30) else (
  o1.elim False fun a32 =>
  ∃ (next33 : Int), ww26.cell? (a32.add 2) = some (.int .u64 next33) ∧
  R (.int .u64 next33) ww26))

theorem oFresh.eq (o1 : Option Addr) (R : Value → World → Prop) (w : World) : mfunc Try.prog [(0, [0, 3], []), (2, [0, 3], [])] 45 [.pointer o1] R w = oFresh.M o1 R w := by kernel_rfl
theorem oFresh.ok (o1 : Option Addr) {R : Value → World → Prop} {w : World} (h : oFresh.M o1 R w) : Calls Try.prog 45 #[.pointer o1] w fun e w' => ∃ v, e = .returned v ∧ R v w' :=
  mfunc_ok follows (H := [(0, [0, 3], []), (2, [0, 3], [])]) (args := [.pointer o1]) (by rw [oFresh.eq]; exact h)

/-- (*oracle.Oracle).Hash -/
def oHash.M (o1 : Option Addr) (b2a : Option Addr) (b2n : Nat) (b2c : Nat) (R : Value → World → Prop) (w : World) : Prop :=
  bif Option.isNone o1 then (
  R (.int .u64 0) w) else (
  thenW (w.drew) fun ww3 =>
  o1.elim False fun a4 =>
  ∃ (hashes5 : Option Nat), ww3.cell? (a4.add 3) = some (.map hashes5) ∧
  ∃ (s6 : ByteArray), (convert 26 9 (.slice b2a b2n b2c)).run Try.prog ww3 = .ok (.string s6) ww3 ∧
  ∃ (v7 : Int) (v8 : Bool), (Instr.lookup 105 (.map hashes5) (.string s6) true).run Try.prog ww3 = .ok (.tuple #[.int .u64 v7, .bool v8]) ww3 ∧
  bif !v8 then (
  Calls Try.prog 45 #[.pointer o1] ww3 fun ee10 ww11 => ∃ (fresh9 : Int), ee10 = .returned (.int .u64 fresh9) ∧
  thenW (ww11.drew) fun ww12 =>
  o1.elim False fun a13 =>
  ∃ (hashes14 : Option Nat), ww12.cell? (a13.add 3) = some (.map hashes14) ∧
  ∃ (s15 : ByteArray), (convert 26 9 (.slice b2a b2n b2c)).run Try.prog ww12 = .ok (.string s15) ww12 ∧
  ∃ ww16 : World, (Instr.mapUpdate 105 (.map hashes14) (.string s15) (.int .u64 fresh9)).run Try.prog ww12 = .ok () ww16 ∧
  R (.int .u64 fresh9) ww16) else (
  R (.int .u64 v7) ww3))

theorem oHash.eq (o1 : Option Addr) (b2a : Option Addr) (b2n : Nat) (b2c : Nat) (R : Value → World → Prop) (w : World) : mfunc Try.prog [] 110 [.pointer o1, .slice b2a b2n b2c] R w = oHash.M o1 b2a b2n b2c R w := by kernel_rfl
theorem oHash.ok (o1 : Option Addr) (b2a : Option Addr) (b2n : Nat) (b2c : Nat) {R : Value → World → Prop} {w : World} (h : oHash.M o1 b2a b2n b2c R w) : Calls Try.prog 110 #[.pointer o1, .slice b2a b2n b2c] w fun e w' => ∃ v, e = .returned v ∧ R v w' :=
  mfunc_ok follows (H := []) (args := [.pointer o1, .slice b2a b2n b2c]) (by rw [oHash.eq]; exact h)

/-- (*oracle.Oracle).Pair -/
def oPair.M (o1 : Option Addr) (R : Value → World → Prop) (w : World) : Prop :=
  bif Option.isNone o1 then (
  R (.tuple #[.int .u64 0, .int .u64 0]) w) else (
  Calls Try.prog 45 #[.pointer o1] w fun ee3 ww4 => ∃ (fresh2 : Int), ee3 = .returned (.int .u64 fresh2) ∧
  o1.elim False fun a5 =>
  ∃ (secrets6 : Option Nat), ww4.cell? (a5.add 5) = some (.map secrets6) ∧
  ∃ ww7 : World, (Instr.mapUpdate 104 (.map secrets6) (.int .u64 fresh2) (.bool true)).run Try.prog ww4 = .ok () ww7 ∧
  Calls Try.prog 45 #[.pointer o1] ww7 fun ee9 ww10 => ∃ (fresh8 : Int), ee9 = .returned (.int .u64 fresh8) ∧
  o1.elim False fun a11 =>
  ∃ (publics12 : Option Nat), ww10.cell? (a11.add 6) = some (.map publics12) ∧
  ∃ ww13 : World, (Instr.mapUpdate 106 (.map publics12) (.int .u64 fresh8) (.int .u64 fresh2)).run Try.prog ww10 = .ok () ww13 ∧
  R (.tuple #[.int .u64 fresh2, .int .u64 fresh8]) ww13)

theorem oPair.eq (o1 : Option Addr) (R : Value → World → Prop) (w : World) : mfunc Try.prog [] 11 [.pointer o1] R w = oPair.M o1 R w := by kernel_rfl
theorem oPair.ok (o1 : Option Addr) {R : Value → World → Prop} {w : World} (h : oPair.M o1 R w) : Calls Try.prog 11 #[.pointer o1] w fun e w' => ∃ v, e = .returned v ∧ R v w' :=
  mfunc_ok follows (H := []) (args := [.pointer o1]) (by rw [oPair.eq]; exact h)

/-- (*oracle.Oracle).Sign -/
def oSign.M (o1 : Option Addr) (secret2 : Int) (b3a : Option Addr) (b3n : Nat) (b3c : Nat) (R : Value → World → Prop) (w : World) : Prop :=
  bif Option.isNone o1 then (
  R (.tuple #[.int .u64 0, .int .i64 23]) w) else (
  o1.elim False fun a4 =>
  ∃ (secrets5 : Option Nat), w.cell? (a4.add 5) = some (.map secrets5) ∧
  ∃ (v6 : Bool), (Instr.lookup 104 (.map secrets5) (.int .u64 secret2) false).run Try.prog w = .ok (.bool v6) w ∧
  bif !v6 then (
  R (.tuple #[.int .u64 0, .int .i64 11]) w) else (
  ∃ (s7 : ByteArray), (convert 26 9 (.slice b3a b3n b3c)).run Try.prog w = .ok (.string s7) w ∧
  thenW (w.alloc (.cells #[.int .u64 0, .string ByteArray.empty] 149)) fun ww8 =>
  canStore ww8 ((blk w.heap.size).add 0) ∧
  thenW (ww8.setCell ((blk w.heap.size).add 0) (.int .u64 secret2)) fun ww9 =>
  canStore ww9 ((blk w.heap.size).add 1) ∧
  thenW (ww9.setCell ((blk w.heap.size).add 1) (.string s7)) fun ww10 =>
  thenW (ww10.drew) fun ww11 =>
  o1.elim False fun a12 =>
  ∃ (signs13 : Option Nat), ww11.cell? (a12.add 7) = some (.map signs13) ∧
  ∃ (xSecret14 : Int) (xText15 : ByteArray), cellsAt ww11 (blk w.heap.size) [.int .u64 xSecret14, .string xText15] 0 ∧
  ∃ (v16 : Int) (v17 : Bool), (Instr.lookup 107 (.map signs13) (.agg #[.int .u64 xSecret14, .string xText15]) true).run Try.prog ww11 = .ok (.tuple #[.int .u64 v16, .bool v17]) ww11 ∧
  bif !v17 then (
  Calls Try.prog 45 #[.pointer o1] ww11 fun ee19 ww20 => ∃ (fresh18 : Int), ee19 = .returned (.int .u64 fresh18) ∧
  thenW (ww20.drew) fun ww21 =>
  o1.elim False fun a22 =>
  ∃ (signs23 : Option Nat), ww21.cell? (a22.add 7) = some (.map signs23) ∧
  ∃ (xSecret24 : Int) (xText25 : ByteArray), cellsAt ww21 (blk w.heap.size) [.int .u64 xSecret24, .string xText25] 0 ∧
  o1.elim False fun a26 =>
  ∃ (signed27 : Option Nat), ww21.cell? (a26.add 8) = some (.map signed27) ∧
  ∃ (xSecret28 : Int) (xText29 : ByteArray), cellsAt ww21 (blk w.heap.size) [.int .u64 xSecret28, .string xText29] 0 ∧
  ∃ (v30 : Int), ∃ (n31 : Int) (ww32 : World), (Instr.mapEntry 107 (.map signs23) (.agg #[.int .u64 xSecret24, .string xText25])).run Try.prog ww21 = .ok (.tuple #[.int .u64 v30, .int .i64 n31]) ww32 ∧
  cellsAt ww32 (blk w.heap.size) [.int .u64 xSecret28, .string xText29] 0 ∧
  ∃ ww33 : World, (Instr.entryStore 107 (.map signs23) (.int .i64 n31) (.int .u64 fresh18)).run Try.prog ww32 = .ok () ww33 ∧
  cellsAt ww33 (blk w.heap.size) [.int .u64 xSecret28, .string xText29] 0 ∧
  ∃ (v34 : Int) (v35 : ByteArray), ∃ (n36 : Int) (ww37 : World), (Instr.mapEntry 108 (.map signed27) (.int .u64 fresh18)).run Try.prog ww33 = .ok (.tuple #[.agg #[.int .u64 v34, .string v35], .int .i64 n36]) ww37 ∧
  cellsAt ww37 (blk w.heap.size) [.int .u64 xSecret28, .string xText29] 0 ∧
  ∃ ww38 : World, (Instr.entryStore 108 (.map signed27) (.int .i64 n36) (.agg #[.int .u64 xSecret28, .string xText29])).run Try.prog ww37 = .ok () ww38 ∧
  R (.tuple #[.int .u64 fresh18, .int .i64 0]) ww38) else (
  R (.tuple #[.int .u64 v16, .int .i64 0]) ww11)))

theorem oSign.eq (o1 : Option Addr) (secret2 : Int) (b3a : Option Addr) (b3n : Nat) (b3c : Nat) (R : Value → World → Prop) (w : World) : mfunc Try.prog [] 48 [.pointer o1, .int .u64 secret2, .slice b3a b3n b3c] R w = oSign.M o1 secret2 b3a b3n b3c R w := by kernel_rfl
theorem oSign.ok (o1 : Option Addr) (secret2 : Int) (b3a : Option Addr) (b3n : Nat) (b3c : Nat) {R : Value → World → Prop} {w : World} (h : oSign.M o1 secret2 b3a b3n b3c R w) : Calls Try.prog 48 #[.pointer o1, .int .u64 secret2, .slice b3a b3n b3c] w fun e w' => ∃ v, e = .returned v ∧ R v w' :=
  mfunc_ok follows (H := []) (args := [.pointer o1, .int .u64 secret2, .slice b3a b3n b3c]) (by rw [oSign.eq]; exact h)

/-- (*oracle.Oracle).Verify -/
def oVerify.M (o1 : Option Addr) (publicv2 : Int) (b3a : Option Addr) (b3n : Nat) (b3c : Nat) (sig4 : Int) (R : Value → World → Prop) (w : World) : Prop :=
  bif Option.isNone o1 then (
  R (.bool false) w) else (
  o1.elim False fun a5 =>
  ∃ (publics6 : Option Nat), w.cell? (a5.add 6) = some (.map publics6) ∧
  ∃ (v7 : Int) (v8 : Bool), (Instr.lookup 106 (.map publics6) (.int .u64 publicv2) true).run Try.prog w = .ok (.tuple #[.int .u64 v7, .bool v8]) w ∧
  o1.elim False fun a9 =>
  ∃ (signed10 : Option Nat), w.cell? (a9.add 8) = some (.map signed10) ∧
  ∃ (secret11 : Int) (text12 : ByteArray) (v13 : Bool), (Instr.lookup 108 (.map signed10) (.int .u64 sig4) true).run Try.prog w = .ok (.tuple #[.agg #[.int .u64 secret11, .string text12], .bool v13]) w ∧
  thenW (w.alloc (.cells #[.int .u64 0, .string ByteArray.empty] 149)) fun ww14 =>
  canStore ww14 ((blk w.heap.size).add 0) ∧
  thenW (ww14.setCell ((blk w.heap.size).add 0) (.int .u64 secret11)) fun ww15 =>
  canStore ww15 ((blk w.heap.size).add 1) ∧
  thenW (ww15.setCell ((blk w.heap.size).add 1) (.string text12)) fun ww16 =>
  bif v8 then (
  bif v13 then (
  ∃ (xSecret17 : Int) (xText18 : ByteArray), cellsAt ww16 (blk w.heap.size) [.int .u64 xSecret17, .string xText18] 0 ∧
  ∃ (s19 : ByteArray), (convert 26 9 (.slice b3a b3n b3c)).run Try.prog ww16 = .ok (.string s19) ww16 ∧
  ∃ (b20 : Bool), (binOp .eql 149 (.agg #[.int .u64 xSecret17, .string xText18]) (.agg #[.int .u64 v7, .string s19])).run Try.prog ww16 = .ok (.bool b20) ww16 ∧
  R (.bool b20) ww16) else (
  R (.bool false) ww16)) else (
  R (.bool false) ww16))

theorem oVerify.eq (o1 : Option Addr) (publicv2 : Int) (b3a : Option Addr) (b3n : Nat) (b3c : Nat) (sig4 : Int) (R : Value → World → Prop) (w : World) : mfunc Try.prog [] 68 [.pointer o1, .int .u64 publicv2, .slice b3a b3n b3c, .int .u64 sig4] R w = oVerify.M o1 publicv2 b3a b3n b3c sig4 R w := by kernel_rfl
theorem oVerify.ok (o1 : Option Addr) (publicv2 : Int) (b3a : Option Addr) (b3n : Nat) (b3c : Nat) (sig4 : Int) {R : Value → World → Prop} {w : World} (h : oVerify.M o1 publicv2 b3a b3n b3c sig4 R w) : Calls Try.prog 68 #[.pointer o1, .int .u64 publicv2, .slice b3a b3n b3c, .int .u64 sig4] w fun e w' => ∃ v, e = .returned v ∧ R v w' :=
  mfunc_ok follows (H := []) (args := [.pointer o1, .int .u64 publicv2, .slice b3a b3n b3c, .int .u64 sig4]) (by rw [oVerify.eq]; exact h)

/-- bytes.Equal -/
def bEqual.M (a1a : Option Addr) (a1n : Nat) (a1c : Nat) (b2a : Option Addr) (b2n : Nat) (b2c : Nat) (R : Value → World → Prop) (w : World) : Prop :=
  ∃ (s3 : ByteArray), (convert 26 9 (.slice a1a a1n a1c)).run Try.prog w = .ok (.string s3) w ∧
  ∃ (s4 : ByteArray), (convert 26 9 (.slice b2a b2n b2c)).run Try.prog w = .ok (.string s4) w ∧
  R (.bool (s3.toList == s4.toList)) w

theorem bEqual.eq (a1a : Option Addr) (a1n : Nat) (a1c : Nat) (b2a : Option Addr) (b2n : Nat) (b2c : Nat) (R : Value → World → Prop) (w : World) : mfunc Try.prog [] 86 [.slice a1a a1n a1c, .slice b2a b2n b2c] R w = bEqual.M a1a a1n a1c b2a b2n b2c R w := by kernel_rfl
theorem bEqual.ok (a1a : Option Addr) (a1n : Nat) (a1c : Nat) (b2a : Option Addr) (b2n : Nat) (b2c : Nat) {R : Value → World → Prop} {w : World} (h : bEqual.M a1a a1n a1c b2a b2n b2c R w) : Calls Try.prog 86 #[.slice a1a a1n a1c, .slice b2a b2n b2c] w fun e w' => ∃ v, e = .returned v ∧ R v w' :=
  mfunc_ok follows (H := []) (args := [.slice a1a a1n a1c, .slice b2a b2n b2c]) (by rw [bEqual.eq]; exact h)

theorem inf23 : (Try.prog.info? 23).map (fun i => (i.zero, i.size, i.bytes)) = some (some (.int .u64 0), 1, 8) := by kernel_rfl
theorem inf5 : (Try.prog.info? 5).map (fun i => (i.zero, i.size, i.bytes)) = some (some (.int .u8 0), 1, 1) := by kernel_rfl
theorem inf4 : (Try.prog.info? 4).map (fun i => (i.zero, i.size, i.bytes)) = some (some (.bool false), 1, 1) := by kernel_rfl
end Go.Proofs.Ytlfijjmjmgobhaa
