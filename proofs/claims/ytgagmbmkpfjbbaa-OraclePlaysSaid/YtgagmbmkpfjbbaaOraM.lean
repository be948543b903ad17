/- What the functions of the oracle come to, printed by a program of ours (mgen.py) and checked by the kernel. -/
import Derived.Test.YtgagmbmkpfjbbaaFol
import Derived.KernelRfl
set_option linter.unusedVariables false
set_option maxRecDepth 20000
namespace Go.Proofs.Ytgagmbmkpfjbbaa
open Go Go.Mx Go.Proofs
/-- slices.Clone[[]uint64,uint64] -/
def clone64.M (s1a : Option Addr) (s1n : Nat) (s1c : Nat) (R : Value → World → Prop) (w : World) : Prop :=
  bif Option.isNone s1a then (
  R (.slice none 0 0) w) else (
  thenW (w.alloc (.cells #[] 27)) fun ww2 =>
  ∃ (a3a : Option Addr) (a3n : Nat) (a3c : Nat) (ww4 : World), (Builtin.append_ #[22, 22] 22 #[.slice (some (blk w.heap.size)) 0 0, .slice s1a s1n s1c]).run Try.prog ww2 = .ok (.slice a3a a3n a3c) ww4 ∧
  R (.slice a3a a3n a3c) ww4)

theorem clone64.eq (s1a : Option Addr) (s1n : Nat) (s1c : Nat) (R : Value → World → Prop) (w : World) : mfunc Try.prog [] 17 [.slice s1a s1n s1c] R w = clone64.M s1a s1n s1c R w := by kernel_rfl
theorem clone64.ok (s1a : Option Addr) (s1n : Nat) (s1c : Nat) {R : Value → World → Prop} {w : World} (h : clone64.M s1a s1n s1c R w) : Calls Try.prog 17 #[.slice s1a s1n s1c] w fun e w' => ∃ v, e = .returned v ∧ R v w' :=
  mfunc_ok follows (H := []) (args := [.slice s1a s1n s1c]) (by rw [clone64.eq]; exact h)

/-- slices.Clone[[]byte,byte] -/
def cloneB.M (s1a : Option Addr) (s1n : Nat) (s1c : Nat) (R : Value → World → Prop) (w : World) : Prop :=
  bif Option.isNone s1a then (
  R (.slice none 0 0) w) else (
  thenW (w.alloc (.cells #[] 5)) fun ww2 =>
  ∃ (a3a : Option Addr) (a3n : Nat) (a3c : Nat) (ww4 : World), (Builtin.append_ #[23, 23] 23 #[.slice (some (blk w.heap.size)) 0 0, .slice s1a s1n s1c]).run Try.prog ww2 = .ok (.slice a3a a3n a3c) ww4 ∧
  R (.slice a3a a3n a3c) ww4)

theorem cloneB.eq (s1a : Option Addr) (s1n : Nat) (s1c : Nat) (R : Value → World → Prop) (w : World) : mfunc Try.prog [] 39 [.slice s1a s1n s1c] R w = cloneB.M s1a s1n s1c R w := by kernel_rfl
theorem cloneB.ok (s1a : Option Addr) (s1n : Nat) (s1c : Nat) {R : Value → World → Prop} {w : World} (h : cloneB.M s1a s1n s1c R w) : Calls Try.prog 39 #[.slice s1a s1n s1c] w fun e w' => ∃ v, e = .returned v ∧ R v w' :=
  mfunc_ok follows (H := []) (args := [.slice s1a s1n s1c]) (by rw [cloneB.eq]; exact h)

/-- cachetteref01.Same -/
def same.M (a1a : Option Addr) (a1n : Nat) (a1c : Nat) (b2a : Option Addr) (b2n : Nat) (b2c : Nat) (R : Value → World → Prop) (w : World) : Prop :=
  bif (a1n : Int) != (b2n : Int) then (
  R (.bool false) w) else (
  ∃ (I0 : Nat → List Value → World → Prop) (m4 : Nat), I0 m4 [.int .i64 0] w ∧ ∀ (m5 : Nat) (ww6 : World) (i3 : Int), I0 m5 [.int .i64 i3] ww6 →
  bif decide (i3 < (a1n : Int)) then (
  thenW (ww6.drew) fun ww7 =>
  a1a.elim False fun a8 =>
  0 ≤ (i3 : Int) ∧ (i3 : Int) < (a1n : Int) ∧
  ∃ (x9 : Int), ww7.cell? (a8.add (Int.toNat i3 * 1)) = some (.int .u8 x9) ∧
  b2a.elim False fun a10 =>
  0 ≤ (i3 : Int) ∧ (i3 : Int) < (b2n : Int) ∧
  ∃ (x11 : Int), ww7.cell? (a10.add (Int.toNat i3 * 1)) = some (.int .u8 x11) ∧
  bif x9 != x11 then (
  R (.bool false) ww7) else (
  ∃ m12, m12 < m5 ∧ I0 m12 [.int .i64 (IntKind.i64.wrap (i3 + 1))] ww7)) else (
  R (.bool true) ww6))

theorem same.eq (a1a : Option Addr) (a1n : Nat) (a1c : Nat) (b2a : Option Addr) (b2n : Nat) (b2c : Nat) (R : Value → World → Prop) (w : World) : mfunc Try.prog [(0, [0, 1], [(5, (.one (.int .i64)))])] 9 [.slice a1a a1n a1c, .slice b2a b2n b2c] R w = same.M a1a a1n a1c b2a b2n b2c R w := by kernel_rfl
theorem same.ok (a1a : Option Addr) (a1n : Nat) (a1c : Nat) (b2a : Option Addr) (b2n : Nat) (b2c : Nat) {R : Value → World → Prop} {w : World} (h : same.M a1a a1n a1c b2a b2n b2c R w) : Calls Try.prog 9 #[.slice a1a a1n a1c, .slice b2a b2n b2c] w fun e w' => ∃ v, e = .returned v ∧ R v w' :=
  mfunc_ok follows (H := [(0, [0, 1], [(5, (.one (.int .i64)))])]) (args := [.slice a1a a1n a1c, .slice b2a b2n b2c]) (by rw [same.eq]; exact h)

/-- oracle.New -/
def oNew.M (draws1a : Option Addr) (draws1n : Nat) (draws1c : Nat) (R : Value → World → Prop) (w : World) : Prop :=
  Calls Try.prog 17 #[.slice draws1a draws1n draws1c] w fun ee3 ww4 => ∃ (clone2a : Option Addr) (clone2n : Nat) (clone2c : Nat), ee3 = .returned (.slice clone2a clone2n clone2c) ∧
  thenW (ww4.alloc (.map #[] 0)) fun ww5 =>
  thenW (ww5.alloc (.map #[] 0)) fun ww6 =>
  thenW (ww6.alloc (.map #[] 0)) fun ww7 =>
  thenW (ww7.alloc (.map #[] 0)) fun ww8 =>
  thenW (ww8.alloc (.map #[] 0)) fun ww9 =>
  thenW (ww9.alloc (.map #[] 0)) fun ww10 =>
  thenW (ww10.alloc (.map #[] 0)) fun ww11 =>
  thenW (ww11.alloc (.map #[] 0)) fun ww12 =>
  thenW (ww12.alloc (.map #[] 0)) fun ww13 =>
  thenW (ww13.alloc (.cells #[.slice clone2a clone2n clone2c, .map (some ww4.heap.size), .int .u64 1, .map (some ww5.heap.size), .map (some ww6.heap.size), .map (some ww7.heap.size), .map (some ww8.heap.size), .map (some ww9.heap.size), .map (some ww10.heap.size), .map (some ww11.heap.size), .map (some ww12.heap.size)] 62)) fun ww14 =>
  R (.pointer (some (blk ww13.heap.size))) ww14

theorem oNew.eq (draws1a : Option Addr) (draws1n : Nat) (draws1c : Nat) (R : Value → World → Prop) (w : World) : mfunc Try.prog [] 7 [.slice draws1a draws1n draws1c] R w = oNew.M draws1a draws1n draws1c R w := by kernel_rfl
theorem oNew.ok (draws1a : Option Addr) (draws1n : Nat) (draws1c : Nat) {R : Value → World → Prop} {w : World} (h : oNew.M draws1a draws1n draws1c R w) : Calls Try.prog 7 #[.slice draws1a draws1n draws1c] w fun e w' => ∃ v, e = .returned v ∧ R v w' :=
  mfunc_ok follows (H := []) (args := [.slice draws1a draws1n draws1c]) (by rw [oNew.eq]; exact h)

/-- (*oracle.Oracle).take -/
def oTake.M (o1 : Option Addr) (h2 : Int) (R : Value → World → Prop) (w : World) : Prop :=
  bif h2 == 0 then (
  R (.bool false) w) else (
  o1.elim False fun a3 =>
  ∃ (used4 : Option Nat), w.cell? (a3.add 1) = some (.map used4) ∧
  ∃ (v5 : Bool), (Instr.lookup 54 (.map used4) (.int .u64 h2) false).run Try.prog w = .ok (.bool v5) w ∧
  bif v5 then (
  R (.bool false) w) else (
  o1.elim False fun a6 =>
  ∃ (used7 : Option Nat), w.cell? (a6.add 1) = some (.map used7) ∧
  ∃ ww8 : World, (Instr.mapUpdate 54 (.map used7) (.int .u64 h2) (.bool true)).run Try.prog w = .ok () ww8 ∧
  R (.bool true) ww8))

theorem oTake.eq (o1 : Option Addr) (h2 : Int) (R : Value → World → Prop) (w : World) : mfunc Try.prog [] 35 [.pointer o1, .int .u64 h2] R w = oTake.M o1 h2 R w := by kernel_rfl
theorem oTake.ok (o1 : Option Addr) (h2 : Int) {R : Value → World → Prop} {w : World} (h : oTake.M o1 h2 R w) : Calls Try.prog 35 #[.pointer o1, .int .u64 h2] w fun e w' => ∃ v, e = .returned v ∧ R v w' :=
  mfunc_ok follows (H := []) (args := [.pointer o1, .int .u64 h2]) (by rw [oTake.eq]; exact h)

/-- (*oracle.Oracle).fresh -/
def oFresh.M (o1 : Option Addr) (R : Value → World → Prop) (w : World) : Prop :=
  ∃ (I0 : Nat → List Value → World → Prop) (m2 : Nat), I0 m2 [] w ∧ ∀ (m3 : Nat) (ww4 : World), I0 m3 [] ww4 →
  o1.elim False fun a5 =>
  ∃ (draws6a : Option Addr) (draws6n : Nat) (draws6c : Nat), ww4.cell? (a5.add 0) = some (.slice draws6a draws6n draws6c) ∧
  bif decide ((draws6n : Int) > 0) then (
  o1.elim False fun a7 =>
  ∃ (draws8a : Option Addr) (draws8n : Nat) (draws8c : Nat), ww4.cell? (a7.add 0) = some (.slice draws8a draws8n draws8c) ∧
  draws8a.elim False fun a9 =>
  0 ≤ (0 : Int) ∧ (0 : Int) < (draws8n : Int) ∧
  ∃ (x10 : Int), ww4.cell? (a9.add (Int.toNat 0 * 1)) = some (.int .u64 x10) ∧
  o1.elim False fun a11 =>
  ∃ (draws12a : Option Addr) (draws12n : Nat) (draws12c : Nat), ww4.cell? (a11.add 0) = some (.slice draws12a draws12n draws12c) ∧
  (0 : Int) ≤ (1 : Int) ∧ (1 : Int) ≤ (draws12n : Int) ∧
  o1.elim False fun a13 =>
  canStore ww4 ((a13.add 0).add 0) ∧
  thenW (ww4.setCell ((a13.add 0).add 0) (.slice (if draws12c = Int.toNat 1 then draws12a else Option.map (fun z : Addr => z.add ((Int.toNat 1) * 1)) draws12a) (draws12n - (Int.toNat 1)) (draws12c - (Int.toNat 1)))) fun ww14 =>
  Calls Try.prog 35 #[.pointer o1, .int .u64 x10] ww14 fun ee16 ww17 => ∃ (take15 : Bool), ee16 = .returned (.bool take15) ∧
  bif take15 then (
  R (.int .u64 x10) ww17) else (
  ∃ m18, m18 < m3 ∧ I0 m18 [] ww17)) else (
  ∃ (I2 : Nat → List Value → World → Prop) (m19 : Nat), I2 m19 [] ww4 ∧ ∀ (m20 : Nat) (ww21 : World), I2 m20 [] ww21 →
  o1.elim False fun a22 =>
  ∃ (next23 : Int), ww21.cell? (a22.add 2) = some (.int .u64 next23) ∧
  Calls Try.prog 35 #[.pointer o1, .int .u64 next23] ww21 fun ee25 ww26 => ∃ (take24 : Bool), ee25 = .returned (.bool take24) ∧
  bif !take24 then (
  o1.elim False fun a27 =>
  ∃ (next28 : Int), ww26.cell? (a27.add 2) = some (.int .u64 next28) ∧
  o1.elim False fun a29 =>
  canStore ww26 ((a29.add 2).add 0) ∧
  thenW (ww26.setCell ((a29.add 2).add 0) (.int .u64 (IntKind.u64.wrap (next28 + 1)))) fun ww30 =>
  ∃ m31, m31 < m20 ∧ I2 m31 [] ww30) else (
  o1.elim False fun a32 =>
  ∃ (next33 : Int), ww26.cell? (a32.add 2) = some (.int .u64 next33) ∧
  R (.int .u64 next33) ww26))

theorem oFresh.eq (o1 : Option Addr) (R : Value → World → Prop) (w : World) : mfunc Try.prog [(0, [0, 3], []), (2, [0, 3], [])] 18 [.pointer o1] R w = oFresh.M o1 R w := by kernel_rfl
theorem oFresh.ok (o1 : Option Addr) {R : Value → World → Prop} {w : World} (h : oFresh.M o1 R w) : Calls Try.prog 18 #[.pointer o1] w fun e w' => ∃ v, e = .returned v ∧ R v w' :=
  mfunc_ok follows (H := [(0, [0, 3], []), (2, [0, 3], [])]) (args := [.pointer o1]) (by rw [oFresh.eq]; exact h)

/-- (*oracle.Oracle).Hash -/
def oHash.M (o1 : Option Addr) (b2a : Option Addr) (b2n : Nat) (b2c : Nat) (R : Value → World → Prop) (w : World) : Prop :=
  bif Option.isNone o1 then (
  R (.int .u64 0) w) else (
  thenW (w.drew) fun ww3 =>
  o1.elim False fun a4 =>
  ∃ (hashes5 : Option Nat), ww3.cell? (a4.add 3) = some (.map hashes5) ∧
  ∃ (s6 : ByteArray), (convert 23 9 (.slice b2a b2n b2c)).run Try.prog ww3 = .ok (.string s6) ww3 ∧
  ∃ (v7 : Int) (v8 : Bool), (Instr.lookup 55 (.map hashes5) (.string s6) true).run Try.prog ww3 = .ok (.tuple #[.int .u64 v7, .bool v8]) ww3 ∧
  bif !v8 then (
  Calls Try.prog 18 #[.pointer o1] ww3 fun ee10 ww11 => ∃ (fresh9 : Int), ee10 = .returned (.int .u64 fresh9) ∧
  thenW (ww11.drew) fun ww12 =>
  o1.elim False fun a13 =>
  ∃ (hashes14 : Option Nat), ww12.cell? (a13.add 3) = some (.map hashes14) ∧
  ∃ (s15 : ByteArray), (convert 23 9 (.slice b2a b2n b2c)).run Try.prog ww12 = .ok (.string s15) ww12 ∧
  ∃ ww16 : World, (Instr.mapUpdate 55 (.map hashes14) (.string s15) (.int .u64 fresh9)).run Try.prog ww12 = .ok () ww16 ∧
  R (.int .u64 fresh9) ww16) else (
  R (.int .u64 v7) ww3))

theorem oHash.eq (o1 : Option Addr) (b2a : Option Addr) (b2n : Nat) (b2c : Nat) (R : Value → World → Prop) (w : World) : mfunc Try.prog [] 8 [.pointer o1, .slice b2a b2n b2c] R w = oHash.M o1 b2a b2n b2c R w := by kernel_rfl
theorem oHash.ok (o1 : Option Addr) (b2a : Option Addr) (b2n : Nat) (b2c : Nat) {R : Value → World → Prop} {w : World} (h : oHash.M o1 b2a b2n b2c R w) : Calls Try.prog 8 #[.pointer o1, .slice b2a b2n b2c] w fun e w' => ∃ v, e = .returned v ∧ R v w' :=
  mfunc_ok follows (H := []) (args := [.pointer o1, .slice b2a b2n b2c]) (by rw [oHash.eq]; exact h)

/-- (*oracle.Oracle).Key -/
def oKey.M (o1 : Option Addr) (R : Value → World → Prop) (w : World) : Prop :=
  bif Option.isNone o1 then (
  R (.int .u64 0) w) else (
  Calls Try.prog 18 #[.pointer o1] w fun ee3 ww4 => ∃ (fresh2 : Int), ee3 = .returned (.int .u64 fresh2) ∧
  o1.elim False fun a5 =>
  ∃ (keys6 : Option Nat), ww4.cell? (a5.add 4) = some (.map keys6) ∧
  ∃ ww7 : World, (Instr.mapUpdate 54 (.map keys6) (.int .u64 fresh2) (.bool true)).run Try.prog ww4 = .ok () ww7 ∧
  R (.int .u64 fresh2) ww7)

theorem oKey.eq (o1 : Option Addr) (R : Value → World → Prop) (w : World) : mfunc Try.prog [] 16 [.pointer o1] R w = oKey.M o1 R w := by kernel_rfl
theorem oKey.ok (o1 : Option Addr) {R : Value → World → Prop} {w : World} (h : oKey.M o1 R w) : Calls Try.prog 16 #[.pointer o1] w fun e w' => ∃ v, e = .returned v ∧ R v w' :=
  mfunc_ok follows (H := []) (args := [.pointer o1]) (by rw [oKey.eq]; exact h)

/-- (*oracle.Oracle).Pair -/
def oPair.M (o1 : Option Addr) (R : Value → World → Prop) (w : World) : Prop :=
  bif Option.isNone o1 then (
  R (.tuple #[.int .u64 0, .int .u64 0]) w) else (
  Calls Try.prog 18 #[.pointer o1] w fun ee3 ww4 => ∃ (fresh2 : Int), ee3 = .returned (.int .u64 fresh2) ∧
  o1.elim False fun a5 =>
  ∃ (secrets6 : Option Nat), ww4.cell? (a5.add 5) = some (.map secrets6) ∧
  ∃ ww7 : World, (Instr.mapUpdate 54 (.map secrets6) (.int .u64 fresh2) (.bool true)).run Try.prog ww4 = .ok () ww7 ∧
  Calls Try.prog 18 #[.pointer o1] ww7 fun ee9 ww10 => ∃ (fresh8 : Int), ee9 = .returned (.int .u64 fresh8) ∧
  o1.elim False fun a11 =>
  ∃ (publics12 : Option Nat), ww10.cell? (a11.add 6) = some (.map publics12) ∧
  ∃ ww13 : World, (Instr.mapUpdate 56 (.map publics12) (.int .u64 fresh8) (.int .u64 fresh2)).run Try.prog ww10 = .ok () ww13 ∧
  R (.tuple #[.int .u64 fresh2, .int .u64 fresh8]) ww13)

theorem oPair.eq (o1 : Option Addr) (R : Value → World → Prop) (w : World) : mfunc Try.prog [] 10 [.pointer o1] R w = oPair.M o1 R w := by kernel_rfl
theorem oPair.ok (o1 : Option Addr) {R : Value → World → Prop} {w : World} (h : oPair.M o1 R w) : Calls Try.prog 10 #[.pointer o1] w fun e w' => ∃ v, e = .returned v ∧ R v w' :=
  mfunc_ok follows (H := []) (args := [.pointer o1]) (by rw [oPair.eq]; exact h)

/-- (*oracle.Oracle).Used -/
def oUsed.M (o1 : Option Addr) (R : Value → World → Prop) (w : World) : Prop :=
  bif Option.isNone o1 then (
  R (.int .i64 0) w) else (
  o1.elim False fun a2 =>
  ∃ (used3 : Option Nat), w.cell? (a2.add 1) = some (.map used3) ∧
  ∃ (n4 : Int), (Builtin.len_ #[54] 3 #[.map used3]).run Try.prog w = .ok (.int .i64 n4) w ∧
  R (.int .i64 n4) w)

theorem oUsed.eq (o1 : Option Addr) (R : Value → World → Prop) (w : World) : mfunc Try.prog [] 15 [.pointer o1] R w = oUsed.M o1 R w := by kernel_rfl
theorem oUsed.ok (o1 : Option Addr) {R : Value → World → Prop} {w : World} (h : oUsed.M o1 R w) : Calls Try.prog 15 #[.pointer o1] w fun e w' => ∃ v, e = .returned v ∧ R v w' :=
  mfunc_ok follows (H := []) (args := [.pointer o1]) (by rw [oUsed.eq]; exact h)

/-- (*oracle.Oracle).Sign -/
def oSign.M (o1 : Option Addr) (secret2 : Int) (b3a : Option Addr) (b3n : Nat) (b3c : Nat) (R : Value → World → Prop) (w : World) : Prop :=
  bif Option.isNone o1 then (
  R (.tuple #[.int .u64 0, .int .i64 23]) w) else (
  o1.elim False fun a4 =>
  ∃ (secrets5 : Option Nat), w.cell? (a4.add 5) = some (.map secrets5) ∧
  ∃ (v6 : Bool), (Instr.lookup 54 (.map secrets5) (.int .u64 secret2) false).run Try.prog w = .ok (.bool v6) w ∧
  bif !v6 then (
  R (.tuple #[.int .u64 0, .int .i64 11]) w) else (
  ∃ (s7 : ByteArray), (convert 23 9 (.slice b3a b3n b3c)).run Try.prog w = .ok (.string s7) w ∧
  thenW (w.alloc (.cells #[.int .u64 0, .string ByteArray.empty] 65)) fun ww8 =>
  canStore ww8 ((blk w.heap.size).add 0) ∧
  thenW (ww8.setCell ((blk w.heap.size).add 0) (.int .u64 secret2)) fun ww9 =>
  canStore ww9 ((blk w.heap.size).add 1) ∧
  thenW (ww9.setCell ((blk w.heap.size).add 1) (.string s7)) fun ww10 =>
  thenW (ww10.drew) fun ww11 =>
  o1.elim False fun a12 =>
  ∃ (signs13 : Option Nat), ww11.cell? (a12.add 7) = some (.map signs13) ∧
  ∃ (xSecret14 : Int) (xText15 : ByteArray), cellsAt ww11 (blk w.heap.size) [.int .u64 xSecret14, .string xText15] 0 ∧
  ∃ (v16 : Int) (v17 : Bool), (Instr.lookup 57 (.map signs13) (.agg #[.int .u64 xSecret14, .string xText15]) true).run Try.prog ww11 = .ok (.tuple #[.int .u64 v16, .bool v17]) ww11 ∧
  bif !v17 then (
  Calls Try.prog 18 #[.pointer o1] ww11 fun ee19 ww20 => ∃ (fresh18 : Int), ee19 = .returned (.int .u64 fresh18) ∧
  thenW (ww20.drew) fun ww21 =>
  o1.elim False fun a22 =>
  ∃ (signs23 : Option Nat), ww21.cell? (a22.add 7) = some (.map signs23) ∧
  ∃ (xSecret24 : Int) (xText25 : ByteArray), cellsAt ww21 (blk w.heap.size) [.int .u64 xSecret24, .string xText25] 0 ∧
  o1.elim False fun a26 =>
  ∃ (signed27 : Option Nat), ww21.cell? (a26.add 8) = some (.map signed27) ∧
  ∃ (xSecret28 : Int) (xText29 : ByteArray), cellsAt ww21 (blk w.heap.size) [.int .u64 xSecret28, .string xText29] 0 ∧
  ∃ (v30 : Int), ∃ (n31 : Int) (ww32 : World), (Instr.mapEntry 57 (.map signs23) (.agg #[.int .u64 xSecret24, .string xText25])).run Try.prog ww21 = .ok (.tuple #[.int .u64 v30, .int .i64 n31]) ww32 ∧
  cellsAt ww32 (blk w.heap.size) [.int .u64 xSecret28, .string xText29] 0 ∧
  ∃ ww33 : World, (Instr.entryStore 57 (.map signs23) (.int .i64 n31) (.int .u64 fresh18)).run Try.prog ww32 = .ok () ww33 ∧
  cellsAt ww33 (blk w.heap.size) [.int .u64 xSecret28, .string xText29] 0 ∧
  ∃ (v34 : Int) (v35 : ByteArray), ∃ (n36 : Int) (ww37 : World), (Instr.mapEntry 58 (.map signed27) (.int .u64 fresh18)).run Try.prog ww33 = .ok (.tuple #[.agg #[.int .u64 v34, .string v35], .int .i64 n36]) ww37 ∧
  cellsAt ww37 (blk w.heap.size) [.int .u64 xSecret28, .string xText29] 0 ∧
  ∃ ww38 : World, (Instr.entryStore 58 (.map signed27) (.int .i64 n36) (.agg #[.int .u64 xSecret28, .string xText29])).run Try.prog ww37 = .ok () ww38 ∧
  R (.tuple #[.int .u64 fresh18, .int .i64 0]) ww38) else (
  R (.tuple #[.int .u64 v16, .int .i64 0]) ww11)))

theorem oSign.eq (o1 : Option Addr) (secret2 : Int) (b3a : Option Addr) (b3n : Nat) (b3c : Nat) (R : Value → World → Prop) (w : World) : mfunc Try.prog [] 11 [.pointer o1, .int .u64 secret2, .slice b3a b3n b3c] R w = oSign.M o1 secret2 b3a b3n b3c R w := by kernel_rfl
theorem oSign.ok (o1 : Option Addr) (secret2 : Int) (b3a : Option Addr) (b3n : Nat) (b3c : Nat) {R : Value → World → Prop} {w : World} (h : oSign.M o1 secret2 b3a b3n b3c R w) : Calls Try.prog 11 #[.pointer o1, .int .u64 secret2, .slice b3a b3n b3c] w fun e w' => ∃ v, e = .returned v ∧ R v w' :=
  mfunc_ok follows (H := []) (args := [.pointer o1, .int .u64 secret2, .slice b3a b3n b3c]) (by rw [oSign.eq]; exact h)

/-- (*oracle.Oracle).Verify -/
def oVerify.M (o1 : Option Addr) (publicv2 : Int) (b3a : Option Addr) (b3n : Nat) (b3c : Nat) (sig4 : Int) (R : Value → World → Prop) (w : World) : Prop :=
  bif Option.isNone o1 then (
  R (.bool false) w) else (
  o1.elim False fun a5 =>
  ∃ (publics6 : Option Nat), w.cell? (a5.add 6) = some (.map publics6) ∧
  ∃ (v7 : Int) (v8 : Bool), (Instr.lookup 56 (.map publics6) (.int .u64 publicv2) true).run Try.prog w = .ok (.tuple #[.int .u64 v7, .bool v8]) w ∧
  o1.elim False fun a9 =>
  ∃ (signed10 : Option Nat), w.cell? (a9.add 8) = some (.map signed10) ∧
  ∃ (secret11 : Int) (text12 : ByteArray) (v13 : Bool), (Instr.lookup 58 (.map signed10) (.int .u64 sig4) true).run Try.prog w = .ok (.tuple #[.agg #[.int .u64 secret11, .string text12], .bool v13]) w ∧
  thenW (w.alloc (.cells #[.int .u64 0, .string ByteArray.empty] 65)) fun ww14 =>
  canStore ww14 ((blk w.heap.size).add 0) ∧
  thenW (ww14.setCell ((blk w.heap.size).add 0) (.int .u64 secret11)) fun ww15 =>
  canStore ww15 ((blk w.heap.size).add 1) ∧
  thenW (ww15.setCell ((blk w.heap.size).add 1) (.string text12)) fun ww16 =>
  bif v8 then (
  bif v13 then (
  ∃ (xSecret17 : Int) (xText18 : ByteArray), cellsAt ww16 (blk w.heap.size) [.int .u64 xSecret17, .string xText18] 0 ∧
  ∃ (s19 : ByteArray), (convert 23 9 (.slice b3a b3n b3c)).run Try.prog ww16 = .ok (.string s19) ww16 ∧
  ∃ (b20 : Bool), (binOp .eql 65 (.agg #[.int .u64 xSecret17, .string xText18]) (.agg #[.int .u64 v7, .string s19])).run Try.prog ww16 = .ok (.bool b20) ww16 ∧
  R (.bool b20) ww16) else (
  R (.bool false) ww16)) else (
  R (.bool false) ww16))

theorem oVerify.eq (o1 : Option Addr) (publicv2 : Int) (b3a : Option Addr) (b3n : Nat) (b3c : Nat) (sig4 : Int) (R : Value → World → Prop) (w : World) : mfunc Try.prog [] 12 [.pointer o1, .int .u64 publicv2, .slice b3a b3n b3c, .int .u64 sig4] R w = oVerify.M o1 publicv2 b3a b3n b3c sig4 R w := by kernel_rfl
theorem oVerify.ok (o1 : Option Addr) (publicv2 : Int) (b3a : Option Addr) (b3n : Nat) (b3c : Nat) (sig4 : Int) {R : Value → World → Prop} {w : World} (h : oVerify.M o1 publicv2 b3a b3n b3c sig4 R w) : Calls Try.prog 12 #[.pointer o1, .int .u64 publicv2, .slice b3a b3n b3c, .int .u64 sig4] w fun e w' => ∃ v, e = .returned v ∧ R v w' :=
  mfunc_ok follows (H := []) (args := [.pointer o1, .int .u64 publicv2, .slice b3a b3n b3c, .int .u64 sig4]) (by rw [oVerify.eq]; exact h)

/-- (*oracle.Oracle).Seal -/
def oSeal.M (o1 : Option Addr) (key2 : Int) (bound3a : Option Addr) (bound3n : Nat) (bound3c : Nat) (plain4a : Option Addr) (plain4n : Nat) (plain4c : Nat) (R : Value → World → Prop) (w : World) : Prop :=
  Calls Try.prog 38 #[.int .i64 (plain4n : Int)] w fun ee6 ww7 => ∃ (classv5 : Int), ee6 = .returned (.int .i64 classv5) ∧
  bif Option.isNone o1 then (
  R (.tuple #[.slice none 0 0, .int .i64 23]) ww7) else (
  o1.elim False fun a8 =>
  ∃ (keys9 : Option Nat), ww7.cell? (a8.add 4) = some (.map keys9) ∧
  ∃ (v10 : Bool), (Instr.lookup 54 (.map keys9) (.int .u64 key2) false).run Try.prog ww7 = .ok (.bool v10) ww7 ∧
  bif !v10 then (
  R (.tuple #[.slice none 0 0, .int .i64 11]) ww7) else (
  bif decide (classv5 < 0) then (
  R (.tuple #[.slice none 0 0, .int .i64 3]) ww7) else (
  Calls Try.prog 18 #[.pointer o1] ww7 fun ee12 ww13 => ∃ (fresh11 : Int), ee12 = .returned (.int .u64 fresh11) ∧
  thenW (ww13.drew) fun ww14 =>
  o1.elim False fun a15 =>
  ∃ (sealed16 : Option Nat), ww14.cell? (a15.add 9) = some (.map sealed16) ∧
  Calls Try.prog 39 #[.slice bound3a bound3n bound3c] ww14 fun ee18 ww19 => ∃ (clone17a : Option Addr) (clone17n : Nat) (clone17c : Nat), ee18 = .returned (.slice clone17a clone17n clone17c) ∧
  ww19.cell? (a15.add 9) = some (.map sealed16) ∧
  Calls Try.prog 39 #[.slice plain4a plain4n plain4c] ww19 fun ee21 ww22 => ∃ (clone20a : Option Addr) (clone20n : Nat) (clone20c : Nat), ee21 = .returned (.slice clone20a clone20n clone20c) ∧
  ww22.cell? (a15.add 9) = some (.map sealed16) ∧
  ∃ ww23 : World, (Instr.mapUpdate 59 (.map sealed16) (.int .u64 fresh11) (.agg #[.int .u64 key2, .slice clone17a clone17n clone17c, .slice clone20a clone20n clone20c])).run Try.prog ww22 = .ok () ww23 ∧
  Calls Try.prog 41 #[.int .i64 classv5] ww23 fun ee25 ww26 => ∃ (size24 : Int), ee25 = .returned (.int .i64 size24) ∧
  Calls Try.prog 40 #[.int .u64 fresh11, .int .i64 size24] ww26 fun ee28 ww29 => ∃ (box27a : Option Addr) (box27n : Nat) (box27c : Nat), ee28 = .returned (.slice box27a box27n box27c) ∧
  R (.tuple #[.slice box27a box27n box27c, .int .i64 0]) ww29)))

theorem oSeal.eq (o1 : Option Addr) (key2 : Int) (bound3a : Option Addr) (bound3n : Nat) (bound3c : Nat) (plain4a : Option Addr) (plain4n : Nat) (plain4c : Nat) (R : Value → World → Prop) (w : World) : mfunc Try.prog [] 26 [.pointer o1, .int .u64 key2, .slice bound3a bound3n bound3c, .slice plain4a plain4n plain4c] R w = oSeal.M o1 key2 bound3a bound3n bound3c plain4a plain4n plain4c R w := by kernel_rfl
theorem oSeal.ok (o1 : Option Addr) (key2 : Int) (bound3a : Option Addr) (bound3n : Nat) (bound3c : Nat) (plain4a : Option Addr) (plain4n : Nat) (plain4c : Nat) {R : Value → World → Prop} {w : World} (h : oSeal.M o1 key2 bound3a bound3n bound3c plain4a plain4n plain4c R w) : Calls Try.prog 26 #[.pointer o1, .int .u64 key2, .slice bound3a bound3n bound3c, .slice plain4a plain4n plain4c] w fun e w' => ∃ v, e = .returned v ∧ R v w' :=
  mfunc_ok follows (H := []) (args := [.pointer o1, .int .u64 key2, .slice bound3a bound3n bound3c, .slice plain4a plain4n plain4c]) (by rw [oSeal.eq]; exact h)

/-- (*oracle.Oracle).Open -/
def oOpen.M (o1 : Option Addr) (key2 : Int) (bound3a : Option Addr) (bound3n : Nat) (bound3c : Nat) (b4a : Option Addr) (b4n : Nat) (b4c : Nat) (R : Value → World → Prop) (w : World) : Prop :=
  bif Option.isNone o1 then (
  R (.tuple #[.slice none 0 0, .int .i64 23]) w) else (
  thenW (w.drew) fun ww5 =>
  o1.elim False fun a6 =>
  ∃ (sealed7 : Option Nat), ww5.cell? (a6.add 9) = some (.map sealed7) ∧
  (Calls Try.prog 45 #[.slice b4a b4n b4c] ww5 fun ee9 ww10 => ∃ (handle8 : Int), ee9 = .returned (.int .u64 handle8) ∧
  ww10.cell? (a6.add 9) = some (.map sealed7) ∧
  ∃ (key11 : Int) (bound12a : Option Addr) (bound12n : Nat) (bound12c : Nat) (plain13a : Option Addr) (plain13n : Nat) (plain13c : Nat) (v14 : Bool), (Instr.lookup 59 (.map sealed7) (.int .u64 handle8) true).run Try.prog ww10 = .ok (.tuple #[.agg #[.int .u64 key11, .slice bound12a bound12n bound12c, .slice plain13a plain13n plain13c], .bool v14]) ww10 ∧
  thenW (ww10.alloc (.cells #[.int .u64 0, .slice none 0 0, .slice none 0 0] 82)) fun ww15 =>
  (Instr.lookup 59 (.map sealed7) (.int .u64 handle8) true).run Try.prog ww15 = .ok (.tuple #[.agg #[.int .u64 key11, .slice bound12a bound12n bound12c, .slice plain13a plain13n plain13c], .bool v14]) ww15 ∧
  ww15.cell? (a6.add 9) = some (.map sealed7) ∧
  canStore ww15 ((blk ww10.heap.size).add 0) ∧
  thenW (ww15.setCell ((blk ww10.heap.size).add 0) (.int .u64 key11)) fun ww16 =>
  canStore ww16 ((blk ww10.heap.size).add 1) ∧
  thenW (ww16.setCell ((blk ww10.heap.size).add 1) (.slice bound12a bound12n bound12c)) fun ww17 =>
  canStore ww17 ((blk ww10.heap.size).add 2) ∧
  thenW (ww17.setCell ((blk ww10.heap.size).add 2) (.slice plain13a plain13n plain13c)) fun ww18 =>
  bif !v14 then (
  R (.tuple #[.slice none 0 0, .int .i64 4]) ww18) else (
  ∃ (plain19a : Option Addr) (plain19n : Nat) (plain19c : Nat), ww18.cell? ((blk ww10.heap.size).add 2) = some (.slice plain19a plain19n plain19c) ∧
  Calls Try.prog 38 #[.int .i64 (plain19n : Int)] ww18 fun ee21 ww22 => ∃ (classv20 : Int), ee21 = .returned (.int .i64 classv20) ∧
  Calls Try.prog 41 #[.int .i64 classv20] ww22 fun ee24 ww25 => ∃ (size23 : Int), ee24 = .returned (.int .i64 size23) ∧
  bif (b4n : Int) != (IntKind.i64.wrap ((8 : Int) + size23)) then (
  R (.tuple #[.slice none 0 0, .int .i64 4]) ww25) else (
  ∃ (key26 : Int), ww25.cell? ((blk ww10.heap.size).add 0) = some (.int .u64 key26) ∧
  bif key26 != key2 then (
  R (.tuple #[.slice none 0 0, .int .i64 11]) ww25) else (
  ∃ (bound27a : Option Addr) (bound27n : Nat) (bound27c : Nat), ww25.cell? ((blk ww10.heap.size).add 1) = some (.slice bound27a bound27n bound27c) ∧
  Calls Try.prog 46 #[.slice bound27a bound27n bound27c, .slice bound3a bound3n bound3c] ww25 fun ee29 ww30 => ∃ (equal28 : Bool), ee29 = .returned (.bool equal28) ∧
  bif !equal28 then (
  R (.tuple #[.slice none 0 0, .int .i64 5]) ww30) else (
  ∃ (plain31a : Option Addr) (plain31n : Nat) (plain31c : Nat), ww30.cell? ((blk ww10.heap.size).add 2) = some (.slice plain31a plain31n plain31c) ∧
  Calls Try.prog 39 #[.slice plain31a plain31n plain31c] ww30 fun ee33 ww34 => ∃ (clone32a : Option Addr) (clone32n : Nat) (clone32c : Nat), ee33 = .returned (.slice clone32a clone32n clone32c) ∧
  R (.tuple #[.slice clone32a clone32n clone32c, .int .i64 0]) ww34))))) ∧
  (thenW (ww5.alloc (.cells #[.int .u64 0, .slice none 0 0, .slice none 0 0] 82)) fun ww35 =>
  ww35.cell? (a6.add 9) = some (.map sealed7) ∧
  Calls Try.prog 45 #[.slice b4a b4n b4c] ww35 fun ee37 ww38 => ∃ (handle36 : Int), ee37 = .returned (.int .u64 handle36) ∧
  ww38.cell? (a6.add 9) = some (.map sealed7) ∧
  ∃ (key39 : Int) (bound40a : Option Addr) (bound40n : Nat) (bound40c : Nat) (plain41a : Option Addr) (plain41n : Nat) (plain41c : Nat) (v42 : Bool), (Instr.lookup 59 (.map sealed7) (.int .u64 handle36) true).run Try.prog ww38 = .ok (.tuple #[.agg #[.int .u64 key39, .slice bound40a bound40n bound40c, .slice plain41a plain41n plain41c], .bool v42]) ww38 ∧
  canStore ww38 ((blk ww5.heap.size).add 0) ∧
  thenW (ww38.setCell ((blk ww5.heap.size).add 0) (.int .u64 key39)) fun ww43 =>
  canStore ww43 ((blk ww5.heap.size).add 1) ∧
  thenW (ww43.setCell ((blk ww5.heap.size).add 1) (.slice bound40a bound40n bound40c)) fun ww44 =>
  canStore ww44 ((blk ww5.heap.size).add 2) ∧
  thenW (ww44.setCell ((blk ww5.heap.size).add 2) (.slice plain41a plain41n plain41c)) fun ww45 =>
  bif !v42 then (
  R (.tuple #[.slice none 0 0, .int .i64 4]) ww45) else (
  ∃ (plain46a : Option Addr) (plain46n : Nat) (plain46c : Nat), ww45.cell? ((blk ww5.heap.size).add 2) = some (.slice plain46a plain46n plain46c) ∧
  Calls Try.prog 38 #[.int .i64 (plain46n : Int)] ww45 fun ee48 ww49 => ∃ (classv47 : Int), ee48 = .returned (.int .i64 classv47) ∧
  Calls Try.prog 41 #[.int .i64 classv47] ww49 fun ee51 ww52 => ∃ (size50 : Int), ee51 = .returned (.int .i64 size50) ∧
  bif (b4n : Int) != (IntKind.i64.wrap ((8 : Int) + size50)) then (
  R (.tuple #[.slice none 0 0, .int .i64 4]) ww52) else (
  ∃ (key53 : Int), ww52.cell? ((blk ww5.heap.size).add 0) = some (.int .u64 key53) ∧
  bif key53 != key2 then (
  R (.tuple #[.slice none 0 0, .int .i64 11]) ww52) else (
  ∃ (bound54a : Option Addr) (bound54n : Nat) (bound54c : Nat), ww52.cell? ((blk ww5.heap.size).add 1) = some (.slice bound54a bound54n bound54c) ∧
  Calls Try.prog 46 #[.slice bound54a bound54n bound54c, .slice bound3a bound3n bound3c] ww52 fun ee56 ww57 => ∃ (equal55 : Bool), ee56 = .returned (.bool equal55) ∧
  bif !equal55 then (
  R (.tuple #[.slice none 0 0, .int .i64 5]) ww57) else (
  ∃ (plain58a : Option Addr) (plain58n : Nat) (plain58c : Nat), ww57.cell? ((blk ww5.heap.size).add 2) = some (.slice plain58a plain58n plain58c) ∧
  Calls Try.prog 39 #[.slice plain58a plain58n plain58c] ww57 fun ee60 ww61 => ∃ (clone59a : Option Addr) (clone59n : Nat) (clone59c : Nat), ee60 = .returned (.slice clone59a clone59n clone59c) ∧
  R (.tuple #[.slice clone59a clone59n clone59c, .int .i64 0]) ww61))))))

theorem oOpen.eq (o1 : Option Addr) (key2 : Int) (bound3a : Option Addr) (bound3n : Nat) (bound3c : Nat) (b4a : Option Addr) (b4n : Nat) (b4c : Nat) (R : Value → World → Prop) (w : World) : mfunc Try.prog [] 30 [.pointer o1, .int .u64 key2, .slice bound3a bound3n bound3c, .slice b4a b4n b4c] R w = oOpen.M o1 key2 bound3a bound3n bound3c b4a b4n b4c R w := by kernel_rfl
theorem oOpen.ok (o1 : Option Addr) (key2 : Int) (bound3a : Option Addr) (bound3n : Nat) (bound3c : Nat) (b4a : Option Addr) (b4n : Nat) (b4c : Nat) {R : Value → World → Prop} {w : World} (h : oOpen.M o1 key2 bound3a bound3n bound3c b4a b4n b4c R w) : Calls Try.prog 30 #[.pointer o1, .int .u64 key2, .slice bound3a bound3n bound3c, .slice b4a b4n b4c] w fun e w' => ∃ v, e = .returned v ∧ R v w' :=
  mfunc_ok follows (H := []) (args := [.pointer o1, .int .u64 key2, .slice bound3a bound3n bound3c, .slice b4a b4n b4c]) (by rw [oOpen.eq]; exact h)

/-- (*oracle.Oracle).Wrap -/
def oWrap.M (o1 : Option Addr) (publicv2 : Int) (key3 : Int) (R : Value → World → Prop) (w : World) : Prop :=
  bif Option.isNone o1 then (
  R (.tuple #[.slice none 0 0, .int .i64 23]) w) else (
  o1.elim False fun a4 =>
  ∃ (publics5 : Option Nat), w.cell? (a4.add 6) = some (.map publics5) ∧
  ∃ (v6 : Int) (v7 : Bool), (Instr.lookup 56 (.map publics5) (.int .u64 publicv2) true).run Try.prog w = .ok (.tuple #[.int .u64 v6, .bool v7]) w ∧
  bif !v7 then (
  R (.tuple #[.slice none 0 0, .int .i64 20]) w) else (
  o1.elim False fun a8 =>
  ∃ (keys9 : Option Nat), w.cell? (a8.add 4) = some (.map keys9) ∧
  ∃ (v10 : Bool), (Instr.lookup 54 (.map keys9) (.int .u64 key3) false).run Try.prog w = .ok (.bool v10) w ∧
  bif !v10 then (
  R (.tuple #[.slice none 0 0, .int .i64 11]) w) else (
  Calls Try.prog 18 #[.pointer o1] w fun ee12 ww13 => ∃ (fresh11 : Int), ee12 = .returned (.int .u64 fresh11) ∧
  o1.elim False fun a14 =>
  ∃ (wrapped15 : Option Nat), ww13.cell? (a14.add 10) = some (.map wrapped15) ∧
  ∃ ww16 : World, (Instr.mapUpdate 60 (.map wrapped15) (.int .u64 fresh11) (.agg #[.int .u64 publicv2, .int .u64 key3])).run Try.prog ww13 = .ok () ww16 ∧
  Calls Try.prog 40 #[.int .u64 fresh11, .int .i64 8] ww16 fun ee18 ww19 => ∃ (box17a : Option Addr) (box17n : Nat) (box17c : Nat), ee18 = .returned (.slice box17a box17n box17c) ∧
  R (.tuple #[.slice box17a box17n box17c, .int .i64 0]) ww19)))

theorem oWrap.eq (o1 : Option Addr) (publicv2 : Int) (key3 : Int) (R : Value → World → Prop) (w : World) : mfunc Try.prog [] 28 [.pointer o1, .int .u64 publicv2, .int .u64 key3] R w = oWrap.M o1 publicv2 key3 R w := by kernel_rfl
theorem oWrap.ok (o1 : Option Addr) (publicv2 : Int) (key3 : Int) {R : Value → World → Prop} {w : World} (h : oWrap.M o1 publicv2 key3 R w) : Calls Try.prog 28 #[.pointer o1, .int .u64 publicv2, .int .u64 key3] w fun e w' => ∃ v, e = .returned v ∧ R v w' :=
  mfunc_ok follows (H := []) (args := [.pointer o1, .int .u64 publicv2, .int .u64 key3]) (by rw [oWrap.eq]; exact h)

/-- (*oracle.Oracle).Unwrap -/
def oUnwrap.M (o1 : Option Addr) (secret2 : Int) (b3a : Option Addr) (b3n : Nat) (b3c : Nat) (R : Value → World → Prop) (w : World) : Prop :=
  bif Option.isNone o1 then (
  R (.tuple #[.int .u64 0, .int .i64 23]) w) else (
  thenW (w.drew) fun ww4 =>
  o1.elim False fun a5 =>
  ∃ (wrapped6 : Option Nat), ww4.cell? (a5.add 10) = some (.map wrapped6) ∧
  (Calls Try.prog 45 #[.slice b3a b3n b3c] ww4 fun ee8 ww9 => ∃ (handle7 : Int), ee8 = .returned (.int .u64 handle7) ∧
  ww9.cell? (a5.add 10) = some (.map wrapped6) ∧
  ∃ (publicv10 : Int) (key11 : Int) (v12 : Bool), (Instr.lookup 60 (.map wrapped6) (.int .u64 handle7) true).run Try.prog ww9 = .ok (.tuple #[.agg #[.int .u64 publicv10, .int .u64 key11], .bool v12]) ww9 ∧
  thenW (ww9.alloc (.cells #[.int .u64 0, .int .u64 0] 86)) fun ww13 =>
  (Instr.lookup 60 (.map wrapped6) (.int .u64 handle7) true).run Try.prog ww13 = .ok (.tuple #[.agg #[.int .u64 publicv10, .int .u64 key11], .bool v12]) ww13 ∧
  ww13.cell? (a5.add 10) = some (.map wrapped6) ∧
  canStore ww13 ((blk ww9.heap.size).add 0) ∧
  thenW (ww13.setCell ((blk ww9.heap.size).add 0) (.int .u64 publicv10)) fun ww14 =>
  canStore ww14 ((blk ww9.heap.size).add 1) ∧
  thenW (ww14.setCell ((blk ww9.heap.size).add 1) (.int .u64 key11)) fun ww15 =>
  bif !v12 then (
  R (.tuple #[.int .u64 0, .int .i64 4]) ww15) else (
  bif (b3n : Int) != 16 then (
  R (.tuple #[.int .u64 0, .int .i64 4]) ww15) else (
  thenW (ww15.drew) fun ww16 =>
  o1.elim False fun a17 =>
  ∃ (publics18 : Option Nat), ww16.cell? (a17.add 6) = some (.map publics18) ∧
  ∃ (publicv19 : Int), ww16.cell? ((blk ww9.heap.size).add 0) = some (.int .u64 publicv19) ∧
  ∃ (v20 : Int), (Instr.lookup 56 (.map publics18) (.int .u64 publicv19) false).run Try.prog ww16 = .ok (.int .u64 v20) ww16 ∧
  bif v20 != secret2 then (
  R (.tuple #[.int .u64 0, .int .i64 11]) ww16) else (
  ∃ (key21 : Int), ww16.cell? ((blk ww9.heap.size).add 1) = some (.int .u64 key21) ∧
  R (.tuple #[.int .u64 key21, .int .i64 0]) ww16)))) ∧
  (thenW (ww4.alloc (.cells #[.int .u64 0, .int .u64 0] 86)) fun ww22 =>
  ww22.cell? (a5.add 10) = some (.map wrapped6) ∧
  Calls Try.prog 45 #[.slice b3a b3n b3c] ww22 fun ee24 ww25 => ∃ (handle23 : Int), ee24 = .returned (.int .u64 handle23) ∧
  ww25.cell? (a5.add 10) = some (.map wrapped6) ∧
  ∃ (publicv26 : Int) (key27 : Int) (v28 : Bool), (Instr.lookup 60 (.map wrapped6) (.int .u64 handle23) true).run Try.prog ww25 = .ok (.tuple #[.agg #[.int .u64 publicv26, .int .u64 key27], .bool v28]) ww25 ∧
  canStore ww25 ((blk ww4.heap.size).add 0) ∧
  thenW (ww25.setCell ((blk ww4.heap.size).add 0) (.int .u64 publicv26)) fun ww29 =>
  canStore ww29 ((blk ww4.heap.size).add 1) ∧
  thenW (ww29.setCell ((blk ww4.heap.size).add 1) (.int .u64 key27)) fun ww30 =>
  bif !v28 then (
  R (.tuple #[.int .u64 0, .int .i64 4]) ww30) else (
  bif (b3n : Int) != 16 then (
  R (.tuple #[.int .u64 0, .int .i64 4]) ww30) else (
  thenW (ww30.drew) fun ww31 =>
  o1.elim False fun a32 =>
  ∃ (publics33 : Option Nat), ww31.cell? (a32.add 6) = some (.map publics33) ∧
  ∃ (publicv34 : Int), ww31.cell? ((blk ww4.heap.size).add 0) = some (.int .u64 publicv34) ∧
  ∃ (v35 : Int), (Instr.lookup 56 (.map publics33) (.int .u64 publicv34) false).run Try.prog ww31 = .ok (.int .u64 v35) ww31 ∧
  bif v35 != secret2 then (
  R (.tuple #[.int .u64 0, .int .i64 11]) ww31) else (
  ∃ (key36 : Int), ww31.cell? ((blk ww4.heap.size).add 1) = some (.int .u64 key36) ∧
  R (.tuple #[.int .u64 key36, .int .i64 0]) ww31)))))

theorem oUnwrap.eq (o1 : Option Addr) (secret2 : Int) (b3a : Option Addr) (b3n : Nat) (b3c : Nat) (R : Value → World → Prop) (w : World) : mfunc Try.prog [] 33 [.pointer o1, .int .u64 secret2, .slice b3a b3n b3c] R w = oUnwrap.M o1 secret2 b3a b3n b3c R w := by kernel_rfl
theorem oUnwrap.ok (o1 : Option Addr) (secret2 : Int) (b3a : Option Addr) (b3n : Nat) (b3c : Nat) {R : Value → World → Prop} {w : World} (h : oUnwrap.M o1 secret2 b3a b3n b3c R w) : Calls Try.prog 33 #[.pointer o1, .int .u64 secret2, .slice b3a b3n b3c] w fun e w' => ∃ v, e = .returned v ∧ R v w' :=
  mfunc_ok follows (H := []) (args := [.pointer o1, .int .u64 secret2, .slice b3a b3n b3c]) (by rw [oUnwrap.eq]; exact h)

/-- oracle.box -/
def oBox.M (h1 : Int) (more2 : Int) (R : Value → World → Prop) (w : World) : Prop :=
  ∃ (m3a : Option Addr) (m3n : Nat) (m3c : Nat) (ww4 : World), (Instr.makeSlice 23 (.int .i64 (IntKind.i64.wrap ((8 : Int) + more2))) (.int .i64 (IntKind.i64.wrap ((8 : Int) + more2)))).run Try.prog w = .ok (.slice m3a m3n m3c) ww4 ∧
  ∃ (I0 : Nat → List Value → World → Prop) (m6 : Nat), I0 m6 [.int .i64 0] ww4 ∧ ∀ (m7 : Nat) (ww8 : World) (t5 : Int), I0 m7 [.int .i64 t5] ww8 →
  bif decide (t5 < 8) then (
  0 ≤ ((IntKind.i64.wrap ((56 : Int) - (IntKind.i64.wrap ((8 : Int) * t5)))) : Int) ∧
  m3a.elim False fun a9 =>
  0 ≤ (t5 : Int) ∧ (t5 : Int) < (m3n : Int) ∧
  canStore ww8 ((a9.add (Int.toNat t5 * 1)).add 0) ∧
  thenW (ww8.setCell ((a9.add (Int.toNat t5 * 1)).add 0) (.int .u8 (IntKind.u8.wrap (Int.fdiv h1 (2 ^ (min (Int.toNat (IntKind.i64.wrap ((56 : Int) - (IntKind.i64.wrap ((8 : Int) * t5))))) (IntKind.bits .u64))))))) fun ww10 =>
  ∃ m11, m11 < m7 ∧ I0 m11 [.int .i64 (IntKind.i64.wrap (t5 + 1))] ww10) else (
  R (.slice m3a m3n m3c) ww8)

theorem oBox.eq (h1 : Int) (more2 : Int) (R : Value → World → Prop) (w : World) : mfunc Try.prog [(0, [0, 5], [(10, (.one (.int .i64)))])] 40 [.int .u64 h1, .int .i64 more2] R w = oBox.M h1 more2 R w := by kernel_rfl
theorem oBox.ok (h1 : Int) (more2 : Int) {R : Value → World → Prop} {w : World} (h : oBox.M h1 more2 R w) : Calls Try.prog 40 #[.int .u64 h1, .int .i64 more2] w fun e w' => ∃ v, e = .returned v ∧ R v w' :=
  mfunc_ok follows (H := [(0, [0, 5], [(10, (.one (.int .i64)))])]) (args := [.int .u64 h1, .int .i64 more2]) (by rw [oBox.eq]; exact h)

/-- oracle.handle -/
def oHandle.M (b1a : Option Addr) (b1n : Nat) (b1c : Nat) (R : Value → World → Prop) (w : World) : Prop :=
  bif decide ((b1n : Int) < 8) then (
  R (.int .u64 0) w) else (
  (0 : Int) ≤ (8 : Int) ∧ (8 : Int) ≤ (b1n : Int) ∧
  Calls Try.prog 52 #[.slice (if b1c = Int.toNat 8 then b1a else Option.map (fun z : Addr => z.add ((Int.toNat 8) * 1)) b1a) (b1n - (Int.toNat 8)) (b1c - (Int.toNat 8)), .func (.func 53) #[] #[]] w fun ee3 ww4 => ∃ (contains2 : Bool), ee3 = .returned (.bool contains2) ∧
  bif contains2 then (
  R (.int .u64 0) ww4) else (
  (0 : Int) ≤ (8 : Int) ∧ (8 : Int) ≤ (b1c : Int) ∧
  ∃ (I0 : Nat → List Value → World → Prop) (m7 : Nat), I0 m7 [.int .u64 0, .int .i64 0] ww4 ∧ ∀ (m8 : Nat) (ww9 : World) (n5 : Int) (t6 : Int), I0 m8 [.int .u64 n5, .int .i64 t6] ww9 →
  bif decide (t6 < ((Int.toNat 8) - 0 : Int)) then (
  (if b1c = 0 then b1a else Option.map (fun z : Addr => z.add (0 * 1)) b1a).elim False fun a10 =>
  0 ≤ (t6 : Int) ∧ (t6 : Int) < (((Int.toNat 8) - 0) : Int) ∧
  ∃ (x11 : Int), ww9.cell? (a10.add (Int.toNat t6 * 1)) = some (.int .u8 x11) ∧
  0 ≤ (8 : Int) ∧
  ∃ m12, m12 < m8 ∧ I0 m12 [.int .u64 (IntKind.u64.wrap ((BitVec.ofInt (IntKind.bits .u64) (IntKind.u64.wrap (n5 * 2 ^ (min (Int.toNat 8) (IntKind.bits .u64)))) ||| BitVec.ofInt (IntKind.bits .u64) (IntKind.u64.wrap x11)).toNat)), .int .i64 (IntKind.i64.wrap (t6 + 1))] ww9) else (
  R (.int .u64 n5) ww9)))

theorem oHandle.eq (b1a : Option Addr) (b1n : Nat) (b1c : Nat) (R : Value → World → Prop) (w : World) : mfunc Try.prog [(0, [15, 16], [(3, (.one (.int .u64))), (17, (.one (.int .i64)))])] 45 [.slice b1a b1n b1c] R w = oHandle.M b1a b1n b1c R w := by kernel_rfl
theorem oHandle.ok (b1a : Option Addr) (b1n : Nat) (b1c : Nat) {R : Value → World → Prop} {w : World} (h : oHandle.M b1a b1n b1c R w) : Calls Try.prog 45 #[.slice b1a b1n b1c] w fun e w' => ∃ v, e = .returned v ∧ R v w' :=
  mfunc_ok follows (H := [(0, [15, 16], [(3, (.one (.int .u64))), (17, (.one (.int .i64)))])]) (args := [.slice b1a b1n b1c]) (by rw [oHandle.eq]; exact h)

/-- oracle.handle$1 -/
def hNz.M (c1 : Int) (R : Value → World → Prop) (w : World) : Prop :=
  R (.bool (c1 != 0)) w

theorem hNz.eq (c1 : Int) (R : Value → World → Prop) (w : World) : mfunc Try.prog [] 53 [.int .u8 c1] R w = hNz.M c1 R w := by kernel_rfl
theorem hNz.ok (c1 : Int) {R : Value → World → Prop} {w : World} (h : hNz.M c1 R w) : Calls Try.prog 53 #[.int .u8 c1] w fun e w' => ∃ v, e = .returned v ∧ R v w' :=
  mfunc_ok follows (H := []) (args := [.int .u8 c1]) (by rw [hNz.eq]; exact h)

/-- bucket.Class -/
def bClass.M (n1 : Int) (R : Value → World → Prop) (w : World) : Prop :=
  ∃ (I0 : Nat → List Value → World → Prop) (m3 : Nat), I0 m3 [.int .i64 0] w ∧ ∀ (m4 : Nat) (ww5 : World) (t2 : Int), I0 m4 [.int .i64 t2] ww5 →
  bif decide (t2 < 7) then (
  bif decide (n1 ≥ 0) then (
  Calls Try.prog 49 #[.int .i64 t2] ww5 fun ee7 ww8 => ∃ (room6 : Int), ee7 = .returned (.int .i64 room6) ∧
  bif decide (n1 ≤ room6) then (
  R (.int .i64 t2) ww8) else (
  ∃ m9, m9 < m4 ∧ I0 m9 [.int .i64 (IntKind.i64.wrap (t2 + 1))] ww8)) else (
  ∃ m10, m10 < m4 ∧ I0 m10 [.int .i64 (IntKind.i64.wrap (t2 + 1))] ww5)) else (
  R (.int .i64 (-1)) ww5)

theorem bClass.eq (n1 : Int) (R : Value → World → Prop) (w : World) : mfunc Try.prog [(0, [0], [(4, (.one (.int .i64)))])] 38 [.int .i64 n1] R w = bClass.M n1 R w := by kernel_rfl
theorem bClass.ok (n1 : Int) {R : Value → World → Prop} {w : World} (h : bClass.M n1 R w) : Calls Try.prog 38 #[.int .i64 n1] w fun e w' => ∃ v, e = .returned v ∧ R v w' :=
  mfunc_ok follows (H := [(0, [0], [(4, (.one (.int .i64)))])]) (args := [.int .i64 n1]) (by rw [bClass.eq]; exact h)

/-- bucket.Size -/
def bSize.M (c1 : Int) (R : Value → World → Prop) (w : World) : Prop :=
  Calls Try.prog 50 #[.int .i64 c1] w fun ee3 ww4 => ∃ (size2 : Int), ee3 = .returned (.int .i64 size2) ∧
  R (.int .i64 size2) ww4

theorem bSize.eq (c1 : Int) (R : Value → World → Prop) (w : World) : mfunc Try.prog [] 41 [.int .i64 c1] R w = bSize.M c1 R w := by kernel_rfl
theorem bSize.ok (c1 : Int) {R : Value → World → Prop} {w : World} (h : bSize.M c1 R w) : Calls Try.prog 41 #[.int .i64 c1] w fun e w' => ∃ v, e = .returned v ∧ R v w' :=
  mfunc_ok follows (H := []) (args := [.int .i64 c1]) (by rw [bSize.eq]; exact h)

/-- (bucket.class).size -/
def bsize.M (c1 : Int) (R : Value → World → Prop) (w : World) : Prop :=
  bif decide (c1 < 0) then (
  R (.int .i64 0) w) else (
  bif decide (c1 ≥ 7) then (
  R (.int .i64 0) w) else (
  0 ≤ (c1 : Int) ∧
  R (.int .i64 (IntKind.i64.wrap (16 * 2 ^ (min (Int.toNat c1) (IntKind.bits .i64))))) w))

theorem bsize.eq (c1 : Int) (R : Value → World → Prop) (w : World) : mfunc Try.prog [] 50 [.int .i64 c1] R w = bsize.M c1 R w := by kernel_rfl
theorem bsize.ok (c1 : Int) {R : Value → World → Prop} {w : World} (h : bsize.M c1 R w) : Calls Try.prog 50 #[.int .i64 c1] w fun e w' => ∃ v, e = .returned v ∧ R v w' :=
  mfunc_ok follows (H := []) (args := [.int .i64 c1]) (by rw [bsize.eq]; exact h)

/-- (bucket.class).room -/
def broom.M (c1 : Int) (R : Value → World → Prop) (w : World) : Prop :=
  Calls Try.prog 50 #[.int .i64 c1] w fun ee3 ww4 => ∃ (size2 : Int), ee3 = .returned (.int .i64 size2) ∧
  bif decide ((IntKind.i64.wrap (size2 - 1)) ≥ 128) then (
  R (.int .i64 (IntKind.i64.wrap ((IntKind.i64.wrap (size2 - 1)) - 1))) ww4) else (
  R (.int .i64 (IntKind.i64.wrap (size2 - 1))) ww4)

theorem broom.eq (c1 : Int) (R : Value → World → Prop) (w : World) : mfunc Try.prog [] 49 [.int .i64 c1] R w = broom.M c1 R w := by kernel_rfl
theorem broom.ok (c1 : Int) {R : Value → World → Prop} {w : World} (h : broom.M c1 R w) : Calls Try.prog 49 #[.int .i64 c1] w fun e w' => ∃ v, e = .returned v ∧ R v w' :=
  mfunc_ok follows (H := []) (args := [.int .i64 c1]) (by rw [broom.eq]; exact h)

/-- bytes.Equal -/
def bEqual.M (a1a : Option Addr) (a1n : Nat) (a1c : Nat) (b2a : Option Addr) (b2n : Nat) (b2c : Nat) (R : Value → World → Prop) (w : World) : Prop :=
  ∃ (s3 : ByteArray), (convert 23 9 (.slice a1a a1n a1c)).run Try.prog w = .ok (.string s3) w ∧
  ∃ (s4 : ByteArray), (convert 23 9 (.slice b2a b2n b2c)).run Try.prog w = .ok (.string s4) w ∧
  R (.bool (s3.toList == s4.toList)) w

theorem bEqual.eq (a1a : Option Addr) (a1n : Nat) (a1c : Nat) (b2a : Option Addr) (b2n : Nat) (b2c : Nat) (R : Value → World → Prop) (w : World) : mfunc Try.prog [] 46 [.slice a1a a1n a1c, .slice b2a b2n b2c] R w = bEqual.M a1a a1n a1c b2a b2n b2c R w := by kernel_rfl
theorem bEqual.ok (a1a : Option Addr) (a1n : Nat) (a1c : Nat) (b2a : Option Addr) (b2n : Nat) (b2c : Nat) {R : Value → World → Prop} {w : World} (h : bEqual.M a1a a1n a1c b2a b2n b2c R w) : Calls Try.prog 46 #[.slice a1a a1n a1c, .slice b2a b2n b2c] w fun e w' => ∃ v, e = .returned v ∧ R v w' :=
  mfunc_ok follows (H := []) (args := [.slice a1a a1n a1c, .slice b2a b2n b2c]) (by rw [bEqual.eq]; exact h)

/-- slices.ContainsFunc[[]byte,byte] -/
def bCF.M (s1a : Option Addr) (s1n : Nat) (s1c : Nat) (f2k : Nat) (f2f : Array Value) (f2g : Array Value) (R : Value → World → Prop) (w : World) : Prop :=
  Calls Try.prog 54 #[.slice s1a s1n s1c, .func (.func f2k) f2f f2g] w fun ee4 ww5 => ∃ (indexfun3 : Int), ee4 = .returned (.int .i64 indexfun3) ∧
  R (.bool (decide (indexfun3 ≥ 0))) ww5

theorem bCF.eq (s1a : Option Addr) (s1n : Nat) (s1c : Nat) (f2k : Nat) (f2f : Array Value) (f2g : Array Value) (R : Value → World → Prop) (w : World) : mfunc Try.prog [] 52 [.slice s1a s1n s1c, .func (.func f2k) f2f f2g] R w = bCF.M s1a s1n s1c f2k f2f f2g R w := by kernel_rfl
theorem bCF.ok (s1a : Option Addr) (s1n : Nat) (s1c : Nat) (f2k : Nat) (f2f : Array Value) (f2g : Array Value) {R : Value → World → Prop} {w : World} (h : bCF.M s1a s1n s1c f2k f2f f2g R w) : Calls Try.prog 52 #[.slice s1a s1n s1c, .func (.func f2k) f2f f2g] w fun e w' => ∃ v, e = .returned v ∧ R v w' :=
  mfunc_ok follows (H := []) (args := [.slice s1a s1n s1c, .func (.func f2k) f2f f2g]) (by rw [bCF.eq]; exact h)

/-- slices.IndexFunc[[]byte,byte] -/
def bIF.M (s1a : Option Addr) (s1n : Nat) (s1c : Nat) (f2k : Nat) (f2f : Array Value) (f2g : Array Value) (R : Value → World → Prop) (w : World) : Prop :=
  ∃ (I0 : Nat → List Value → World → Prop) (m4 : Nat), I0 m4 [.int .i64 0] w ∧ ∀ (m5 : Nat) (ww6 : World) (t3 : Int), I0 m5 [.int .i64 t3] ww6 →
  bif decide (t3 < (s1n : Int)) then (
  s1a.elim False fun a7 =>
  0 ≤ (t3 : Int) ∧ (t3 : Int) < (s1n : Int) ∧
  ∃ (x8 : Int), ww6.cell? (a7.add (Int.toNat t3 * 1)) = some (.int .u8 x8) ∧
  bif enters Try.prog f2k then Calls Try.prog f2k (f2f.toList ++ ([.int .u8 x8] : List Value) ++ f2g.toList).toArray ww6 (fun ee10 ww11 => ∃ (r9 : Bool), ee10 = .returned (.bool r9) ∧
  bif r9 then (
  R (.int .i64 t3) ww11) else (
  ∃ m13, m13 < m5 ∧ I0 m13 [.int .i64 (IntKind.i64.wrap (t3 + 1))] ww11)) else (∃ (r9 : Bool) (ww12 : World), (externCall f2k (f2f.toList ++ ([.int .u8 x8] : List Value) ++ f2g.toList).toArray).run Try.prog ww6 = .ok (.bool r9) ww12 ∧
  bif r9 then (
  R (.int .i64 t3) ww12) else (
  ∃ m14, m14 < m5 ∧ I0 m14 [.int .i64 (IntKind.i64.wrap (t3 + 1))] ww12))) else (
  R (.int .i64 (-1)) ww6)

theorem bIF.eq (s1a : Option Addr) (s1n : Nat) (s1c : Nat) (f2k : Nat) (f2f : Array Value) (f2g : Array Value) (R : Value → World → Prop) (w : World) : mfunc Try.prog [(0, [0, 1, 7], [(8, (.one (.int .i64)))])] 54 [.slice s1a s1n s1c, .func (.func f2k) f2f f2g] R w = bIF.M s1a s1n s1c f2k f2f f2g R w := by kernel_rfl
theorem bIF.ok (s1a : Option Addr) (s1n : Nat) (s1c : Nat) (f2k : Nat) (f2f : Array Value) (f2g : Array Value) {R : Value → World → Prop} {w : World} (h : bIF.M s1a s1n s1c f2k f2f f2g R w) : Calls Try.prog 54 #[.slice s1a s1n s1c, .func (.func f2k) f2f f2g] w fun e w' => ∃ v, e = .returned v ∧ R v w' :=
  mfunc_ok follows (H := [(0, [0, 1, 7], [(8, (.one (.int .i64)))])]) (args := [.slice s1a s1n s1c, .func (.func f2k) f2f f2g]) (by rw [bIF.eq]; exact h)

theorem inf27 : (Try.prog.info? 27).map (fun i => (i.zero, i.size, i.bytes)) = some (some (.int .u64 0), 1, 8) := by kernel_rfl
theorem inf5 : (Try.prog.info? 5).map (fun i => (i.zero, i.size, i.bytes)) = some (some (.int .u8 0), 1, 1) := by kernel_rfl
theorem inf4 : (Try.prog.info? 4).map (fun i => (i.zero, i.size, i.bytes)) = some (some (.bool false), 1, 1) := by kernel_rfl
end Go.Proofs.Ytgagmbmkpfjbbaa
