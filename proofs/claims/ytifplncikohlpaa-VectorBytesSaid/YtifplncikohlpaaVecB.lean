/- Vectors: writer by writer; how two stand, what is missing, where they are at odds, both together. -/
import Derived.Test.YtifplncikohlpaaVecA
set_option linter.unusedVariables false
set_option linter.unusedSimpArgs false
set_option maxRecDepth 20000
namespace Go.Proofs.Ytifplncikohlpaa
open Go Go.Mx Go.Proofs
/-- vector.each -/
def vEach.M (a1a : Option Addr) (a1n : Nat) (a1c : Nat) (b2a : Option Addr) (b2n : Nat) (b2c : Nat) (take3k : Nat) (take3f : Array Value) (take3g : Array Value) (R : Value → World → Prop) (w : World) : Prop :=
  Calls Try.prog 9 #[.slice a1a a1n a1c] w fun ee5 ww6 => ∃ (right4 : Bool), ee5 = .returned (.bool right4) ∧
  bif !right4 then (
  R (.bool false) ww6) else (
  Calls Try.prog 9 #[.slice b2a b2n b2c] ww6 fun ee8 ww9 => ∃ (right7 : Bool), ee8 = .returned (.bool right7) ∧
  bif !right7 then (
  R (.bool false) ww9) else (
  ∃ (I0 : Nat → List Value → World → Prop) (m11 : Nat), I0 m11 [.int .i64 0] ww9 ∧ ∀ (m12 : Nat) (ww13 : World) (t10 : Int), I0 m12 [.int .i64 t10] ww13 →
  bif decide (t10 < 8) then (
  Calls Try.prog 33 #[.slice a1a a1n a1c, .int .i64 t10] ww13 fun ee17 ww18 => ∃ (Writer14 : Int) (Len15 : Int) (Sum16 : Int), ee17 = .returned (.agg #[.int .i64 Writer14, .int .i64 Len15, .int .u64 Sum16]) ∧
  Calls Try.prog 33 #[.slice b2a b2n b2c, .int .i64 t10] ww18 fun ee22 ww23 => ∃ (Writer19 : Int) (Len20 : Int) (Sum21 : Int), ee22 = .returned (.agg #[.int .i64 Writer19, .int .i64 Len20, .int .u64 Sum21]) ∧
  bif enters Try.prog take3k then Calls Try.prog take3k (take3f.toList ++ ([.agg #[.int .i64 Writer14, .int .i64 Len15, .int .u64 Sum16], .agg #[.int .i64 Writer19, .int .i64 Len20, .int .u64 Sum21]] : List Value) ++ take3g.toList).toArray ww23 (fun ee24 ww25 => ee24 = .returned (.tuple #[]) ∧
  ∃ m26, m26 < m12 ∧ I0 m26 [.int .i64 (IntKind.i64.wrap (t10 + 1))] ww25) else False) else (
  R (.bool true) ww13)))

theorem vEach.eq (a1a : Option Addr) (a1n : Nat) (a1c : Nat) (b2a : Option Addr) (b2n : Nat) (b2c : Nat) (take3k : Nat) (take3f : Array Value) (take3g : Array Value) (R : Value → World → Prop) (w : World) : mfunc Try.prog [(0, [0, 1, 2], [(16, (.one (.int .i64)))])] 18 [.slice a1a a1n a1c, .slice b2a b2n b2c, .func (.func take3k) take3f take3g] R w = vEach.M a1a a1n a1c b2a b2n b2c take3k take3f take3g R w := by kernel_rfl
theorem vEach.ok (a1a : Option Addr) (a1n : Nat) (a1c : Nat) (b2a : Option Addr) (b2n : Nat) (b2c : Nat) (take3k : Nat) (take3f : Array Value) (take3g : Array Value) {R : Value → World → Prop} {w : World} (h : vEach.M a1a a1n a1c b2a b2n b2c take3k take3f take3g R w) : Calls Try.prog 18 #[.slice a1a a1n a1c, .slice b2a b2n b2c, .func (.func take3k) take3f take3g] w fun e w' => ∃ v, e = .returned v ∧ R v w' :=
  mfunc_ok follows (H := [(0, [0, 1, 2], [(16, (.one (.int .i64)))])]) (args := [.slice a1a a1n a1c, .slice b2a b2n b2c, .func (.func take3k) take3f take3g]) (by rw [vEach.eq]; exact h)

/-- vector.Compare -/
def vCompare.M (a1a : Option Addr) (a1n : Nat) (a1c : Nat) (b2a : Option Addr) (b2n : Nat) (b2c : Nat) (R : Value → World → Prop) (w : World) : Prop :=
  thenW (w.alloc (.cells #[.int .i64 0] 3)) fun ww3 =>
  thenW (ww3.alloc (.cells #[.int .i64 0] 3)) fun ww4 =>
  canStore ww4 ((blk w.heap.size).add 0) ∧
  thenW (ww4.setCell ((blk w.heap.size).add 0) (.int .i64 0)) fun ww5 =>
  canStore ww5 ((blk ww3.heap.size).add 0) ∧
  thenW (ww5.setCell ((blk ww3.heap.size).add 0) (.int .i64 0)) fun ww6 =>
  Calls Try.prog 18 #[.slice a1a a1n a1c, .slice b2a b2n b2c, .func (.func 19) #[] #[.pointer (some (blk w.heap.size)), .pointer (some (blk ww3.heap.size))]] ww6 fun ee8 ww9 => ∃ (each7 : Bool), ee8 = .returned (.bool each7) ∧
  bif !each7 then (
  R (.int .i64 3) ww9) else (
  ∃ (x10 : Int), ww9.cell? (blk w.heap.size) = some (.int .i64 x10) ∧
  ∃ (x11 : Int), ww9.cell? (blk ww3.heap.size) = some (.int .i64 x11) ∧
  bif (IntKind.i64.wrap (x10 + x11)) == 2 then (
  R (.int .i64 2) ww9) else (
  ∃ (x12 : Int), ww9.cell? (blk w.heap.size) = some (.int .i64 x12) ∧
  ∃ (x13 : Int), ww9.cell? (blk ww3.heap.size) = some (.int .i64 x13) ∧
  R (.int .i64 (IntKind.i64.wrap (x12 - x13))) ww9))

theorem vCompare.eq (a1a : Option Addr) (a1n : Nat) (a1c : Nat) (b2a : Option Addr) (b2n : Nat) (b2c : Nat) (R : Value → World → Prop) (w : World) : mfunc Try.prog [] 8 [.slice a1a a1n a1c, .slice b2a b2n b2c] R w = vCompare.M a1a a1n a1c b2a b2n b2c R w := by kernel_rfl
theorem vCompare.ok (a1a : Option Addr) (a1n : Nat) (a1c : Nat) (b2a : Option Addr) (b2n : Nat) (b2c : Nat) {R : Value → World → Prop} {w : World} (h : vCompare.M a1a a1n a1c b2a b2n b2c R w) : Calls Try.prog 8 #[.slice a1a a1n a1c, .slice b2a b2n b2c] w fun e w' => ∃ v, e = .returned v ∧ R v w' :=
  mfunc_ok follows (H := []) (args := [.slice a1a a1n a1c, .slice b2a b2n b2c]) (by rw [vCompare.eq]; exact h)

/-- vector.Compare$1 -/
def vCompare1.M (xWriter1 : Int) (xLen2 : Int) (xSum3 : Int) (yWriter4 : Int) (yLen5 : Int) (ySum6 : Int) (cap7 : Addr) (cap8 : Addr) (R : Value → World → Prop) (w : World) : Prop :=
  thenW (w.alloc (.cells #[.int .i64 xWriter1, .int .i64 xLen2, .int .u64 xSum3] 44)) fun ww9 =>
  thenW (ww9.alloc (.cells #[.int .i64 yWriter4, .int .i64 yLen5, .int .u64 ySum6] 44)) fun ww10 =>
  ∃ (Len11 : Int), ww10.cell? ((blk w.heap.size).add 1) = some (.int .i64 Len11) ∧
  ∃ (Len12 : Int), ww10.cell? ((blk ww9.heap.size).add 1) = some (.int .i64 Len12) ∧
  bif decide (Len11 > Len12) then (
  canStore ww10 (cap7.add 0) ∧
  thenW (ww10.setCell (cap7.add 0) (.int .i64 1)) fun ww13 =>
  ∃ (Len14 : Int), ww13.cell? ((blk w.heap.size).add 1) = some (.int .i64 Len14) ∧
  ∃ (Len15 : Int), ww13.cell? ((blk ww9.heap.size).add 1) = some (.int .i64 Len15) ∧
  bif decide (Len14 < Len15) then (
  canStore ww13 (cap8.add 0) ∧
  thenW (ww13.setCell (cap8.add 0) (.int .i64 1)) fun ww16 =>
  R (.tuple #[]) ww16) else (
  R (.tuple #[]) ww13)) else (
  ∃ (Len17 : Int), ww10.cell? ((blk w.heap.size).add 1) = some (.int .i64 Len17) ∧
  ∃ (Len18 : Int), ww10.cell? ((blk ww9.heap.size).add 1) = some (.int .i64 Len18) ∧
  bif decide (Len17 < Len18) then (
  canStore ww10 (cap8.add 0) ∧
  thenW (ww10.setCell (cap8.add 0) (.int .i64 1)) fun ww19 =>
  R (.tuple #[]) ww19) else (
  R (.tuple #[]) ww10))

theorem vCompare1.eq (xWriter1 : Int) (xLen2 : Int) (xSum3 : Int) (yWriter4 : Int) (yLen5 : Int) (ySum6 : Int) (cap7 : Addr) (cap8 : Addr) (R : Value → World → Prop) (w : World) : mfunc Try.prog [] 19 [.agg #[.int .i64 xWriter1, .int .i64 xLen2, .int .u64 xSum3], .agg #[.int .i64 yWriter4, .int .i64 yLen5, .int .u64 ySum6], .pointer (some cap7), .pointer (some cap8)] R w = vCompare1.M xWriter1 xLen2 xSum3 yWriter4 yLen5 ySum6 cap7 cap8 R w := by kernel_rfl
theorem vCompare1.ok (xWriter1 : Int) (xLen2 : Int) (xSum3 : Int) (yWriter4 : Int) (yLen5 : Int) (ySum6 : Int) (cap7 : Addr) (cap8 : Addr) {R : Value → World → Prop} {w : World} (h : vCompare1.M xWriter1 xLen2 xSum3 yWriter4 yLen5 ySum6 cap7 cap8 R w) : Calls Try.prog 19 #[.agg #[.int .i64 xWriter1, .int .i64 xLen2, .int .u64 xSum3], .agg #[.int .i64 yWriter4, .int .i64 yLen5, .int .u64 ySum6], .pointer (some cap7), .pointer (some cap8)] w fun e w' => ∃ v, e = .returned v ∧ R v w' :=
  mfunc_ok follows (H := []) (args := [.agg #[.int .i64 xWriter1, .int .i64 xLen2, .int .u64 xSum3], .agg #[.int .i64 yWriter4, .int .i64 yLen5, .int .u64 ySum6], .pointer (some cap7), .pointer (some cap8)]) (by rw [vCompare1.eq]; exact h)

/-- vector.Missing -/
def vMissing.M (havev1a : Option Addr) (havev1n : Nat) (havev1c : Nat) (want2a : Option Addr) (want2n : Nat) (want2c : Nat) (R : Value → World → Prop) (w : World) : Prop :=
  thenW (w.alloc (.cells #[.slice none 0 0] 22)) fun ww3 =>
  Calls Try.prog 18 #[.slice havev1a havev1n havev1c, .slice want2a want2n want2c, .func (.func 21) #[] #[.pointer (some (blk w.heap.size))]] ww3 fun ee5 ww6 => ∃ (each4 : Bool), ee5 = .returned (.bool each4) ∧
  ∃ (x7a : Option Addr) (x7n : Nat) (x7c : Nat), ww6.cell? (blk w.heap.size) = some (.slice x7a x7n x7c) ∧
  canStore ww6 ((blk w.heap.size).add 0) ∧
  thenW (ww6.setCell ((blk w.heap.size).add 0) (.slice x7a x7n x7c)) fun ww8 =>
  ∃ (res9a : Option Addr) (res9n : Nat) (res9c : Nat), ww8.cell? (blk w.heap.size) = some (.slice res9a res9n res9c) ∧
  R (.slice res9a res9n res9c) ww8

theorem vMissing.eq (havev1a : Option Addr) (havev1n : Nat) (havev1c : Nat) (want2a : Option Addr) (want2n : Nat) (want2c : Nat) (R : Value → World → Prop) (w : World) : mfunc Try.prog [] 10 [.slice havev1a havev1n havev1c, .slice want2a want2n want2c] R w = vMissing.M havev1a havev1n havev1c want2a want2n want2c R w := by kernel_rfl
theorem vMissing.ok (havev1a : Option Addr) (havev1n : Nat) (havev1c : Nat) (want2a : Option Addr) (want2n : Nat) (want2c : Nat) {R : Value → World → Prop} {w : World} (h : vMissing.M havev1a havev1n havev1c want2a want2n want2c R w) : Calls Try.prog 10 #[.slice havev1a havev1n havev1c, .slice want2a want2n want2c] w fun e w' => ∃ v, e = .returned v ∧ R v w' :=
  mfunc_ok follows (H := []) (args := [.slice havev1a havev1n havev1c, .slice want2a want2n want2c]) (by rw [vMissing.eq]; exact h)

/-- vector.Missing$1 -/
def vMissing1.M (xWriter1 : Int) (xLen2 : Int) (xSum3 : Int) (yWriter4 : Int) (yLen5 : Int) (ySum6 : Int) (cap7 : Addr) (R : Value → World → Prop) (w : World) : Prop :=
  thenW (w.alloc (.cells #[.int .i64 xWriter1, .int .i64 xLen2, .int .u64 xSum3] 44)) fun ww8 =>
  thenW (ww8.alloc (.cells #[.int .i64 yWriter4, .int .i64 yLen5, .int .u64 ySum6] 44)) fun ww9 =>
  ∃ (Len10 : Int), ww9.cell? ((blk ww8.heap.size).add 1) = some (.int .i64 Len10) ∧
  ∃ (Len11 : Int), ww9.cell? ((blk w.heap.size).add 1) = some (.int .i64 Len11) ∧
  bif decide (Len10 > Len11) then (
  ∃ (x12a : Option Addr) (x12n : Nat) (x12c : Nat), ww9.cell? cap7 = some (.slice x12a x12n x12c) ∧
  ∃ (xWriter13 : Int) (xLen14 : Int) (xSum15 : Int), cellsAt ww9 (blk ww8.heap.size) [.int .i64 xWriter13, .int .i64 xLen14, .int .u64 xSum15] 0 ∧
  thenW (ww9.alloc (.cells #[.int .i64 xWriter13, .int .i64 xLen14, .int .u64 xSum15] 44)) fun ww16 =>
  ∃ (a17a : Option Addr) (a17n : Nat) (a17c : Nat) (ww18 : World), (Builtin.append_ #[22, 22] 22 #[.slice x12a x12n x12c, .slice (some (blk ww9.heap.size)) 1 1]).run Try.prog ww16 = .ok (.slice a17a a17n a17c) ww18 ∧
  canStore ww18 (cap7.add 0) ∧
  thenW (ww18.setCell (cap7.add 0) (.slice a17a a17n a17c)) fun ww19 =>
  R (.tuple #[]) ww19) else (
  R (.tuple #[]) ww9)

theorem vMissing1.eq (xWriter1 : Int) (xLen2 : Int) (xSum3 : Int) (yWriter4 : Int) (yLen5 : Int) (ySum6 : Int) (cap7 : Addr) (R : Value → World → Prop) (w : World) : mfunc Try.prog [] 21 [.agg #[.int .i64 xWriter1, .int .i64 xLen2, .int .u64 xSum3], .agg #[.int .i64 yWriter4, .int .i64 yLen5, .int .u64 ySum6], .pointer (some cap7)] R w = vMissing1.M xWriter1 xLen2 xSum3 yWriter4 yLen5 ySum6 cap7 R w := by kernel_rfl
theorem vMissing1.ok (xWriter1 : Int) (xLen2 : Int) (xSum3 : Int) (yWriter4 : Int) (yLen5 : Int) (ySum6 : Int) (cap7 : Addr) {R : Value → World → Prop} {w : World} (h : vMissing1.M xWriter1 xLen2 xSum3 yWriter4 yLen5 ySum6 cap7 R w) : Calls Try.prog 21 #[.agg #[.int .i64 xWriter1, .int .i64 xLen2, .int .u64 xSum3], .agg #[.int .i64 yWriter4, .int .i64 yLen5, .int .u64 ySum6], .pointer (some cap7)] w fun e w' => ∃ v, e = .returned v ∧ R v w' :=
  mfunc_ok follows (H := []) (args := [.agg #[.int .i64 xWriter1, .int .i64 xLen2, .int .u64 xSum3], .agg #[.int .i64 yWriter4, .int .i64 yLen5, .int .u64 ySum6], .pointer (some cap7)]) (by rw [vMissing1.eq]; exact h)

/-- vector.Conflict -/
def vConflict.M (a1a : Option Addr) (a1n : Nat) (a1c : Nat) (b2a : Option Addr) (b2n : Nat) (b2c : Nat) (R : Value → World → Prop) (w : World) : Prop :=
  thenW (w.alloc (.cells #[.int .i64 0] 3)) fun ww3 =>
  thenW (ww3.alloc (.cells #[.bool false] 4)) fun ww4 =>
  Calls Try.prog 18 #[.slice a1a a1n a1c, .slice b2a b2n b2c, .func (.func 42) #[] #[.pointer (some (blk ww3.heap.size)), .pointer (some (blk w.heap.size))]] ww4 fun ee6 ww7 => ∃ (each5 : Bool), ee6 = .returned (.bool each5) ∧
  thenW (ww7.drew) fun ww8 =>
  ∃ (x9 : Int), ww8.cell? (blk w.heap.size) = some (.int .i64 x9) ∧
  ∃ (x10 : Bool), ww8.cell? (blk ww3.heap.size) = some (.bool x10) ∧
  canStore ww8 ((blk w.heap.size).add 0) ∧
  thenW (ww8.setCell ((blk w.heap.size).add 0) (.int .i64 x9)) fun ww11 =>
  ww11.cell? (blk ww3.heap.size) = some (.bool x10) ∧
  canStore ww11 ((blk ww3.heap.size).add 0) ∧
  thenW (ww11.setCell ((blk ww3.heap.size).add 0) (.bool x10)) fun ww12 =>
  ∃ (res13 : Int), ww12.cell? (blk w.heap.size) = some (.int .i64 res13) ∧
  ∃ (res14 : Bool), ww12.cell? (blk ww3.heap.size) = some (.bool res14) ∧
  R (.tuple #[.int .i64 res13, .bool res14]) ww12

theorem vConflict.eq (a1a : Option Addr) (a1n : Nat) (a1c : Nat) (b2a : Option Addr) (b2n : Nat) (b2c : Nat) (R : Value → World → Prop) (w : World) : mfunc Try.prog [] 31 [.slice a1a a1n a1c, .slice b2a b2n b2c] R w = vConflict.M a1a a1n a1c b2a b2n b2c R w := by kernel_rfl
theorem vConflict.ok (a1a : Option Addr) (a1n : Nat) (a1c : Nat) (b2a : Option Addr) (b2n : Nat) (b2c : Nat) {R : Value → World → Prop} {w : World} (h : vConflict.M a1a a1n a1c b2a b2n b2c R w) : Calls Try.prog 31 #[.slice a1a a1n a1c, .slice b2a b2n b2c] w fun e w' => ∃ v, e = .returned v ∧ R v w' :=
  mfunc_ok follows (H := []) (args := [.slice a1a a1n a1c, .slice b2a b2n b2c]) (by rw [vConflict.eq]; exact h)

/-- vector.Conflict$1 -/
def vConflict1.M (xWriter1 : Int) (xLen2 : Int) (xSum3 : Int) (yWriter4 : Int) (yLen5 : Int) (ySum6 : Int) (cap7 : Addr) (cap8 : Addr) (R : Value → World → Prop) (w : World) : Prop :=
  thenW (w.alloc (.cells #[.int .i64 xWriter1, .int .i64 xLen2, .int .u64 xSum3] 44)) fun ww9 =>
  thenW (ww9.alloc (.cells #[.int .i64 yWriter4, .int .i64 yLen5, .int .u64 ySum6] 44)) fun ww10 =>
  ∃ (x11 : Bool), ww10.cell? cap7 = some (.bool x11) ∧
  bif !x11 then (
  ∃ (Len12 : Int), ww10.cell? ((blk w.heap.size).add 1) = some (.int .i64 Len12) ∧
  ∃ (Len13 : Int), ww10.cell? ((blk ww9.heap.size).add 1) = some (.int .i64 Len13) ∧
  bif Len12 == Len13 then (
  ∃ (Sum14 : Int), ww10.cell? ((blk w.heap.size).add 2) = some (.int .u64 Sum14) ∧
  ∃ (Sum15 : Int), ww10.cell? ((blk ww9.heap.size).add 2) = some (.int .u64 Sum15) ∧
  bif Sum14 != Sum15 then (
  ∃ (Writer16 : Int), ww10.cell? ((blk w.heap.size).add 0) = some (.int .i64 Writer16) ∧
  canStore ww10 (cap8.add 0) ∧
  thenW (ww10.setCell (cap8.add 0) (.int .i64 Writer16)) fun ww17 =>
  canStore ww17 (cap7.add 0) ∧
  thenW (ww17.setCell (cap7.add 0) (.bool true)) fun ww18 =>
  R (.tuple #[]) ww18) else (
  R (.tuple #[]) ww10)) else (
  R (.tuple #[]) ww10)) else (
  R (.tuple #[]) ww10)

theorem vConflict1.eq (xWriter1 : Int) (xLen2 : Int) (xSum3 : Int) (yWriter4 : Int) (yLen5 : Int) (ySum6 : Int) (cap7 : Addr) (cap8 : Addr) (R : Value → World → Prop) (w : World) : mfunc Try.prog [] 42 [.agg #[.int .i64 xWriter1, .int .i64 xLen2, .int .u64 xSum3], .agg #[.int .i64 yWriter4, .int .i64 yLen5, .int .u64 ySum6], .pointer (some cap7), .pointer (some cap8)] R w = vConflict1.M xWriter1 xLen2 xSum3 yWriter4 yLen5 ySum6 cap7 cap8 R w := by kernel_rfl
theorem vConflict1.ok (xWriter1 : Int) (xLen2 : Int) (xSum3 : Int) (yWriter4 : Int) (yLen5 : Int) (ySum6 : Int) (cap7 : Addr) (cap8 : Addr) {R : Value → World → Prop} {w : World} (h : vConflict1.M xWriter1 xLen2 xSum3 yWriter4 yLen5 ySum6 cap7 cap8 R w) : Calls Try.prog 42 #[.agg #[.int .i64 xWriter1, .int .i64 xLen2, .int .u64 xSum3], .agg #[.int .i64 yWriter4, .int .i64 yLen5, .int .u64 ySum6], .pointer (some cap7), .pointer (some cap8)] w fun e w' => ∃ v, e = .returned v ∧ R v w' :=
  mfunc_ok follows (H := []) (args := [.agg #[.int .i64 xWriter1, .int .i64 xLen2, .int .u64 xSum3], .agg #[.int .i64 yWriter4, .int .i64 yLen5, .int .u64 ySum6], .pointer (some cap7), .pointer (some cap8)]) (by rw [vConflict1.eq]; exact h)

/-- vector.Merge -/
def vMerge.M (a1a : Option Addr) (a1n : Nat) (a1c : Nat) (b2a : Option Addr) (b2n : Nat) (b2c : Nat) (R : Value → World → Prop) (w : World) : Prop :=
  thenW (w.alloc (.cells #[.slice none 0 0] 34)) fun ww3 =>
  Calls Try.prog 31 #[.slice a1a a1n a1c, .slice b2a b2n b2c] ww3 fun ee6 ww7 => ∃ (conflict4 : Int) (conflict5 : Bool), ee6 = .returned (.tuple #[.int .i64 conflict4, .bool conflict5]) ∧
  bif conflict5 then (
  canStore ww7 ((blk w.heap.size).add 0) ∧
  thenW (ww7.setCell ((blk w.heap.size).add 0) (.slice none 0 0)) fun ww8 =>
  ∃ (res9a : Option Addr) (res9n : Nat) (res9c : Nat), ww8.cell? (blk w.heap.size) = some (.slice res9a res9n res9c) ∧
  R (.tuple #[.slice res9a res9n res9c, .int .i64 9]) ww8) else (
  Calls Try.prog 18 #[.slice a1a a1n a1c, .slice b2a b2n b2c, .func (.func 32) #[] #[.pointer (some (blk w.heap.size))]] ww7 fun ee11 ww12 => ∃ (each10 : Bool), ee11 = .returned (.bool each10) ∧
  bif !each10 then (
  canStore ww12 ((blk w.heap.size).add 0) ∧
  thenW (ww12.setCell ((blk w.heap.size).add 0) (.slice none 0 0)) fun ww13 =>
  ∃ (res14a : Option Addr) (res14n : Nat) (res14c : Nat), ww13.cell? (blk w.heap.size) = some (.slice res14a res14n res14c) ∧
  R (.tuple #[.slice res14a res14n res14c, .int .i64 1]) ww13) else (
  ∃ (x15a : Option Addr) (x15n : Nat) (x15c : Nat), ww12.cell? (blk w.heap.size) = some (.slice x15a x15n x15c) ∧
  canStore ww12 ((blk w.heap.size).add 0) ∧
  thenW (ww12.setCell ((blk w.heap.size).add 0) (.slice x15a x15n x15c)) fun ww16 =>
  ∃ (res17a : Option Addr) (res17n : Nat) (res17c : Nat), ww16.cell? (blk w.heap.size) = some (.slice res17a res17n res17c) ∧
  R (.tuple #[.slice res17a res17n res17c, .int .i64 0]) ww16))

theorem vMerge.eq (a1a : Option Addr) (a1n : Nat) (a1c : Nat) (b2a : Option Addr) (b2n : Nat) (b2c : Nat) (R : Value → World → Prop) (w : World) : mfunc Try.prog [] 17 [.slice a1a a1n a1c, .slice b2a b2n b2c] R w = vMerge.M a1a a1n a1c b2a b2n b2c R w := by kernel_rfl
theorem vMerge.ok (a1a : Option Addr) (a1n : Nat) (a1c : Nat) (b2a : Option Addr) (b2n : Nat) (b2c : Nat) {R : Value → World → Prop} {w : World} (h : vMerge.M a1a a1n a1c b2a b2n b2c R w) : Calls Try.prog 17 #[.slice a1a a1n a1c, .slice b2a b2n b2c] w fun e w' => ∃ v, e = .returned v ∧ R v w' :=
  mfunc_ok follows (H := []) (args := [.slice a1a a1n a1c, .slice b2a b2n b2c]) (by rw [vMerge.eq]; exact h)

/-- vector.Merge$1 -/
def vMerge1.M (xWriter1 : Int) (xLen2 : Int) (xSum3 : Int) (yWriter4 : Int) (yLen5 : Int) (ySum6 : Int) (cap7 : Addr) (R : Value → World → Prop) (w : World) : Prop :=
  thenW (w.alloc (.cells #[.int .i64 xWriter1, .int .i64 xLen2, .int .u64 xSum3] 44)) fun ww8 =>
  thenW (ww8.alloc (.cells #[.int .i64 yWriter4, .int .i64 yLen5, .int .u64 ySum6] 44)) fun ww9 =>
  ∃ (Len10 : Int), ww9.cell? ((blk w.heap.size).add 1) = some (.int .i64 Len10) ∧
  ∃ (Len11 : Int), ww9.cell? ((blk ww8.heap.size).add 1) = some (.int .i64 Len11) ∧
  bif decide (Len10 < Len11) then (
  ∃ (xWriter12 : Int) (xLen13 : Int) (xSum14 : Int), cellsAt ww9 (blk ww8.heap.size) [.int .i64 xWriter12, .int .i64 xLen13, .int .u64 xSum14] 0 ∧
  canStore ww9 ((blk w.heap.size).add 0) ∧
  thenW (ww9.setCell ((blk w.heap.size).add 0) (.int .i64 xWriter12)) fun ww15 =>
  canStore ww15 ((blk w.heap.size).add 1) ∧
  thenW (ww15.setCell ((blk w.heap.size).add 1) (.int .i64 xLen13)) fun ww16 =>
  canStore ww16 ((blk w.heap.size).add 2) ∧
  thenW (ww16.setCell ((blk w.heap.size).add 2) (.int .u64 xSum14)) fun ww17 =>
  ∃ (Len18 : Int), ww17.cell? ((blk w.heap.size).add 1) = some (.int .i64 Len18) ∧
  bif decide (Len18 > 0) then (
  ∃ (x19a : Option Addr) (x19n : Nat) (x19c : Nat), ww17.cell? cap7 = some (.slice x19a x19n x19c) ∧
  ∃ (xWriter20 : Int) (xLen21 : Int) (xSum22 : Int), cellsAt ww17 (blk w.heap.size) [.int .i64 xWriter20, .int .i64 xLen21, .int .u64 xSum22] 0 ∧
  thenW (ww17.alloc (.cells #[.int .i64 xWriter20, .int .i64 xLen21, .int .u64 xSum22] 44)) fun ww23 =>
  ∃ (a24a : Option Addr) (a24n : Nat) (a24c : Nat) (ww25 : World), (Builtin.append_ #[34, 34] 34 #[.slice x19a x19n x19c, .slice (some (blk ww17.heap.size)) 1 1]).run Try.prog ww23 = .ok (.slice a24a a24n a24c) ww25 ∧
  canStore ww25 (cap7.add 0) ∧
  thenW (ww25.setCell (cap7.add 0) (.slice a24a a24n a24c)) fun ww26 =>
  R (.tuple #[]) ww26) else (
  R (.tuple #[]) ww17)) else (
  ∃ (Len27 : Int), ww9.cell? ((blk w.heap.size).add 1) = some (.int .i64 Len27) ∧
  bif decide (Len27 > 0) then (
  ∃ (x28a : Option Addr) (x28n : Nat) (x28c : Nat), ww9.cell? cap7 = some (.slice x28a x28n x28c) ∧
  ∃ (xWriter29 : Int) (xLen30 : Int) (xSum31 : Int), cellsAt ww9 (blk w.heap.size) [.int .i64 xWriter29, .int .i64 xLen30, .int .u64 xSum31] 0 ∧
  thenW (ww9.alloc (.cells #[.int .i64 xWriter29, .int .i64 xLen30, .int .u64 xSum31] 44)) fun ww32 =>
  ∃ (a33a : Option Addr) (a33n : Nat) (a33c : Nat) (ww34 : World), (Builtin.append_ #[34, 34] 34 #[.slice x28a x28n x28c, .slice (some (blk ww9.heap.size)) 1 1]).run Try.prog ww32 = .ok (.slice a33a a33n a33c) ww34 ∧
  canStore ww34 (cap7.add 0) ∧
  thenW (ww34.setCell (cap7.add 0) (.slice a33a a33n a33c)) fun ww35 =>
  R (.tuple #[]) ww35) else (
  R (.tuple #[]) ww9))

theorem vMerge1.eq (xWriter1 : Int) (xLen2 : Int) (xSum3 : Int) (yWriter4 : Int) (yLen5 : Int) (ySum6 : Int) (cap7 : Addr) (R : Value → World → Prop) (w : World) : mfunc Try.prog [] 32 [.agg #[.int .i64 xWriter1, .int .i64 xLen2, .int .u64 xSum3], .agg #[.int .i64 yWriter4, .int .i64 yLen5, .int .u64 ySum6], .pointer (some cap7)] R w = vMerge1.M xWriter1 xLen2 xSum3 yWriter4 yLen5 ySum6 cap7 R w := by kernel_rfl
theorem vMerge1.ok (xWriter1 : Int) (xLen2 : Int) (xSum3 : Int) (yWriter4 : Int) (yLen5 : Int) (ySum6 : Int) (cap7 : Addr) {R : Value → World → Prop} {w : World} (h : vMerge1.M xWriter1 xLen2 xSum3 yWriter4 yLen5 ySum6 cap7 R w) : Calls Try.prog 32 #[.agg #[.int .i64 xWriter1, .int .i64 xLen2, .int .u64 xSum3], .agg #[.int .i64 yWriter4, .int .i64 yLen5, .int .u64 ySum6], .pointer (some cap7)] w fun e w' => ∃ v, e = .returned v ∧ R v w' :=
  mfunc_ok follows (H := []) (args := [.agg #[.int .i64 xWriter1, .int .i64 xLen2, .int .u64 xSum3], .agg #[.int .i64 yWriter4, .int .i64 yLen5, .int .u64 ySum6], .pointer (some cap7)]) (by rw [vMerge1.eq]; exact h)

theorem infHead : (Try.prog.info? 44).map (fun i => (i.zero, i.size, i.bytes)) = some (some (.agg #[.int .i64 0, .int .i64 0, .int .u64 0]), 3, 24) := by kernel_rfl

def foldV {α : Type} (f : α → Hd → Hd → α) (a b : List Hd) (s : α) : Nat → α
  | 0 => s
  | n + 1 => f (foldV f a b s n) (getV a n) (getV b n)
def bothV (a b : List Hd) : Bool := rightV a && rightV b
/-- something in two blocks of its own. -/
theorem owns_ext {w w' : World} {m : Nat → Prop} {base e size n : Nat} {v : Value} {xs : List Value} (h : w.ownsRow base e size v n xs) (k : Ext m w w') (hm : ∀ q, v.ownBlock = some q → ¬ m q) : w'.ownsRow base e size v n xs := by
  refine ⟨h.1, ?_⟩
  rcases h.2 with h2 | ⟨g, cap, cur, hv, hb, hg, hr⟩
  · exact .inl h2
  · exact .inr ⟨g, cap, cur, hv, hb, k.get hg (hm g (by rw [hv]; rfl)), hr⟩
theorem Ext.set1 (w : World) (A : Nat) (v : Value) : Ext (fun b => b = A) w (w.setCell (blk A) v) := (Ext.refl (fun b => b = A) w).setCell (a := blk A) (.inl rfl) v
theorem owns_nil (w : World) (e size : Nat) : w.ownsRow 0 e size (.slice none 0 0) 0 [] := ⟨by simp, .inl ⟨rfl, rfl⟩⟩

section
variable {w w' : World} {aa ba : Option Addr} {ac bc : Nat} {a b : List Hd}
theorem each_spec {α : Type} (fn : α → Hd → Hd → α) (s0 : α) (J : Nat → α → World → Prop) (k : Nat) (f g : Array Value) (hent : enters Try.prog k = true) (ha : a.length < 1000000) (hb : b.length < 1000000)
    (hrow : ∀ n s w1, J n s w1 → RowAt w1 aa (hsC a) ∧ RowAt w1 ba (hsC b)) (hno : ∀ n s w1 w2, J n s w1 → Ext no w1 w2 → J n s w2) (h0 : J 0 s0 w)
    (step : ∀ s (i : Nat) w1, i < 8 → J i s w1 → Calls Try.prog k (f.toList ++ [hdV (getV a i), hdV (getV b i)] ++ g.toList).toArray w1 (fun e w2 => e = .returned (.tuple #[]) ∧ J (i + 1) (fn s (getV a i) (getV b i)) w2)) :
    Calls Try.prog 18 #[.slice aa a.length ac, .slice ba b.length bc, .func (.func k) f g] w (fun e w' => e = .returned (.bool (bothV a b)) ∧ ∃ n, J n (if bothV a b then foldV fn a b s0 8 else s0) w') := by
  refine (vEach.ok _ _ _ _ _ _ _ _ _ (R := fun v w' => v = .bool (bothV a b) ∧ ∃ n, J n (if bothV a b then foldV fn a b s0 8 else s0) w') ?_).mono fun e w' ⟨v, he, hv, hw⟩ => ⟨by rw [he, hv], hw⟩
  unfold vEach.M bothV
  refine (Right_spec (hrow _ _ _ h0).1 ha).mono fun e w6 ⟨he, x6⟩ => ⟨_, he, ?_⟩
  have j6 := hno _ _ _ _ h0 x6
  by_cases c1 : rightV a = true
  · rw [c1, Bool.not_true, cond_false, Bool.true_and]
    refine (Right_spec (hrow _ _ _ j6).2 hb).mono fun e w9 ⟨he, x9⟩ => ⟨_, he, ?_⟩
    have j9 := hno _ _ _ _ j6 x9
    by_cases c2 : rightV b = true
    · rw [c2, Bool.not_true, cond_false, if_pos rfl]
      refine ⟨fun k vs w1 => ∃ t : Nat, vs = [.int .i64 t] ∧ k + t = 8 ∧ J t (foldV fn a b s0 t) w1, 8, ⟨0, rfl, rfl, j9⟩, ?_⟩
      rintro n w1 i ⟨t, hi, hk, hj⟩
      simp only [List.cons.injEq, Value.int.injEq, true_and, and_true] at hi
      subst hi
      cases n with
      | zero =>
        obtain rfl : t = 8 := by omega
        rw [show decide (((8 : Nat) : Int) < 8) = false from rfl, cond_false]
        exact ⟨rfl, _, hj⟩
      | succ n =>
        have ht : t < 8 := by omega
        rw [show decide ((t : Int) < 8) = true by simp; omega, cond_true]
        refine (Get_spec (hrow _ _ _ hj).1 ha t).mono fun e w18 ⟨he, x18⟩ => ⟨_, _, _, he, ?_⟩
        have j18 := hno _ _ _ _ hj x18
        refine (Get_spec (hrow _ _ _ j18).2 hb t).mono fun e w23 ⟨he, x23⟩ => ⟨_, _, _, he, ?_⟩
        have j23 := hno _ _ _ _ j18 x23
        rw [hent, cond_true]
        refine (step _ t w23 ht j23).mono fun e w25 ⟨he, j25⟩ => ⟨he, n, by omega, t + 1, by rw [w64 (by omega) (by omega)]; rfl, by omega, j25⟩
    · rw [show rightV b = false by simpa using c2, Bool.not_false, cond_true, if_neg (by decide)]
      exact ⟨rfl, _, j9⟩
  · rw [show rightV a = false by simpa using c1, Bool.not_false, cond_true, Bool.false_and, if_neg (by decide)]
    exact ⟨rfl, _, j6⟩

/-! ### Compare -/
def cmpF (s : Int × Int) (x y : Hd) : Int × Int := (if x.2.1 > y.2.1 then 1 else s.1, if x.2.1 < y.2.1 then 1 else s.2)
def cmpV (a b : List Hd) : Int :=
  if bothV a b then (if (foldV cmpF a b (0, 0) 8).1 + (foldV cmpF a b (0, 0) 8).2 = 2 then 2 else (foldV cmpF a b (0, 0) 8).1 - (foldV cmpF a b (0, 0) 8).2) else 3
theorem compare1_spec (x y : Hd) {A B : Nat} {p q : Int} (hA : Blk w A 3 [.int .i64 p]) (hB : Blk w B 3 [.int .i64 q]) (hAB : A ≠ B) :
    Calls Try.prog 19 #[hdV x, hdV y, .pointer (some (blk A)), .pointer (some (blk B))] w (fun e w' => e = .returned (.tuple #[]) ∧ Blk w' A 3 [.int .i64 (cmpF (p, q) x y).1] ∧ Blk w' B 3 [.int .i64 (cmpF (p, q) x y).2] ∧ Ext (fun b => b = A ∨ b = B) w w') := by
  refine (vCompare1.ok _ _ _ _ _ _ _ _ (R := fun v w' => v = .tuple #[] ∧ Blk w' A 3 [.int .i64 (cmpF (p, q) x y).1] ∧ Blk w' B 3 [.int .i64 (cmpF (p, q) x y).2] ∧ Ext (fun b => b = A ∨ b = B) w w') ?_).mono fun e w' ⟨v, he, hv, hw⟩ => ⟨by rw [he, hv], hw⟩
  unfold vCompare1.M
  refine thenW_in fun w9 h9 => thenW_in fun w10 h10 => ?_
  have e9 : Ext no w w9 := by subst h9; exact (Ext.refl _ _).alloc _
  have e10 : Ext no w9 w10 := by subst h10; exact (Ext.refl _ _).alloc _
  have hX9 : Blk w9 w.heap.size 44 (hdC x) := by subst h9; exact Blk.new _ _ _
  have hX := hX9.ext e10 id
  have hY : Blk w10 w9.heap.size 44 (hdC y) := by subst h10; exact Blk.new _ _ _
  have hA10 := (hA.ext e9 id).ext e10 id
  have hB10 := (hB.ext e9 id).ext e10 id
  have x10 : Ext (fun b => b = A ∨ b = B) w w10 := (e9.trans e10).none
  have hAX : ¬ (w.heap.size = A) := fun e => by have := hA.lt; omega
  have hBX : ¬ (w.heap.size = B) := fun e => by have := hB.lt; omega
  have hAY : ¬ (w9.heap.size = A) := fun e => by have := (hA.ext e9 id).lt; omega
  have hBY : ¬ (w9.heap.size = B) := fun e => by have := (hB.ext e9 id).lt; omega
  refine ⟨_, hX.cella (i := 1) rfl, _, hY.cella (i := 1) rfl, ?_⟩
  by_cases c1 : x.2.1 > y.2.1
  · rw [decide_eq_true c1, cond_true]
    have c2 : ¬ x.2.1 < y.2.1 := by omega
    refine ⟨by rw [add_zero]; exact hA10.can (i := 0) rfl, thenW_in fun w13 h13 => ?_⟩
    rw [add_zero] at h13
    have hA13 : Blk w13 A 3 [.int .i64 1] := by subst h13; exact hA10.set 0 _
    have x13' : Ext (fun b => b = A) w10 w13 := by subst h13; exact Ext.set1 _ _ _
    have x13 := x10.trans (x13'.mono fun b hb _ => Or.inl hb)
    refine ⟨_, (hX.ext x13' hAX).cella (i := 1) rfl, _, (hY.ext x13' hAY).cella (i := 1) rfl, ?_⟩
    rw [decide_eq_false c2, cond_false]
    exact ⟨rfl, by simp only [cmpF]; rw [if_pos c1]; exact hA13, by simp only [cmpF]; rw [if_neg c2]; exact hB10.ext x13' (fun e => hAB e.symm), x13⟩
  · rw [decide_eq_false c1, cond_false]
    refine ⟨_, hX.cella (i := 1) rfl, _, hY.cella (i := 1) rfl, ?_⟩
    by_cases c2 : x.2.1 < y.2.1
    · rw [decide_eq_true c2, cond_true]
      refine ⟨by rw [add_zero]; exact hB10.can (i := 0) rfl, thenW_in fun w13 h13 => ?_⟩
      rw [add_zero] at h13
      have hB13 : Blk w13 B 3 [.int .i64 1] := by subst h13; exact hB10.set 0 _
      have x13' : Ext (fun b => b = B) w10 w13 := by subst h13; exact Ext.set1 _ _ _
      exact ⟨rfl, by simp only [cmpF]; rw [if_neg c1]; exact hA10.ext x13' hAB, by simp only [cmpF]; rw [if_pos c2]; exact hB13, x10.trans (x13'.mono fun b hb _ => Or.inr hb)⟩
    · rw [decide_eq_false c2, cond_false]
      exact ⟨rfl, by simp only [cmpF]; rw [if_neg c1]; exact hA10, by simp only [cmpF]; rw [if_neg c2]; exact hB10, x10⟩
theorem cmp01 (a b : List Hd) : ∀ n, ((foldV cmpF a b (0, 0) n).1 = 0 ∨ (foldV cmpF a b (0, 0) n).1 = 1) ∧ ((foldV cmpF a b (0, 0) n).2 = 0 ∨ (foldV cmpF a b (0, 0) n).2 = 1)
  | 0 => ⟨.inl rfl, .inl rfl⟩
  | n + 1 => by
    obtain ⟨h1, h2⟩ := cmp01 a b n
    simp only [foldV, cmpF]
    constructor
    · split
      · exact .inr rfl
      · exact h1
    · split
      · exact .inr rfl
      · exact h2
theorem Compare_spec (ha : RowAt w aa (hsC a)) (hb : RowAt w ba (hsC b)) (hla : a.length < 1000000) (hlb : b.length < 1000000) :
    Calls Try.prog 8 #[.slice aa a.length ac, .slice ba b.length bc] w (GivesV (.int .i64 (cmpV a b)) fun w' => Ext no w w') := by
  refine (vCompare.ok _ _ _ _ _ _ (R := fun v w' => v = .int .i64 (cmpV a b) ∧ Ext no w w') ?_).mono fun e w' ⟨v, he, hv, hw⟩ => ⟨by rw [he, hv], hw⟩
  unfold vCompare.M
  refine thenW_in fun w3 h3 => thenW_in fun w4 h4 => ?_
  have e3 : Ext no w w3 := by subst h3; exact (Ext.refl _ _).alloc _
  have e4' : Ext no w3 w4 := by subst h4; exact (Ext.refl _ _).alloc _
  have e4 := e3.trans e4'
  have hA3 : Blk w3 w.heap.size 3 [.int .i64 0] := by subst h3; exact Blk.new _ _ _
  have hA4 := hA3.ext e4' id
  have hB4 : Blk w4 w3.heap.size 3 [.int .i64 0] := by subst h4; exact Blk.new _ _ _
  have hAB : w.heap.size ≠ w3.heap.size := by have := hA3.lt; omega
  refine ⟨by rw [add_zero]; exact hA4.can (i := 0) rfl, thenW_in fun w5 h5 => ?_⟩
  rw [add_zero] at h5
  have hA5 : Blk w5 w.heap.size 3 [.int .i64 0] := by subst h5; exact hA4.set 0 _
  have x5' : Ext (fun b => b = w.heap.size) w4 w5 := by subst h5; exact Ext.set1 _ _ _
  have x5 : Ext no w w5 := e4.then x5' fun b hb => .inr (by omega)
  have hB5 := hB4.ext x5' (fun e => hAB e.symm)
  refine ⟨by rw [add_zero]; exact hB5.can (i := 0) rfl, thenW_in fun w6 h6 => ?_⟩
  rw [add_zero] at h6
  have hB6 : Blk w6 w3.heap.size 3 [.int .i64 0] := by subst h6; exact hB5.set 0 _
  have x6' : Ext (fun b => b = w3.heap.size) w5 w6 := by subst h6; exact Ext.set1 _ _ _
  have x6 : Ext no w w6 := x5.then x6' fun b hb => .inr (by have := e3.size; omega)
  have hA6 := hA5.ext x6' hAB
  refine (each_spec cmpF (0, 0) (fun _ s w1 => Blk w1 w.heap.size 3 [.int .i64 s.1] ∧ Blk w1 w3.heap.size 3 [.int .i64 s.2] ∧ Ext no w w1) 19 #[] _ (by kernel_rfl) hla hlb
    (fun _ s w1 h => ⟨ha.no h.2.2, hb.no h.2.2⟩) (fun _ s w1 w2 h k => ⟨h.1.ext k id, h.2.1.ext k id, h.2.2.trans k⟩) ⟨hA6, hB6, x6⟩ (fun s i w1 hi h => ?_)).mono fun e w9 ⟨he, _, hA9, hB9, x9⟩ => ⟨_, he, ?_⟩
  · exact (compare1_spec (getV a i) (getV b i) h.1 h.2.1 hAB).mono fun e w2 ⟨he, q1, q2, q3⟩ => ⟨he, q1, q2, h.2.2.then q3 fun b hb => .inr (by have := e3.size; omega)⟩
  unfold cmpV
  by_cases c1 : bothV a b = true
  · rw [if_pos c1] at hA9 hB9
    rw [c1, Bool.not_true, cond_false, if_pos rfl]
    obtain ⟨k1, k2⟩ := cmp01 a b 8
    refine ⟨_, hA9.cell (i := 0) rfl, _, hB9.cell (i := 0) rfl, ?_⟩
    rw [w64 (by omega) (by omega)]
    by_cases c2 : (foldV cmpF a b (0, 0) 8).1 + (foldV cmpF a b (0, 0) 8).2 = 2
    · rw [beq_iff_eq.2 c2, cond_true, if_pos c2]; exact ⟨rfl, x9⟩
    · rw [beq_eq_false_iff_ne.2 c2, cond_false, if_neg c2]
      exact ⟨_, hA9.cell (i := 0) rfl, _, hB9.cell (i := 0) rfl, by rw [w64 (by omega) (by omega)], x9⟩
  · rw [show bothV a b = false by simpa using c1, Bool.not_false, cond_true, if_neg (by decide)]
    exact ⟨rfl, x9⟩

/-! ### a list of heads that grows -/
def Grows (N : Nat) (w : World) (A : Nat) (t : TypeId) (l : List Hd) : Prop :=
  ∃ ra rc, Blk w A t [.slice ra l.length rc] ∧ w.ownsRow 0 44 3 (.slice ra l.length rc) l.length (hsC l) ∧ (∀ ad, ra = some ad → N ≤ ad.block ∧ ad.block ≠ A) ∧ N ≤ A
theorem Grows.ext {m : Nat → Prop} {N A : Nat} {t : TypeId} {l : List Hd} (h : Grows N w A t l) (k : Ext m w w') (hm : ∀ b, m b → b < N) : Grows N w' A t l := by
  obtain ⟨ra, rc, h1, h2, h3, h4⟩ := h
  refine ⟨ra, rc, h1.ext k (fun h => by have := hm _ h; omega), owns_ext h2 k fun q hq hmq => ?_, h3, h4⟩
  have := hm _ hmq
  cases ra with
  | none => simp [Value.ownBlock] at hq
  | some ad => simp only [Value.ownBlock, Option.some.injEq] at hq; have := (h3 ad rfl).1; omega
/-- 'out = append(out, h)', h in a block of its own. -/
theorem grows_push {N A : Nat} {t : TypeId} {l : List Hd} {ty : TypeId} (hty : Try.prog.underlying ty = some (.slice 44)) (h : Grows N w A t l) (hl : l.length ≤ 1000000) (hN : N ≤ w.heap.size) (x : Hd) :
    ∃ ra rc, w.cell? (blk A) = some (.slice ra l.length rc) ∧ ∀ w1, w1 = w.alloc (.cells #[.int .i64 x.1, .int .i64 x.2.1, .int .u64 x.2.2] 44) →
      ∃ ra' rc' w2, (Builtin.append_ #[ty, ty] ty #[.slice ra l.length rc, .slice (some (blk w.heap.size)) 1 1]).run Try.prog w1 = .ok (.slice ra' (l.length + 1) rc') w2 ∧ canStore w2 ((blk A).add 0) ∧
        ∀ w3, w3 = w2.setCell ((blk A).add 0) (.slice ra' (l.length + 1) rc') → Grows N w3 A t (l ++ [x]) ∧ Ext (fun b => N ≤ b) w w3 := by
  obtain ⟨ra, rc, h1, h2, h3, h4⟩ := h
  refine ⟨ra, rc, h1.cell (i := 0) rfl, fun w1 hw1 => ?_⟩
  have e1 : Ext no w w1 := by subst hw1; exact (Ext.refl _ _).alloc _
  have hb1 : Blk w1 w.heap.size 44 (hdC x) := by subst hw1; exact Blk.new _ _ _
  have ho1 := owns_ext h2 e1 fun q hq h => h
  obtain ⟨i, hi, hz, hs, hby⟩ := info_of infHead
  obtain ⟨ra', rc', w2, hr, ho, hg, hb⟩ := run_append (ty := ty) hty hi hz hs hby rfl (by decide) ho1 (xa := some (blk w.heap.size)) (m := 1) (c := 1) rfl (RowAt.of_blk hb1) (fun u hu => by
    simp only [hdC, List.mem_cons, List.not_mem_nil, or_false] at hu
    rcases hu with rfl | rfl | rfl <;> rfl) (by omega) (by omega)
  have hlt1 : w1.heap.size = w.heap.size + 1 := by subst hw1; simp
  have hAlt := h1.lt
  have hrow : ∀ q, (Value.slice ra l.length rc).ownBlock = some q → N ≤ q ∧ q ≠ A := fun q hq => by
    cases ra with
    | none => simp [Value.ownBlock] at hq
    | some ad => simp only [Value.ownBlock, Option.some.injEq] at hq; subst hq; exact h3 ad rfl
  have e2 : Ext (fun b => N ≤ b ∧ b ≠ A) w1 w2 := Ext.of_grown hg fun q hq => .inl (hrow q hq)
  have hA2 := (h1.ext e1 id).ext e2 (fun h => h.2 rfl)
  refine ⟨ra', rc', w2, hr, hA2.cana (i := 0) rfl, fun w3 hw3 => ?_⟩
  rw [add_zero] at hw3
  have hA3 : Blk w3 A t [.slice ra' (l.length + 1) rc'] := by subst hw3; exact hA2.set 0 _
  have e3 : Ext (fun b => b = A) w2 w3 := by subst hw3; exact Ext.set1 _ _ _
  have hrow' : ∀ ad, ra' = some ad → N ≤ ad.block ∧ ad.block ≠ A := fun ad ha => by
    subst ha
    rcases hb with hb | hb
    · exact hrow _ hb.symm
    · simp only [Value.ownBlock, Option.some.injEq] at hb
      exact ⟨by omega, by omega⟩
  refine ⟨⟨ra', rc', by rw [List.length_append]; exact hA3, ?_, hrow', h4⟩, ?_⟩
  · rw [List.length_append, show hsC (l ++ [x]) = hsC l ++ hdC x by simp [hsC]]
    exact owns_ext ho e3 fun q hq h => by
      cases ra' with
      | none => simp [Value.ownBlock] at hq
      | some ad => simp only [Value.ownBlock, Option.some.injEq] at hq; exact (hrow' ad rfl).2 (by omega)
  · exact (e1.none.trans (e2.mono fun b hb _ => hb.1)).trans (e3.mono fun b hb _ => by rw [hb]; exact h4)

/-! ### Missing -/
def missF (l : List Hd) (x y : Hd) : List Hd := if y.2.1 > x.2.1 then l ++ [y] else l
def missV (a b : List Hd) : List Hd := if bothV a b then foldV missF a b [] 8 else []
theorem miss_len (a b : List Hd) : ∀ n, (foldV missF a b [] n).length ≤ n
  | 0 => Nat.le_refl _
  | n + 1 => by
    have := miss_len a b n
    simp only [foldV, missF]
    split
    · simp; omega
    · omega
theorem missing1_spec (x y : Hd) {N A : Nat} {l : List Hd} (h : Grows N w A 22 l) (hl : l.length ≤ 1000000) (hN : N ≤ w.heap.size) :
    Calls Try.prog 21 #[hdV x, hdV y, .pointer (some (blk A))] w (fun e w' => e = .returned (.tuple #[]) ∧ Grows N w' A 22 (missF l x y) ∧ Ext (fun b => N ≤ b) w w') := by
  refine (vMissing1.ok _ _ _ _ _ _ _ (R := fun v w' => v = .tuple #[] ∧ Grows N w' A 22 (missF l x y) ∧ Ext (fun b => N ≤ b) w w') ?_).mono fun e w' ⟨v, he, hv, hw⟩ => ⟨by rw [he, hv], hw⟩
  unfold vMissing1.M
  refine thenW_in fun w9 h9 => thenW_in fun w10 h10 => ?_
  have e9 : Ext no w w9 := by subst h9; exact (Ext.refl _ _).alloc _
  have e10 : Ext no w9 w10 := by subst h10; exact (Ext.refl _ _).alloc _
  have hX9 : Blk w9 w.heap.size 44 (hdC x) := by subst h9; exact Blk.new _ _ _
  have hX := hX9.ext e10 id
  have hY : Blk w10 w9.heap.size 44 (hdC y) := by subst h10; exact Blk.new _ _ _
  have e := e9.trans e10
  have hG := h.ext e fun b hb => hb.elim
  refine ⟨_, hY.cella (i := 1) rfl, _, hX.cella (i := 1) rfl, ?_⟩
  unfold missF
  by_cases c1 : y.2.1 > x.2.1
  · rw [decide_eq_true c1, cond_true, if_pos c1]
    obtain ⟨ra, rc, hc, hp⟩ := grows_push (ty := 22) Try.underlying22 hG hl (Nat.le_trans hN e.size) y
    refine ⟨ra, l.length, rc, hc, _, _, _, ⟨hY.cella (i := 0) rfl, hY.cella (i := 1) rfl, hY.cella (i := 2) rfl, trivial⟩, thenW_in fun w16 h16 => ?_⟩
    obtain ⟨ra', rc', w18, hr, hcan, hfin⟩ := hp w16 h16
    refine ⟨ra', l.length + 1, rc', w18, hr, hcan, thenW_in fun w19 h19 => ?_⟩
    obtain ⟨g1, g2⟩ := hfin w19 h19
    exact ⟨rfl, g1, e.none.trans g2⟩
  · rw [decide_eq_false c1, cond_false, if_neg c1]
    exact ⟨rfl, hG, e.none⟩
theorem Missing_spec (ha : RowAt w aa (hsC a)) (hb : RowAt w ba (hsC b)) (hla : a.length < 1000000) (hlb : b.length < 1000000) :
    Calls Try.prog 10 #[.slice aa a.length ac, .slice ba b.length bc] w (fun e w' => ∃ ra rc, e = .returned (.slice ra (missV a b).length rc) ∧ RowAt w' ra (hsC (missV a b)) ∧ Ext no w w') := by
  refine (vMissing.ok _ _ _ _ _ _ (R := fun v w' => ∃ ra rc, v = .slice ra (missV a b).length rc ∧ RowAt w' ra (hsC (missV a b)) ∧ Ext no w w') ?_).mono fun e w' ⟨v, he, ra, rc, hv, hw⟩ => ⟨ra, rc, by rw [he, hv], hw⟩
  unfold vMissing.M
  refine thenW_in fun w3 h3 => ?_
  have e3 : Ext no w w3 := by subst h3; exact (Ext.refl _ _).alloc _
  have hA3 : Blk w3 w.heap.size 22 [.slice none 0 0] := by subst h3; exact Blk.new _ _ _
  have hG3 : Grows w.heap.size w3 w.heap.size 22 [] := ⟨none, 0, hA3, owns_nil _ _ _, (fun ad (ha : none = some ad) => by cases ha), Nat.le_refl _⟩
  refine (each_spec missF [] (fun n l w1 => Grows w.heap.size w1 w.heap.size 22 l ∧ Ext no w w1 ∧ l.length ≤ n) 21 #[] _ (by kernel_rfl) hla hlb
    (fun _ s w1 h => ⟨ha.no h.2.1, hb.no h.2.1⟩) (fun _ s w1 w2 h k => ⟨h.1.ext k fun b hb => hb.elim, h.2.1.trans k, h.2.2⟩) ⟨hG3, e3, Nat.le_refl _⟩ (fun l i w1 hi h => ?_)).mono fun e w6 ⟨he, _, hG6, x6, _⟩ => ⟨_, he, ?_⟩
  · refine (missing1_spec (getV a i) (getV b i) h.1 (by omega) h.2.1.size).mono fun e w2 ⟨he, q1, q2⟩ => ⟨he, q1, h.2.1.then q2 fun b hb => .inr hb, ?_⟩
    simp only [missF]
    split
    · simp; omega
    · omega
  have hl : (if bothV a b = true then foldV missF a b [] 8 else []) = missV a b := rfl
  rw [hl] at hG6
  obtain ⟨ra, rc, q1, q2, q3, q4⟩ := hG6
  refine ⟨ra, _, rc, q1.cell (i := 0) rfl, q1.cana (i := 0) rfl, thenW_in fun w8 h8 => ?_⟩
  rw [add_zero] at h8
  have hA8 : Blk w8 w.heap.size 22 [.slice ra (missV a b).length rc] := by subst h8; exact q1.set 0 _
  have x8' : Ext (fun b => b = w.heap.size) w6 w8 := by subst h8; exact Ext.set1 _ _ _
  obtain ⟨_, _, hv, hrow⟩ := RowAt.of_owns q2
  cases hv
  exact ⟨ra, _, rc, hA8.cell (i := 0) rfl, ra, rc, rfl, hrow.ext x8' (fun ad ha hq => (q3 ad ha).2 hq), x6.then x8' fun b hb => .inr (by omega)⟩
end
end Go.Proofs.Ytifplncikohlpaa
