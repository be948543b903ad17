/- Vectors: what is right, a writer's place, a writer's head. -/
import Derived.Test.YtifplncikohlpaaProg
import Derived.Test.YtifplncikohlpaaMxP
import Derived.KernelRfl
set_option linter.unusedVariables false
set_option linter.unusedSimpArgs false
set_option maxRecDepth 20000
namespace Go.Proofs.Ytifplncikohlpaa
open Go Go.Mx Go.Proofs
theorem followsV : Try.prog.follows .mixedOrders = true := by kernel_rfl
theorem follows : Try.prog.follows .mixedOrders = true := followsV
/-- vector.Right -/
def vRight.M (v1a : Option Addr) (v1n : Nat) (v1c : Nat) (R : Value → World → Prop) (w : World) : Prop :=
  ∃ (I0 : Nat → List Value → World → Prop) (m3 : Nat), I0 m3 [.int .i64 0] w ∧ ∀ (m4 : Nat) (ww5 : World) (t2 : Int), I0 m4 [.int .i64 t2] ww5 →
  bif decide (t2 < (v1n : Int)) then (
  v1a.elim False fun a6 =>
  0 ≤ (t2 : Int) ∧ (t2 : Int) < (v1n : Int) ∧
  ∃ (xWriter7 : Int) (xLen8 : Int) (xSum9 : Int), cellsAt ww5 (a6.add (Int.toNat t2 * 3)) [.int .i64 xWriter7, .int .i64 xLen8, .int .u64 xSum9] 0 ∧
  thenW (ww5.alloc (.cells #[.int .i64 0, .int .i64 0, .int .u64 0] 44)) fun ww10 =>
  canStore ww10 ((blk ww5.heap.size).add 0) ∧
  thenW (ww10.setCell ((blk ww5.heap.size).add 0) (.int .i64 xWriter7)) fun ww11 =>
  canStore ww11 ((blk ww5.heap.size).add 1) ∧
  thenW (ww11.setCell ((blk ww5.heap.size).add 1) (.int .i64 xLen8)) fun ww12 =>
  canStore ww12 ((blk ww5.heap.size).add 2) ∧
  thenW (ww12.setCell ((blk ww5.heap.size).add 2) (.int .u64 xSum9)) fun ww13 =>
  thenW (ww13.drew) fun ww14 =>
  ∃ (xWriter15 : Int) (xLen16 : Int) (xSum17 : Int), cellsAt ww14 (blk ww5.heap.size) [.int .i64 xWriter15, .int .i64 xLen16, .int .u64 xSum17] 0 ∧
  Calls Try.prog 20 #[.agg #[.int .i64 xWriter15, .int .i64 xLen16, .int .u64 xSum17]] ww14 fun ee19 ww20 => ∃ (righthea18 : Bool), ee19 = .returned (.bool righthea18) ∧
  bif !righthea18 then (
  R (.bool false) ww20) else (
  bif decide (t2 > 0) then (
  ∃ (Writer21 : Int), ww20.cell? ((blk ww5.heap.size).add 0) = some (.int .i64 Writer21) ∧
  v1a.elim False fun a22 =>
  0 ≤ ((IntKind.i64.wrap (t2 - 1)) : Int) ∧ ((IntKind.i64.wrap (t2 - 1)) : Int) < (v1n : Int) ∧
  ∃ (Writer23 : Int), ww20.cell? ((a22.add (Int.toNat (IntKind.i64.wrap (t2 - 1)) * 3)).add 0) = some (.int .i64 Writer23) ∧
  bif decide (Writer21 ≤ Writer23) then (
  R (.bool false) ww20) else (
  ∃ m24, m24 < m4 ∧ I0 m24 [.int .i64 (IntKind.i64.wrap (t2 + 1))] ww20)) else (
  ∃ m25, m25 < m4 ∧ I0 m25 [.int .i64 (IntKind.i64.wrap (t2 + 1))] ww20))) else (
  R (.bool true) ww5)

theorem vRight.eq (v1a : Option Addr) (v1n : Nat) (v1c : Nat) (R : Value → World → Prop) (w : World) : mfunc Try.prog [(0, [0, 5, 6], [(7, (.one (.int .i64)))])] 9 [.slice v1a v1n v1c] R w = vRight.M v1a v1n v1c R w := by kernel_rfl
theorem vRight.ok (v1a : Option Addr) (v1n : Nat) (v1c : Nat) {R : Value → World → Prop} {w : World} (h : vRight.M v1a v1n v1c R w) : Calls Try.prog 9 #[.slice v1a v1n v1c] w fun e w' => ∃ v, e = .returned v ∧ R v w' :=
  mfunc_ok follows (H := [(0, [0, 5, 6], [(7, (.one (.int .i64)))])]) (args := [.slice v1a v1n v1c]) (by rw [vRight.eq]; exact h)

/-- vector.rightHead -/
def vrh.M (hWriter1 : Int) (hLen2 : Int) (hSum3 : Int) (R : Value → World → Prop) (w : World) : Prop :=
  thenW (w.alloc (.cells #[.int .i64 hWriter1, .int .i64 hLen2, .int .u64 hSum3] 44)) fun ww4 =>
  ∃ (Writer5 : Int), ww4.cell? ((blk w.heap.size).add 0) = some (.int .i64 Writer5) ∧
  bif decide (Writer5 ≥ 0) then (
  ∃ (Writer6 : Int), ww4.cell? ((blk w.heap.size).add 0) = some (.int .i64 Writer6) ∧
  bif decide (Writer6 < 8) then (
  ∃ (Len7 : Int), ww4.cell? ((blk w.heap.size).add 1) = some (.int .i64 Len7) ∧
  bif decide (Len7 > 0) then (
  ∃ (Len8 : Int), ww4.cell? ((blk w.heap.size).add 1) = some (.int .i64 Len8) ∧
  bif decide (Len8 ≤ 200) then (
  ∃ (Sum9 : Int), ww4.cell? ((blk w.heap.size).add 2) = some (.int .u64 Sum9) ∧
  R (.bool (Sum9 != 0)) ww4) else (
  R (.bool false) ww4)) else (
  R (.bool false) ww4)) else (
  R (.bool false) ww4)) else (
  R (.bool false) ww4)

theorem vrh.eq (hWriter1 : Int) (hLen2 : Int) (hSum3 : Int) (R : Value → World → Prop) (w : World) : mfunc Try.prog [] 20 [.agg #[.int .i64 hWriter1, .int .i64 hLen2, .int .u64 hSum3]] R w = vrh.M hWriter1 hLen2 hSum3 R w := by kernel_rfl
theorem vrh.ok (hWriter1 : Int) (hLen2 : Int) (hSum3 : Int) {R : Value → World → Prop} {w : World} (h : vrh.M hWriter1 hLen2 hSum3 R w) : Calls Try.prog 20 #[.agg #[.int .i64 hWriter1, .int .i64 hLen2, .int .u64 hSum3]] w fun e w' => ∃ v, e = .returned v ∧ R v w' :=
  mfunc_ok follows (H := []) (args := [.agg #[.int .i64 hWriter1, .int .i64 hLen2, .int .u64 hSum3]]) (by rw [vrh.eq]; exact h)

/-- vector.Get -/
def vGet.M (v1a : Option Addr) (v1n : Nat) (v1c : Nat) (wv2 : Int) (R : Value → World → Prop) (w : World) : Prop :=
  thenW (w.alloc (.cells #[.int .i64 0, .int .i64 0, .int .u64 0] 44)) fun ww3 =>
  Calls Try.prog 9 #[.slice v1a v1n v1c] ww3 fun ee5 ww6 => ∃ (right4 : Bool), ee5 = .returned (.bool right4) ∧
  bif right4 then (
  Calls Try.prog 43 #[.slice v1a v1n v1c, .int .i64 wv2] ww6 fun ee9 ww10 => ∃ (find7 : Int) (find8 : Bool), ee9 = .returned (.tuple #[.int .i64 find7, .bool find8]) ∧
  bif find8 then (
  v1a.elim False fun a11 =>
  0 ≤ (find7 : Int) ∧ (find7 : Int) < (v1n : Int) ∧
  ∃ (xWriter12 : Int) (xLen13 : Int) (xSum14 : Int), cellsAt ww10 (a11.add (Int.toNat find7 * 3)) [.int .i64 xWriter12, .int .i64 xLen13, .int .u64 xSum14] 0 ∧
  canStore ww10 ((blk w.heap.size).add 0) ∧
  thenW (ww10.setCell ((blk w.heap.size).add 0) (.int .i64 xWriter12)) fun ww15 =>
  canStore ww15 ((blk w.heap.size).add 1) ∧
  thenW (ww15.setCell ((blk w.heap.size).add 1) (.int .i64 xLen13)) fun ww16 =>
  canStore ww16 ((blk w.heap.size).add 2) ∧
  thenW (ww16.setCell ((blk w.heap.size).add 2) (.int .u64 xSum14)) fun ww17 =>
  ∃ (resWriter18 : Int) (resLen19 : Int) (resSum20 : Int), cellsAt ww17 (blk w.heap.size) [.int .i64 resWriter18, .int .i64 resLen19, .int .u64 resSum20] 0 ∧
  R (.agg #[.int .i64 resWriter18, .int .i64 resLen19, .int .u64 resSum20]) ww17) else (
  canStore ww10 ((blk w.heap.size).add 0) ∧
  thenW (ww10.setCell ((blk w.heap.size).add 0) (.int .i64 wv2)) fun ww21 =>
  canStore ww21 ((blk w.heap.size).add 1) ∧
  thenW (ww21.setCell ((blk w.heap.size).add 1) (.int .i64 0)) fun ww22 =>
  canStore ww22 ((blk w.heap.size).add 2) ∧
  thenW (ww22.setCell ((blk w.heap.size).add 2) (.int .u64 0)) fun ww23 =>
  ∃ (resWriter24 : Int) (resLen25 : Int) (resSum26 : Int), cellsAt ww23 (blk w.heap.size) [.int .i64 resWriter24, .int .i64 resLen25, .int .u64 resSum26] 0 ∧
  R (.agg #[.int .i64 resWriter24, .int .i64 resLen25, .int .u64 resSum26]) ww23)) else (
  canStore ww6 ((blk w.heap.size).add 0) ∧
  thenW (ww6.setCell ((blk w.heap.size).add 0) (.int .i64 wv2)) fun ww27 =>
  canStore ww27 ((blk w.heap.size).add 1) ∧
  thenW (ww27.setCell ((blk w.heap.size).add 1) (.int .i64 0)) fun ww28 =>
  canStore ww28 ((blk w.heap.size).add 2) ∧
  thenW (ww28.setCell ((blk w.heap.size).add 2) (.int .u64 0)) fun ww29 =>
  ∃ (resWriter30 : Int) (resLen31 : Int) (resSum32 : Int), cellsAt ww29 (blk w.heap.size) [.int .i64 resWriter30, .int .i64 resLen31, .int .u64 resSum32] 0 ∧
  R (.agg #[.int .i64 resWriter30, .int .i64 resLen31, .int .u64 resSum32]) ww29)

theorem vGet.eq (v1a : Option Addr) (v1n : Nat) (v1c : Nat) (wv2 : Int) (R : Value → World → Prop) (w : World) : mfunc Try.prog [] 33 [.slice v1a v1n v1c, .int .i64 wv2] R w = vGet.M v1a v1n v1c wv2 R w := by kernel_rfl
theorem vGet.ok (v1a : Option Addr) (v1n : Nat) (v1c : Nat) (wv2 : Int) {R : Value → World → Prop} {w : World} (h : vGet.M v1a v1n v1c wv2 R w) : Calls Try.prog 33 #[.slice v1a v1n v1c, .int .i64 wv2] w fun e w' => ∃ v, e = .returned v ∧ R v w' :=
  mfunc_ok follows (H := []) (args := [.slice v1a v1n v1c, .int .i64 wv2]) (by rw [vGet.eq]; exact h)

/-- (vector.Vector).find -/
def vFind.M (v1a : Option Addr) (v1n : Nat) (v1c : Nat) (wv2 : Int) (R : Value → World → Prop) (w : World) : Prop :=
  Calls Try.prog 45 #[.slice v1a v1n v1c, .int .i64 wv2, .func (.func 46) #[] #[]] w fun ee5 ww6 => ∃ (binaryse3 : Int) (binaryse4 : Bool), ee5 = .returned (.tuple #[.int .i64 binaryse3, .bool binaryse4]) ∧
  R (.tuple #[.int .i64 binaryse3, .bool binaryse4]) ww6

theorem vFind.eq (v1a : Option Addr) (v1n : Nat) (v1c : Nat) (wv2 : Int) (R : Value → World → Prop) (w : World) : mfunc Try.prog [] 43 [.slice v1a v1n v1c, .int .i64 wv2] R w = vFind.M v1a v1n v1c wv2 R w := by kernel_rfl
theorem vFind.ok (v1a : Option Addr) (v1n : Nat) (v1c : Nat) (wv2 : Int) {R : Value → World → Prop} {w : World} (h : vFind.M v1a v1n v1c wv2 R w) : Calls Try.prog 43 #[.slice v1a v1n v1c, .int .i64 wv2] w fun e w' => ∃ v, e = .returned v ∧ R v w' :=
  mfunc_ok follows (H := []) (args := [.slice v1a v1n v1c, .int .i64 wv2]) (by rw [vFind.eq]; exact h)

/-- (vector.Vector).find$1 -/
def vFind1.M (hWriter1 : Int) (hLen2 : Int) (hSum3 : Int) (wv4 : Int) (R : Value → World → Prop) (w : World) : Prop :=
  thenW (w.alloc (.cells #[.int .i64 hWriter1, .int .i64 hLen2, .int .u64 hSum3] 44)) fun ww5 =>
  ∃ (Writer6 : Int), ww5.cell? ((blk w.heap.size).add 0) = some (.int .i64 Writer6) ∧
  Calls Try.prog 47 #[.int .i64 Writer6, .int .i64 wv4] ww5 fun ee8 ww9 => ∃ (compare7 : Int), ee8 = .returned (.int .i64 compare7) ∧
  R (.int .i64 compare7) ww9

theorem vFind1.eq (hWriter1 : Int) (hLen2 : Int) (hSum3 : Int) (wv4 : Int) (R : Value → World → Prop) (w : World) : mfunc Try.prog [] 46 [.agg #[.int .i64 hWriter1, .int .i64 hLen2, .int .u64 hSum3], .int .i64 wv4] R w = vFind1.M hWriter1 hLen2 hSum3 wv4 R w := by kernel_rfl
theorem vFind1.ok (hWriter1 : Int) (hLen2 : Int) (hSum3 : Int) (wv4 : Int) {R : Value → World → Prop} {w : World} (h : vFind1.M hWriter1 hLen2 hSum3 wv4 R w) : Calls Try.prog 46 #[.agg #[.int .i64 hWriter1, .int .i64 hLen2, .int .u64 hSum3], .int .i64 wv4] w fun e w' => ∃ v, e = .returned v ∧ R v w' :=
  mfunc_ok follows (H := []) (args := [.agg #[.int .i64 hWriter1, .int .i64 hLen2, .int .u64 hSum3], .int .i64 wv4]) (by rw [vFind1.eq]; exact h)

/-- slices.BinarySearchFunc[vector.Vector,api.Head,int] -/
def vBS.M (x1a : Option Addr) (x1n : Nat) (x1c : Nat) (target2 : Int) (cmp3k : Nat) (cmp3f : Array Value) (cmp3g : Array Value) (R : Value → World → Prop) (w : World) : Prop :=
  ∃ (I0 : Nat → List Value → World → Prop) (m6 : Nat), I0 m6 [.int .i64 0, .int .i64 (x1n : Int)] w ∧ ∀ (m7 : Nat) (ww8 : World) (i4 : Int) (j5 : Int), I0 m7 [.int .i64 i4, .int .i64 j5] ww8 →
  bif decide (i4 < j5) then (
  0 ≤ (1 : Int) ∧
  x1a.elim False fun a9 =>
  0 ≤ ((IntKind.i64.wrap (Int.fdiv (IntKind.u64.wrap (IntKind.i64.wrap (i4 + j5))) (2 ^ (min (Int.toNat 1) (IntKind.bits .u64))))) : Int) ∧ ((IntKind.i64.wrap (Int.fdiv (IntKind.u64.wrap (IntKind.i64.wrap (i4 + j5))) (2 ^ (min (Int.toNat 1) (IntKind.bits .u64))))) : Int) < (x1n : Int) ∧
  ∃ (xWriter10 : Int) (xLen11 : Int) (xSum12 : Int), cellsAt ww8 (a9.add (Int.toNat (IntKind.i64.wrap (Int.fdiv (IntKind.u64.wrap (IntKind.i64.wrap (i4 + j5))) (2 ^ (min (Int.toNat 1) (IntKind.bits .u64))))) * 3)) [.int .i64 xWriter10, .int .i64 xLen11, .int .u64 xSum12] 0 ∧
  bif enters Try.prog cmp3k then Calls Try.prog cmp3k (cmp3f.toList ++ ([.agg #[.int .i64 xWriter10, .int .i64 xLen11, .int .u64 xSum12], .int .i64 target2] : List Value) ++ cmp3g.toList).toArray ww8 (fun ee14 ww15 => ∃ (r13 : Int), ee14 = .returned (.int .i64 r13) ∧
  bif decide (r13 < 0) then (
  ∃ m16, m16 < m7 ∧ I0 m16 [.int .i64 (IntKind.i64.wrap ((IntKind.i64.wrap (Int.fdiv (IntKind.u64.wrap (IntKind.i64.wrap (i4 + j5))) (2 ^ (min (Int.toNat 1) (IntKind.bits .u64))))) + 1)), .int .i64 j5] ww15) else (
  ∃ m17, m17 < m7 ∧ I0 m17 [.int .i64 i4, .int .i64 (IntKind.i64.wrap (Int.fdiv (IntKind.u64.wrap (IntKind.i64.wrap (i4 + j5))) (2 ^ (min (Int.toNat 1) (IntKind.bits .u64)))))] ww15)) else False) else (
  bif decide (i4 < (x1n : Int)) then (
  x1a.elim False fun a18 =>
  0 ≤ (i4 : Int) ∧ (i4 : Int) < (x1n : Int) ∧
  ∃ (xWriter19 : Int) (xLen20 : Int) (xSum21 : Int), cellsAt ww8 (a18.add (Int.toNat i4 * 3)) [.int .i64 xWriter19, .int .i64 xLen20, .int .u64 xSum21] 0 ∧
  bif enters Try.prog cmp3k then Calls Try.prog cmp3k (cmp3f.toList ++ ([.agg #[.int .i64 xWriter19, .int .i64 xLen20, .int .u64 xSum21], .int .i64 target2] : List Value) ++ cmp3g.toList).toArray ww8 (fun ee23 ww24 => ∃ (r22 : Int), ee23 = .returned (.int .i64 r22) ∧
  R (.tuple #[.int .i64 i4, .bool (r22 == 0)]) ww24) else False) else (
  R (.tuple #[.int .i64 i4, .bool false]) ww8))

theorem vBS.eq (x1a : Option Addr) (x1n : Nat) (x1c : Nat) (target2 : Int) (cmp3k : Nat) (cmp3f : Array Value) (cmp3g : Array Value) (R : Value → World → Prop) (w : World) : mfunc Try.prog [(0, [0, 1, 2, 8], [(9, (.one (.int .i64))), (10, (.one (.int .i64)))])] 45 [.slice x1a x1n x1c, .int .i64 target2, .func (.func cmp3k) cmp3f cmp3g] R w = vBS.M x1a x1n x1c target2 cmp3k cmp3f cmp3g R w := by kernel_rfl
theorem vBS.ok (x1a : Option Addr) (x1n : Nat) (x1c : Nat) (target2 : Int) (cmp3k : Nat) (cmp3f : Array Value) (cmp3g : Array Value) {R : Value → World → Prop} {w : World} (h : vBS.M x1a x1n x1c target2 cmp3k cmp3f cmp3g R w) : Calls Try.prog 45 #[.slice x1a x1n x1c, .int .i64 target2, .func (.func cmp3k) cmp3f cmp3g] w fun e w' => ∃ v, e = .returned v ∧ R v w' :=
  mfunc_ok follows (H := [(0, [0, 1, 2, 8], [(9, (.one (.int .i64))), (10, (.one (.int .i64)))])]) (args := [.slice x1a x1n x1c, .int .i64 target2, .func (.func cmp3k) cmp3f cmp3g]) (by rw [vBS.eq]; exact h)

/-- cmp.Compare[int] -/
def cCmp.M (x1 : Int) (y2 : Int) (R : Value → World → Prop) (w : World) : Prop :=
  Calls Try.prog 48 #[.int .i64 x1] w fun ee4 ww5 => ∃ (isnan3 : Bool), ee4 = .returned (.bool isnan3) ∧
  Calls Try.prog 48 #[.int .i64 y2] ww5 fun ee7 ww8 => ∃ (isnan6 : Bool), ee7 = .returned (.bool isnan6) ∧
  bif isnan3 then (
  bif isnan6 then (
  R (.int .i64 0) ww8) else (
  R (.int .i64 (-1)) ww8)) else (
  bif isnan6 then (
  R (.int .i64 1) ww8) else (
  bif decide (x1 < y2) then (
  R (.int .i64 (-1)) ww8) else (
  bif decide (x1 > y2) then (
  R (.int .i64 1) ww8) else (
  R (.int .i64 0) ww8))))

theorem cCmp.eq (x1 : Int) (y2 : Int) (R : Value → World → Prop) (w : World) : mfunc Try.prog [] 47 [.int .i64 x1, .int .i64 y2] R w = cCmp.M x1 y2 R w := by kernel_rfl
theorem cCmp.ok (x1 : Int) (y2 : Int) {R : Value → World → Prop} {w : World} (h : cCmp.M x1 y2 R w) : Calls Try.prog 47 #[.int .i64 x1, .int .i64 y2] w fun e w' => ∃ v, e = .returned v ∧ R v w' :=
  mfunc_ok follows (H := []) (args := [.int .i64 x1, .int .i64 y2]) (by rw [cCmp.eq]; exact h)

/-- cmp.isNaN[int] -/
def cNaN.M (x1 : Int) (R : Value → World → Prop) (w : World) : Prop :=
  R (.bool (x1 != x1)) w

theorem cNaN.eq (x1 : Int) (R : Value → World → Prop) (w : World) : mfunc Try.prog [] 48 [.int .i64 x1] R w = cNaN.M x1 R w := by kernel_rfl
theorem cNaN.ok (x1 : Int) {R : Value → World → Prop} {w : World} (h : cNaN.M x1 R w) : Calls Try.prog 48 #[.int .i64 x1] w fun e w' => ∃ v, e = .returned v ∧ R v w' :=
  mfunc_ok follows (H := []) (args := [.int .i64 x1]) (by rw [cNaN.eq]; exact h)


/-- what a step hands back, and what then is. -/
def GivesV (v : Value) (Q : World → Prop) (e : Ending) (w' : World) : Prop := e = .returned v ∧ Q w'
abbrev Hd := Int × Int × Int
def hdC (h : Hd) : List Value := [.int .i64 h.1, .int .i64 h.2.1, .int .u64 h.2.2]
def hdV (h : Hd) : Value := .agg #[.int .i64 h.1, .int .i64 h.2.1, .int .u64 h.2.2]
def hsC (hs : List Hd) : List Value := hs.flatMap hdC
theorem hsC_length : ∀ hs : List Hd, (hsC hs).length = hs.length * 3
  | [] => rfl
  | h :: r => by
    have := hsC_length r
    simp only [hsC, List.flatMap_cons, List.length_append, List.length_cons] at this ⊢
    rw [this]; simp [hdC]; omega
theorem hsC_get : ∀ {hs : List Hd} {i : Nat} {h : Hd}, hs[i]? = some h → ∀ j, j < 3 → (hsC hs)[i * 3 + j]? = (hdC h)[j]?
  | [], i, h, hi, j, hj => by simp at hi
  | a :: r, 0, h, hi, j, hj => by
    simp only [List.getElem?_cons_zero, Option.some.injEq] at hi
    subst hi
    simp only [hsC, List.flatMap_cons, Nat.zero_mul, Nat.zero_add]
    rw [List.getElem?_append_left (by simp [hdC]; omega)]
  | a :: r, i + 1, h, hi, j, hj => by
    simp only [List.getElem?_cons_succ] at hi
    have := hsC_get hi j hj
    simp only [hsC, List.flatMap_cons] at this ⊢
    rw [List.getElem?_append_right (by simp [hdC]; omega), show (i + 1) * 3 + j - (hdC a).length = i * 3 + j by simp [hdC]; omega]
    exact this
theorem hs_cell {w : World} {ad : Addr} {hs : List Hd} (hr : RowAt w (some ad) (hsC hs)) {i : Nat} {h : Hd} (hi : hs[i]? = some h) {j : Nat} {v : Value} (hv : (hdC h)[j]? = some v) : w.cell? ((ad.add (i * 3)).add j) = some v := by
  have hj : j < 3 := by have := (List.getElem?_eq_some_iff.1 hv).1; simpa [hdC] using this
  rw [add_add]
  exact hr.at_ ((hsC_get hi j hj).trans hv)
theorem hs_at {w : World} {ad : Addr} {hs : List Hd} (hr : RowAt w (some ad) (hsC hs)) {i : Nat} {h : Hd} (hi : hs[i]? = some h) : cellsAt w (ad.add (i * 3)) [.int .i64 h.1, .int .i64 h.2.1, .int .u64 h.2.2] 0 :=
  ⟨hs_cell hr hi (j := 0) rfl, hs_cell hr hi (j := 1) rfl, hs_cell hr hi (j := 2) rfl, trivial⟩
theorem hsC_ne {hs : List Hd} (h : hs ≠ []) : hsC hs ≠ [] := fun e => by
  have := hsC_length hs
  rw [e] at this
  simp at this
  exact h (List.eq_nil_of_length_eq_zero (by omega))

def rhead (h : Hd) : Bool := decide (h.1 ≥ 0) && (decide (h.1 < 8) && (decide (h.2.1 > 0) && (decide (h.2.1 ≤ 200) && (h.2.2 != 0))))
def rightF : Option Int → List Hd → Bool
  | _, [] => true
  | p, h :: r => rhead h && (match p with | none => true | some q => decide (q < h.1)) && rightF (some h.1) r
def rightV (hs : List Hd) : Bool := rightF none hs
def prevOf (hs : List Hd) : Nat → Option Int
  | 0 => none
  | t + 1 => (hs[t]?).map (·.1)
def lookV : List Hd → Int → Option Hd
  | [], _ => none
  | h :: r, x => if h.1 = x then some h else lookV r x
def getV (hs : List Hd) (x : Int) : Hd := if rightV hs then (lookV hs x).getD (x, 0, 0) else (x, 0, 0)
theorem rightF_lt : ∀ {hs : List Hd} {p : Option Int}, rightF p hs = true → (∀ q, p = some q → ∀ h ∈ hs, q < h.1) ∧ (hs.map (·.1)).Pairwise (· < ·)
  | [], p, _ => ⟨fun q _ h hh => by simp at hh, by simp⟩
  | a :: r, p, h => by
    simp only [rightF, Bool.and_eq_true] at h
    obtain ⟨⟨h1, h2⟩, h3⟩ := h
    obtain ⟨i1, i2⟩ := rightF_lt h3
    refine ⟨fun q hq x hx => ?_, ?_⟩
    · subst hq
      simp only [decide_eq_true_eq] at h2
      rcases List.mem_cons.1 hx with rfl | hx
      · exact h2
      · have := i1 a.1 rfl x hx; omega
    · simp only [List.map_cons, List.pairwise_cons]
      refine ⟨fun b hb => ?_, i2⟩
      obtain ⟨x, hx, rfl⟩ := List.mem_map.1 hb
      exact i1 a.1 rfl x hx
theorem lookV_at : ∀ {hs : List Hd} {i : Nat} {h : Hd} {x : Int}, hs[i]? = some h → h.1 = x → (∀ k q, k < i → hs[k]? = some q → q.1 ≠ x) → lookV hs x = some h
  | [], i, h, x, hi, _, _ => by simp at hi
  | a :: r, 0, h, x, hi, hx, _ => by
    simp only [List.getElem?_cons_zero, Option.some.injEq] at hi
    subst hi; simp [lookV, hx]
  | a :: r, i + 1, h, x, hi, hx, hne => by
    simp only [List.getElem?_cons_succ] at hi
    simp only [lookV]
    rw [if_neg (hne 0 a (by omega) rfl)]
    exact lookV_at hi hx fun k q hk hq => hne (k + 1) q (by omega) (by simpa using hq)
theorem lookV_none : ∀ {hs : List Hd} {x : Int}, (∀ h ∈ hs, h.1 ≠ x) → lookV hs x = none
  | [], x, _ => rfl
  | a :: r, x, h => by
    simp only [lookV]
    rw [if_neg (h a List.mem_cons_self)]
    exact lookV_none fun b hb => h b (List.mem_cons_of_mem _ hb)

section
variable {w w' : World} {a : Option Addr} {c : Nat} {hs : List Hd}
theorem rightHead_spec (h : Hd) : Calls Try.prog 20 #[hdV h] w (GivesV (.bool (rhead h)) fun w' => Ext no w w') := by
  refine (vrh.ok _ _ _ (R := fun v w' => v = .bool (rhead h) ∧ Ext no w w') ?_).mono fun e w' ⟨v, he, hv, hw⟩ => ⟨by rw [he, hv], hw⟩
  unfold vrh.M
  refine thenW_in fun w4 h4 => ?_
  have hb : Blk w4 w.heap.size 44 (hdC h) := by subst h4; exact Blk.new _ _ _
  have hx : Ext no w w4 := by subst h4; exact (Ext.refl _ _).alloc _
  refine ⟨_, hb.cella (i := 0) rfl, ?_⟩
  unfold rhead
  by_cases c1 : h.1 ≥ 0
  · rw [decide_eq_true c1, cond_true, Bool.true_and]
    refine ⟨_, hb.cella (i := 0) rfl, ?_⟩
    by_cases c2 : h.1 < 8
    · rw [decide_eq_true c2, cond_true, Bool.true_and]
      refine ⟨_, hb.cella (i := 1) rfl, ?_⟩
      by_cases c3 : h.2.1 > 0
      · rw [decide_eq_true c3, cond_true, Bool.true_and]
        refine ⟨_, hb.cella (i := 1) rfl, ?_⟩
        by_cases c4 : h.2.1 ≤ 200
        · rw [decide_eq_true c4, cond_true, Bool.true_and]
          exact ⟨_, hb.cella (i := 2) rfl, rfl, hx⟩
        · rw [decide_eq_false c4]; exact ⟨rfl, hx⟩
      · rw [decide_eq_false c3]; exact ⟨rfl, hx⟩
    · rw [decide_eq_false c2]; exact ⟨rfl, hx⟩
  · rw [decide_eq_false c1]; exact ⟨rfl, hx⟩

theorem Right_spec (hr : RowAt w a (hsC hs)) (hl : hs.length < 1000000) : Calls Try.prog 9 #[.slice a hs.length c] w (GivesV (.bool (rightV hs)) fun w' => Ext no w w') := by
  refine (vRight.ok _ _ _ (R := fun v w' => v = .bool (rightV hs) ∧ Ext no w w') ?_).mono fun e w' ⟨v, he, hv, hw⟩ => ⟨by rw [he, hv], hw⟩
  unfold vRight.M
  refine ⟨fun k vs w1 => ∃ t : Nat, vs = [.int .i64 t] ∧ k + t = hs.length ∧ rightF (prevOf hs t) (hs.drop t) = rightV hs ∧ Ext no w w1, hs.length, ⟨0, rfl, rfl, rfl, Ext.refl _ _⟩, ?_⟩
  rintro k w1 i ⟨t, hi, hk, hf, hx⟩
  simp only [List.cons.injEq, Value.int.injEq, true_and, and_true] at hi
  subst hi
  cases k with
  | zero =>
    obtain rfl : t = hs.length := by omega
    rw [show decide ((hs.length : Int) < (hs.length : Int)) = false by simp, cond_false]
    rw [List.drop_length] at hf
    exact ⟨by rw [← hf]; cases prevOf hs hs.length <;> rfl, hx⟩
  | succ k =>
    have ht : t < hs.length := by omega
    rw [show decide ((t : Int) < (hs.length : Int)) = true by simp; omega, cond_true]
    have hr1 := hr.no hx
    obtain ⟨ad, rfl⟩ := hr1.addr (hsC_ne (by intro e; subst e; simp at ht))
    have hgi : hs[t]? = some hs[t] := List.getElem?_eq_getElem ht
    refine ⟨by omega, by omega, _, _, _, by rw [Int.toNat_natCast]; exact hs_at hr1 hgi, thenW_in fun w10 h10 => ?_⟩
    have hb10 : Blk w10 w1.heap.size 44 [.int .i64 0, .int .i64 0, .int .u64 0] := by subst h10; exact Blk.new _ _ _
    have x10 : Ext no w1 w10 := by subst h10; exact (Ext.refl _ _).alloc _
    refine ⟨hb10.cana (i := 0) rfl, thenW_in fun w11 h11 => ?_⟩
    have hb11 := hb10.seta 0 (.int .i64 hs[t].1)
    rw [← h11] at hb11
    have x11 : Ext no w1 w11 := by subst h11; exact x10.setCell (.inr (by rw [add_zero]; exact Nat.le_refl _)) _
    refine ⟨hb11.cana (i := 1) rfl, thenW_in fun w12 h12 => ?_⟩
    have hb12 := hb11.seta 1 (.int .i64 hs[t].2.1)
    rw [← h12] at hb12
    have x12 : Ext no w1 w12 := by subst h12; exact x11.setCell (.inr (by rw [add_blk]; exact Nat.le_refl _)) _
    refine ⟨hb12.cana (i := 2) rfl, thenW_in fun w13 h13 => thenW_in fun w14 h14 => ?_⟩
    have hb13 := hb12.seta 2 (.int .u64 hs[t].2.2)
    rw [← h13] at hb13
    have x13 : Ext no w1 w13 := by subst h13; exact x12.setCell (.inr (by rw [add_blk]; exact Nat.le_refl _)) _
    have hb14 := hb13.drew
    rw [← h14] at hb14
    have x14 : Ext no w1 w14 := by subst h14; exact x13.drew
    refine ⟨_, _, _, ⟨hb14.cella (i := 0) rfl, hb14.cella (i := 1) rfl, hb14.cella (i := 2) rfl, trivial⟩, ?_⟩
    refine (rightHead_spec hs[t]).mono fun e w20 ⟨he, x20'⟩ => ⟨_, he, ?_⟩
    have x20 := x14.trans x20'
    have hb20 := hb14.ext x20' id
    have hd : hs.drop t = hs[t] :: hs.drop (t + 1) := List.drop_eq_getElem_cons ht
    rw [hd] at hf
    simp only [rightF] at hf
    by_cases c1 : rhead hs[t] = true
    · rw [c1, Bool.not_true, cond_false]
      rw [c1, Bool.true_and] at hf
      have hw1 : IntKind.i64.wrap ((t : Int) + 1) = ((t + 1 : Nat) : Int) := by rw [w64 (by omega) (by omega)]; rfl
      cases t with
      | zero =>
        rw [show decide (((0 : Nat) : Int) > 0) = false from rfl, cond_false]
        exact ⟨k, by omega, 1, by rw [hw1], by omega, by rw [← hf]; simp [prevOf, ht], hx.trans x20⟩
      | succ t =>
        rw [show decide (((t + 1 : Nat) : Int) > 0) = true by simp <;> omega, cond_true]
        have htl : t < hs.length := by omega
        have hgp : hs[t]? = some hs[t] := List.getElem?_eq_getElem htl
        have hw2 : IntKind.i64.wrap (((t + 1 : Nat) : Int) - 1) = (t : Int) := by rw [w64 (by omega) (by omega)] <;> omega
        rw [hw2]
        refine ⟨_, hb20.cella (i := 0) rfl, by omega, by omega, _, by rw [Int.toNat_natCast]; exact hs_cell (hr1.no x20) hgp (j := 0) rfl, ?_⟩
        simp only [prevOf, hgp, Option.map_some] at hf
        by_cases c2 : hs[t + 1].1 ≤ hs[t].1
        · rw [decide_eq_true c2, cond_true]
          rw [decide_eq_false (by omega), Bool.false_and] at hf
          exact ⟨by rw [← hf], hx.trans x20⟩
        · rw [decide_eq_false c2, cond_false]
          rw [decide_eq_true (by omega), Bool.true_and] at hf
          exact ⟨k, by omega, t + 2, by rw [hw1], by omega, by rw [← hf]; simp [prevOf, ht], hx.trans x20⟩
    · have c1' : rhead hs[t] = false := by simpa using c1
      rw [c1', Bool.not_false, cond_true]
      rw [c1', Bool.false_and, Bool.false_and] at hf
      exact ⟨by rw [← hf], hx.trans x20⟩

theorem cmp_spec (x y : Int) : Calls Try.prog 47 #[.int .i64 x, .int .i64 y] w (GivesV (.int .i64 (if x < y then -1 else if x > y then 1 else 0)) fun w' => w' = w) := by
  refine (cCmp.ok _ _ (R := fun v w' => v = .int .i64 (if x < y then -1 else if x > y then 1 else 0) ∧ w' = w) ?_).mono fun e w' ⟨v, he, hv, hw⟩ => ⟨by rw [he, hv], hw⟩
  unfold cCmp.M
  have hn : ∀ (z : Int) (w : World), Calls Try.prog 48 #[.int .i64 z] w (GivesV (.bool false) fun w' => w' = w) := fun z w => by
    refine (cNaN.ok _ (R := fun v w' => v = .bool false ∧ w' = w) ?_).mono fun e w' ⟨v, he, hv, hw⟩ => ⟨by rw [he, hv], hw⟩
    unfold cNaN.M
    exact ⟨by simp, rfl⟩
  refine (hn x w).mono fun e w5 ⟨he, hw⟩ => ⟨false, he, ?_⟩
  subst hw
  refine (hn y w5).mono fun e w8 ⟨he, hw⟩ => ⟨false, he, ?_⟩
  subst hw
  rw [cond_false, cond_false]
  by_cases c1 : x < y
  · rw [decide_eq_true c1, if_pos c1]; exact ⟨rfl, rfl⟩
  rw [decide_eq_false c1, if_neg c1, cond_false]
  by_cases c2 : x > y
  · rw [decide_eq_true c2, if_pos c2]; exact ⟨rfl, rfl⟩
  rw [decide_eq_false c2, if_neg c2, cond_false]
  exact ⟨rfl, rfl⟩
theorem find1_spec (h : Hd) (x : Int) : Calls Try.prog 46 #[hdV h, .int .i64 x] w (GivesV (.int .i64 (if h.1 < x then -1 else if h.1 > x then 1 else 0)) fun w' => Ext no w w') := by
  refine (vFind1.ok _ _ _ _ (R := fun v w' => v = .int .i64 (if h.1 < x then -1 else if h.1 > x then 1 else 0) ∧ Ext no w w') ?_).mono fun e w' ⟨v, he, hv, hw⟩ => ⟨by rw [he, hv], hw⟩
  unfold vFind1.M
  refine thenW_in fun w5 h5 => ?_
  have hb : Blk w5 w.heap.size 44 (hdC h) := by subst h5; exact Blk.new _ _ _
  have hx : Ext no w w5 := by subst h5; exact (Ext.refl _ _).alloc _
  refine ⟨_, hb.cella (i := 0) rfl, ?_⟩
  refine (cmp_spec _ _).mono fun e w9 ⟨he, hw⟩ => ⟨_, he, ?_⟩
  subst hw
  exact ⟨rfl, hx⟩
/-- where a writer stands, or would. -/
def placeOk (hs : List Hd) (x : Int) (i : Nat) : Prop := i ≤ hs.length ∧ ∀ k h, hs[k]? = some h → (k < i → h.1 < x) ∧ (i ≤ k → x ≤ h.1)
theorem sorted_at (hs : List Hd) (h : rightV hs = true) {i j : Nat} {p q : Hd} (hij : i < j) (hi : hs[i]? = some p) (hj : hs[j]? = some q) : p.1 < q.1 := by
  have := (rightF_lt h).2
  obtain ⟨hi1, rfl⟩ := List.getElem?_eq_some_iff.1 hi
  obtain ⟨hj1, rfl⟩ := List.getElem?_eq_some_iff.1 hj
  have h2 := List.pairwise_iff_getElem.1 this i j (by simpa using hi1) (by simpa using hj1) hij
  simpa using h2
theorem find_spec (hr : RowAt w a (hsC hs)) (hl : hs.length < 1000000) (hright : rightV hs = true) (x : Int) :
    Calls Try.prog 43 #[.slice a hs.length c, .int .i64 x] w (fun e w' => ∃ i : Nat, e = .returned (.tuple #[.int .i64 i, .bool (decide ((hs[i]?).map (·.1) = some x))]) ∧ placeOk hs x i ∧ Ext no w w') := by
  refine (vFind.ok _ _ _ _ (R := fun v w' => ∃ i : Nat, v = (.tuple #[.int .i64 i, .bool (decide ((hs[i]?).map (·.1) = some x))]) ∧ placeOk hs x i ∧ Ext no w w') ?_).mono fun e w' ⟨v, he, i, hv, hw⟩ => ⟨i, by rw [he, hv], hw⟩
  unfold vFind.M
  refine (vBS.ok _ _ _ _ _ _ _ (R := fun v w' => ∃ i : Nat, v = (.tuple #[.int .i64 i, .bool (decide ((hs[i]?).map (·.1) = some x))]) ∧ placeOk hs x i ∧ Ext no w w') ?_).mono fun e w' ⟨v, he, i, hv, hw⟩ => ⟨_, _, by rw [he, hv], i, rfl, hw⟩
  unfold vBS.M
  refine ⟨fun k vs w1 => ∃ i j : Nat, vs = [.int .i64 i, .int .i64 j] ∧ k = j - i ∧ i ≤ j ∧ j ≤ hs.length ∧ (∀ k h, hs[k]? = some h → (k < i → h.1 < x) ∧ (j ≤ k → x ≤ h.1)) ∧ Ext no w w1, hs.length,
    ⟨0, hs.length, rfl, rfl, by omega, Nat.le_refl _, fun k h hk => ⟨fun h0 => by omega, fun h0 => by have := (List.getElem?_eq_some_iff.1 hk).1; omega⟩, Ext.refl _ _⟩, ?_⟩
  rintro k w1 i0 j0 ⟨i, j, hij, rfl, hle, hjn, hinv, hx⟩
  simp only [List.cons.injEq, Value.int.injEq, true_and, and_true] at hij
  obtain ⟨rfl, rfl⟩ := hij
  have hent : enters Try.prog 46 = true := by kernel_rfl
  by_cases hlt : i < j
  · rw [show decide ((i : Int) < (j : Int)) = true by simp; omega, cond_true]
    have hmid : IntKind.i64.wrap (Int.fdiv (IntKind.u64.wrap (IntKind.i64.wrap ((i : Int) + (j : Int)))) (2 ^ (min (Int.toNat 1) (IntKind.bits .u64)))) = (((i + j) / 2 : Nat) : Int) := by
      rw [w64 (n := (i : Int) + j) (by omega) (by omega), wu64 (by omega) (by omega), show min (Int.toNat 1) (IntKind.bits .u64) = 1 from rfl, Int.fdiv_eq_ediv_of_nonneg _ (by decide), w64 (by omega) (by omega)]
      omega
    rw [hmid]
    have hm : (i + j) / 2 < hs.length := by omega
    have hr1 := hr.no hx
    obtain ⟨ad, rfl⟩ := hr1.addr (hsC_ne (by intro e; subst e; simp at hm))
    have hgi : hs[(i + j) / 2]? = some hs[(i + j) / 2] := List.getElem?_eq_getElem hm
    refine ⟨by omega, by omega, by omega, _, _, _, by rw [Int.toNat_natCast]; exact hs_at hr1 hgi, ?_⟩
    rw [hent, cond_true]
    refine (find1_spec hs[(i + j) / 2] x).mono fun e w15 ⟨he, hx15⟩ => ⟨_, he, ?_⟩
    by_cases c1 : hs[(i + j) / 2].1 < x
    · rw [if_pos c1, show decide ((-1 : Int) < 0) = true from rfl, cond_true]
      refine ⟨j - ((i + j) / 2 + 1), by omega, (i + j) / 2 + 1, j, by rw [w64 (by omega) (by omega)]; rfl, rfl, by omega, hjn, fun k h hk => ⟨fun h0 => ?_, (hinv k h hk).2⟩, hx.trans hx15⟩
      by_cases hke : k = (i + j) / 2
      · subst hke; rw [hgi] at hk; cases hk; exact c1
      · have := sorted_at hs hright (i := k) (j := (i + j) / 2) (by omega) hk hgi
        omega
    · rw [if_neg c1, show decide ((if hs[(i + j) / 2].1 > x then (1 : Int) else 0) < 0) = false by split <;> rfl, cond_false]
      refine ⟨(i + j) / 2 - i, by omega, i, (i + j) / 2, rfl, rfl, by omega, by omega, fun k h hk => ⟨(hinv k h hk).1, fun h0 => ?_⟩, hx.trans hx15⟩
      by_cases hke : k = (i + j) / 2
      · subst hke; rw [hgi] at hk; cases hk; omega
      · have := sorted_at hs hright (i := (i + j) / 2) (j := k) (by omega) hgi hk
        omega
  · obtain rfl : i = j := by omega
    rw [show decide ((i : Int) < (i : Int)) = false by simp, cond_false]
    by_cases hin : i < hs.length
    · rw [show decide ((i : Int) < (hs.length : Int)) = true by simp; omega, cond_true]
      have hr1 := hr.no hx
      obtain ⟨ad, rfl⟩ := hr1.addr (hsC_ne (by intro e; subst e; simp at hin))
      have hgi : hs[i]? = some hs[i] := List.getElem?_eq_getElem hin
      refine ⟨by omega, by omega, _, _, _, by rw [Int.toNat_natCast]; exact hs_at hr1 hgi, ?_⟩
      rw [hent, cond_true]
      refine (find1_spec hs[i] x).mono fun e w15 ⟨he, hx15⟩ => ⟨_, he, i, ?_, ⟨hjn, hinv⟩, hx.trans hx15⟩
      congr 3
      rw [hgi]
      have : ((if hs[i].1 < x then (-1 : Int) else if hs[i].1 > x then 1 else 0) == 0) = decide (Option.map (·.1) (some hs[i]) = some x) := by
        rw [Bool.eq_iff_iff]
        simp only [beq_iff_eq, decide_eq_true_eq, Option.map_some, Option.some.injEq]
        constructor
        · intro h
          by_cases d1 : hs[i].1 < x
          · rw [if_pos d1] at h; cases h
          · rw [if_neg d1] at h
            by_cases d2 : hs[i].1 > x
            · rw [if_pos d2] at h; cases h
            · omega
        · intro h
          rw [if_neg (by omega), if_neg (by omega)]
      rw [this]
    · rw [show decide ((i : Int) < (hs.length : Int)) = false by simp; omega, cond_false]
      refine ⟨i, ?_, ⟨hjn, hinv⟩, hx⟩
      rw [List.getElem?_eq_none (by omega)]
      rfl
theorem look_of_place (hright : rightV hs = true) {x : Int} {i : Nat} (hp : placeOk hs x i) : lookV hs x = if (hs[i]?).map (·.1) = some x then hs[i]? else none := by
  by_cases hi : (hs[i]?).map (·.1) = some x
  · rw [if_pos hi]
    obtain ⟨h, hh, hx⟩ := Option.map_eq_some_iff.1 hi
    rw [hh]
    exact lookV_at hh hx fun k q hk hq => by have := (hp.2 k q hq).1 hk; omega
  · rw [if_neg hi]
    refine lookV_none fun h hm hx => ?_
    obtain ⟨k, hk, rfl⟩ := List.getElem_of_mem hm
    have hgk : hs[k]? = some hs[k] := List.getElem?_eq_getElem hk
    have h2 := hp.2 k _ hgk
    by_cases hki : k < i
    · have := h2.1 hki; omega
    · by_cases hke : k = i
      · subst hke; exact hi (by rw [hgk]; simp [hx])
      · have hii : i < hs.length := by omega
        have hgi : hs[i]? = some hs[i] := List.getElem?_eq_getElem hii
        have h3 := sorted_at hs hright (i := i) (j := k) (by omega) hgi hgk
        have h4 := (hp.2 i _ hgi).2 (Nat.le_refl _)
        omega
theorem Get_spec (hr : RowAt w a (hsC hs)) (hl : hs.length < 1000000) (x : Int) : Calls Try.prog 33 #[.slice a hs.length c, .int .i64 x] w (GivesV (hdV (getV hs x)) fun w' => Ext no w w') := by
  refine (vGet.ok _ _ _ _ (R := fun v w' => v = hdV (getV hs x) ∧ Ext no w w') ?_).mono fun e w' ⟨v, he, hv, hw⟩ => ⟨by rw [he, hv], hw⟩
  unfold vGet.M
  refine thenW_in fun w3 h3 => ?_
  have hb3 : Blk w3 w.heap.size 44 [.int .i64 0, .int .i64 0, .int .u64 0] := by subst h3; exact Blk.new _ _ _
  have x3 : Ext no w w3 := by subst h3; exact (Ext.refl _ _).alloc _
  refine (Right_spec (hr.no x3) hl).mono fun e w6 ⟨he, x6'⟩ => ⟨_, he, ?_⟩
  have x6 := x3.trans x6'
  have hb6 := hb3.ext x6' id
  -- the head that is laid and handed back
  have lay : ∀ (w1 : World) (h : Hd) (K : World → Prop), Blk w1 w.heap.size 44 [.int .i64 0, .int .i64 0, .int .u64 0] → Ext no w w1 → (∀ w', Blk w' w.heap.size 44 (hdC h) → Ext no w w' → K w') →
      canStore w1 ((blk w.heap.size).add 0) ∧ thenW (w1.setCell ((blk w.heap.size).add 0) (.int .i64 h.1)) fun w2 => canStore w2 ((blk w.heap.size).add 1) ∧ thenW (w2.setCell ((blk w.heap.size).add 1) (.int .i64 h.2.1)) fun w3 =>
        canStore w3 ((blk w.heap.size).add 2) ∧ thenW (w3.setCell ((blk w.heap.size).add 2) (.int .u64 h.2.2)) fun w4 => K w4 := fun w1 h K hb1 hx1 hK => by
    refine ⟨hb1.cana (i := 0) rfl, thenW_in fun w11 h11 => ?_⟩
    have hb11 := hb1.seta 0 (.int .i64 h.1)
    rw [← h11] at hb11
    have x11 : Ext no w w11 := by subst h11; exact hx1.setCell (.inr (by rw [add_zero]; exact Nat.le_refl _)) _
    refine ⟨hb11.cana (i := 1) rfl, thenW_in fun w12 h12 => ?_⟩
    have hb12 := hb11.seta 1 (.int .i64 h.2.1)
    rw [← h12] at hb12
    have x12 : Ext no w w12 := by subst h12; exact x11.setCell (.inr (by rw [add_blk]; exact Nat.le_refl _)) _
    refine ⟨hb12.cana (i := 2) rfl, thenW_in fun w13 h13 => ?_⟩
    have hb13 := hb12.seta 2 (.int .u64 h.2.2)
    rw [← h13] at hb13
    have x13 : Ext no w w13 := by subst h13; exact x12.setCell (.inr (by rw [add_blk]; exact Nat.le_refl _)) _
    exact hK _ hb13 x13
  have fin : ∀ (h : Hd), getV hs x = h → ∀ w', Blk w' w.heap.size 44 (hdC h) → Ext no w w' → ∃ (p q r : Int), cellsAt w' (blk w.heap.size) [.int .i64 p, .int .i64 q, .int .u64 r] 0 ∧ (Value.agg #[.int .i64 p, .int .i64 q, .int .u64 r] = hdV (getV hs x) ∧ Ext no w w') := fun h hh w' hb hx =>
    ⟨_, _, _, ⟨hb.cella (i := 0) rfl, hb.cella (i := 1) rfl, hb.cella (i := 2) rfl, trivial⟩, by rw [hh]; rfl, hx⟩
  by_cases hright : rightV hs = true
  · rw [hright, cond_true]
    refine (find_spec (hr.no x6) hl hright x).mono fun e w10 ⟨i, he, hp, x10'⟩ => ⟨_, _, he, ?_⟩
    have x10 := x6.trans x10'
    have hb10 := hb6.ext x10' id
    have hlk := look_of_place hright hp
    by_cases hi : (hs[i]?).map (·.1) = some x
    · rw [decide_eq_true hi, cond_true]
      rw [if_pos hi] at hlk
      obtain ⟨h, hh, _⟩ := Option.map_eq_some_iff.1 hi
      have hil := (List.getElem?_eq_some_iff.1 hh).1
      have hr10 := hr.no x10
      obtain ⟨ad, rfl⟩ := hr10.addr (hsC_ne (by intro e; subst e; simp at hil))
      refine ⟨by omega, by omega, _, _, _, by rw [Int.toNat_natCast]; exact hs_at hr10 hh, ?_⟩
      exact lay w10 h _ hb10 x10 (fin h (by unfold getV; rw [if_pos hright, hlk, hh]; rfl))
    · rw [decide_eq_false hi, cond_false]
      rw [if_neg hi] at hlk
      exact lay w10 (x, 0, 0) _ hb10 x10 (fin _ (by unfold getV; rw [if_pos hright, hlk]; rfl))
  · rw [show rightV hs = false by simpa using hright, cond_false]
    exact lay w6 (x, 0, 0) _ hb6 x6 (fin _ (by unfold getV; rw [if_neg hright]))
end
end Go.Proofs.Ytifplncikohlpaa
