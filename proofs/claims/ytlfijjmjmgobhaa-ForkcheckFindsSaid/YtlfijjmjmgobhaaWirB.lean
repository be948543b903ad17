/- Wire: the numbers of a reader. -/
import Derived.Test.YtlfijjmjmgobhaaWirA
set_option linter.unusedVariables false
set_option linter.unusedSimpArgs false
set_option maxRecDepth 20000
namespace Go.Proofs.Ytlfijjmjmgobhaa.W
open Go Go.Mx Go.Proofs
/-- math/bits.Len64 -/
def bLen64.M (x1 : Int) (R : Value → World → Prop) (w : World) : Prop :=
  bif decide (x1 ≥ 4294967296) then (
  0 ≤ (32 : Int) ∧
  bif decide ((Int.fdiv x1 (2 ^ (min (Int.toNat 32) (IntKind.bits .u64)))) ≥ 65536) then (
  0 ≤ (16 : Int) ∧
  bif decide ((Int.fdiv (Int.fdiv x1 (2 ^ (min (Int.toNat 32) (IntKind.bits .u64)))) (2 ^ (min (Int.toNat 16) (IntKind.bits .u64)))) ≥ 256) then (
  0 ≤ (8 : Int) ∧
  0 ≤ ((IntKind.u8.wrap (Int.fdiv (Int.fdiv (Int.fdiv x1 (2 ^ (min (Int.toNat 32) (IntKind.bits .u64)))) (2 ^ (min (Int.toNat 16) (IntKind.bits .u64)))) (2 ^ (min (Int.toNat 8) (IntKind.bits .u64))))) : Int) ∧ ∃ b2, (ByteArray.mk #[0, 1, 2, 2, 3, 3, 3, 3, 4, 4, 4, 4, 4, 4, 4, 4, 5, 5, 5, 5, 5, 5, 5, 5, 5, 5, 5, 5, 5, 5, 5, 5, 6, 6, 6, 6, 6, 6, 6, 6, 6, 6, 6, 6, 6, 6, 6, 6, 6, 6, 6, 6, 6, 6, 6, 6, 6, 6, 6, 6, 6, 6, 6, 6, 7, 7, 7, 7, 7, 7, 7, 7, 7, 7, 7, 7, 7, 7, 7, 7, 7, 7, 7, 7, 7, 7, 7, 7, 7, 7, 7, 7, 7, 7, 7, 7, 7, 7, 7, 7, 7, 7, 7, 7, 7, 7, 7, 7, 7, 7, 7, 7, 7, 7, 7, 7, 7, 7, 7, 7, 7, 7, 7, 7, 7, 7, 7, 7, 8, 8, 8, 8, 8, 8, 8, 8, 8, 8, 8, 8, 8, 8, 8, 8, 8, 8, 8, 8, 8, 8, 8, 8, 8, 8, 8, 8, 8, 8, 8, 8, 8, 8, 8, 8, 8, 8, 8, 8, 8, 8, 8, 8, 8, 8, 8, 8, 8, 8, 8, 8, 8, 8, 8, 8, 8, 8, 8, 8, 8, 8, 8, 8, 8, 8, 8, 8, 8, 8, 8, 8, 8, 8, 8, 8, 8, 8, 8, 8, 8, 8, 8, 8, 8, 8, 8, 8, 8, 8, 8, 8, 8, 8, 8, 8, 8, 8, 8, 8, 8, 8, 8, 8, 8, 8, 8, 8, 8, 8, 8, 8, 8, 8, 8, 8, 8, 8, 8, 8, 8, 8, 8, 8, 8, 8, 8, 8])[Int.toNat (IntKind.u8.wrap (Int.fdiv (Int.fdiv (Int.fdiv x1 (2 ^ (min (Int.toNat 32) (IntKind.bits .u64)))) (2 ^ (min (Int.toNat 16) (IntKind.bits .u64)))) (2 ^ (min (Int.toNat 8) (IntKind.bits .u64)))))]? = some b2 ∧
  R (.int .i64 (IntKind.i64.wrap ((IntKind.i64.wrap ((IntKind.i64.wrap ((32 : Int) + 16)) + 8)) + (IntKind.i64.wrap (b2.toNat : Int))))) w) else (
  0 ≤ ((IntKind.u8.wrap (Int.fdiv (Int.fdiv x1 (2 ^ (min (Int.toNat 32) (IntKind.bits .u64)))) (2 ^ (min (Int.toNat 16) (IntKind.bits .u64))))) : Int) ∧ ∃ b3, (ByteArray.mk #[0, 1, 2, 2, 3, 3, 3, 3, 4, 4, 4, 4, 4, 4, 4, 4, 5, 5, 5, 5, 5, 5, 5, 5, 5, 5, 5, 5, 5, 5, 5, 5, 6, 6, 6, 6, 6, 6, 6, 6, 6, 6, 6, 6, 6, 6, 6, 6, 6, 6, 6, 6, 6, 6, 6, 6, 6, 6, 6, 6, 6, 6, 6, 6, 7, 7, 7, 7, 7, 7, 7, 7, 7, 7, 7, 7, 7, 7, 7, 7, 7, 7, 7, 7, 7, 7, 7, 7, 7, 7, 7, 7, 7, 7, 7, 7, 7, 7, 7, 7, 7, 7, 7, 7, 7, 7, 7, 7, 7, 7, 7, 7, 7, 7, 7, 7, 7, 7, 7, 7, 7, 7, 7, 7, 7, 7, 7, 7, 8, 8, 8, 8, 8, 8, 8, 8, 8, 8, 8, 8, 8, 8, 8, 8, 8, 8, 8, 8, 8, 8, 8, 8, 8, 8, 8, 8, 8, 8, 8, 8, 8, 8, 8, 8, 8, 8, 8, 8, 8, 8, 8, 8, 8, 8, 8, 8, 8, 8, 8, 8, 8, 8, 8, 8, 8, 8, 8, 8, 8, 8, 8, 8, 8, 8, 8, 8, 8, 8, 8, 8, 8, 8, 8, 8, 8, 8, 8, 8, 8, 8, 8, 8, 8, 8, 8, 8, 8, 8, 8, 8, 8, 8, 8, 8, 8, 8, 8, 8, 8, 8, 8, 8, 8, 8, 8, 8, 8, 8, 8, 8, 8, 8, 8, 8, 8, 8, 8, 8, 8, 8, 8, 8, 8, 8, 8, 8])[Int.toNat (IntKind.u8.wrap (Int.fdiv (Int.fdiv x1 (2 ^ (min (Int.toNat 32) (IntKind.bits .u64)))) (2 ^ (min (Int.toNat 16) (IntKind.bits .u64)))))]? = some b3 ∧
  R (.int .i64 (IntKind.i64.wrap ((IntKind.i64.wrap ((32 : Int) + 16)) + (IntKind.i64.wrap (b3.toNat : Int))))) w)) else (
  bif decide ((Int.fdiv x1 (2 ^ (min (Int.toNat 32) (IntKind.bits .u64)))) ≥ 256) then (
  0 ≤ (8 : Int) ∧
  0 ≤ ((IntKind.u8.wrap (Int.fdiv (Int.fdiv x1 (2 ^ (min (Int.toNat 32) (IntKind.bits .u64)))) (2 ^ (min (Int.toNat 8) (IntKind.bits .u64))))) : Int) ∧ ∃ b4, (ByteArray.mk #[0, 1, 2, 2, 3, 3, 3, 3, 4, 4, 4, 4, 4, 4, 4, 4, 5, 5, 5, 5, 5, 5, 5, 5, 5, 5, 5, 5, 5, 5, 5, 5, 6, 6, 6, 6, 6, 6, 6, 6, 6, 6, 6, 6, 6, 6, 6, 6, 6, 6, 6, 6, 6, 6, 6, 6, 6, 6, 6, 6, 6, 6, 6, 6, 7, 7, 7, 7, 7, 7, 7, 7, 7, 7, 7, 7, 7, 7, 7, 7, 7, 7, 7, 7, 7, 7, 7, 7, 7, 7, 7, 7, 7, 7, 7, 7, 7, 7, 7, 7, 7, 7, 7, 7, 7, 7, 7, 7, 7, 7, 7, 7, 7, 7, 7, 7, 7, 7, 7, 7, 7, 7, 7, 7, 7, 7, 7, 7, 8, 8, 8, 8, 8, 8, 8, 8, 8, 8, 8, 8, 8, 8, 8, 8, 8, 8, 8, 8, 8, 8, 8, 8, 8, 8, 8, 8, 8, 8, 8, 8, 8, 8, 8, 8, 8, 8, 8, 8, 8, 8, 8, 8, 8, 8, 8, 8, 8, 8, 8, 8, 8, 8, 8, 8, 8, 8, 8, 8, 8, 8, 8, 8, 8, 8, 8, 8, 8, 8, 8, 8, 8, 8, 8, 8, 8, 8, 8, 8, 8, 8, 8, 8, 8, 8, 8, 8, 8, 8, 8, 8, 8, 8, 8, 8, 8, 8, 8, 8, 8, 8, 8, 8, 8, 8, 8, 8, 8, 8, 8, 8, 8, 8, 8, 8, 8, 8, 8, 8, 8, 8, 8, 8, 8, 8, 8, 8])[Int.toNat (IntKind.u8.wrap (Int.fdiv (Int.fdiv x1 (2 ^ (min (Int.toNat 32) (IntKind.bits .u64)))) (2 ^ (min (Int.toNat 8) (IntKind.bits .u64)))))]? = some b4 ∧
  R (.int .i64 (IntKind.i64.wrap ((IntKind.i64.wrap ((32 : Int) + 8)) + (IntKind.i64.wrap (b4.toNat : Int))))) w) else (
  0 ≤ ((IntKind.u8.wrap (Int.fdiv x1 (2 ^ (min (Int.toNat 32) (IntKind.bits .u64))))) : Int) ∧ ∃ b5, (ByteArray.mk #[0, 1, 2, 2, 3, 3, 3, 3, 4, 4, 4, 4, 4, 4, 4, 4, 5, 5, 5, 5, 5, 5, 5, 5, 5, 5, 5, 5, 5, 5, 5, 5, 6, 6, 6, 6, 6, 6, 6, 6, 6, 6, 6, 6, 6, 6, 6, 6, 6, 6, 6, 6, 6, 6, 6, 6, 6, 6, 6, 6, 6, 6, 6, 6, 7, 7, 7, 7, 7, 7, 7, 7, 7, 7, 7, 7, 7, 7, 7, 7, 7, 7, 7, 7, 7, 7, 7, 7, 7, 7, 7, 7, 7, 7, 7, 7, 7, 7, 7, 7, 7, 7, 7, 7, 7, 7, 7, 7, 7, 7, 7, 7, 7, 7, 7, 7, 7, 7, 7, 7, 7, 7, 7, 7, 7, 7, 7, 7, 8, 8, 8, 8, 8, 8, 8, 8, 8, 8, 8, 8, 8, 8, 8, 8, 8, 8, 8, 8, 8, 8, 8, 8, 8, 8, 8, 8, 8, 8, 8, 8, 8, 8, 8, 8, 8, 8, 8, 8, 8, 8, 8, 8, 8, 8, 8, 8, 8, 8, 8, 8, 8, 8, 8, 8, 8, 8, 8, 8, 8, 8, 8, 8, 8, 8, 8, 8, 8, 8, 8, 8, 8, 8, 8, 8, 8, 8, 8, 8, 8, 8, 8, 8, 8, 8, 8, 8, 8, 8, 8, 8, 8, 8, 8, 8, 8, 8, 8, 8, 8, 8, 8, 8, 8, 8, 8, 8, 8, 8, 8, 8, 8, 8, 8, 8, 8, 8, 8, 8, 8, 8, 8, 8, 8, 8, 8, 8])[Int.toNat (IntKind.u8.wrap (Int.fdiv x1 (2 ^ (min (Int.toNat 32) (IntKind.bits .u64)))))]? = some b5 ∧
  R (.int .i64 (IntKind.i64.wrap ((32 : Int) + (IntKind.i64.wrap (b5.toNat : Int))))) w))) else (
  bif decide (x1 ≥ 65536) then (
  0 ≤ (16 : Int) ∧
  bif decide ((Int.fdiv x1 (2 ^ (min (Int.toNat 16) (IntKind.bits .u64)))) ≥ 256) then (
  0 ≤ (8 : Int) ∧
  0 ≤ ((IntKind.u8.wrap (Int.fdiv (Int.fdiv x1 (2 ^ (min (Int.toNat 16) (IntKind.bits .u64)))) (2 ^ (min (Int.toNat 8) (IntKind.bits .u64))))) : Int) ∧ ∃ b6, (ByteArray.mk #[0, 1, 2, 2, 3, 3, 3, 3, 4, 4, 4, 4, 4, 4, 4, 4, 5, 5, 5, 5, 5, 5, 5, 5, 5, 5, 5, 5, 5, 5, 5, 5, 6, 6, 6, 6, 6, 6, 6, 6, 6, 6, 6, 6, 6, 6, 6, 6, 6, 6, 6, 6, 6, 6, 6, 6, 6, 6, 6, 6, 6, 6, 6, 6, 7, 7, 7, 7, 7, 7, 7, 7, 7, 7, 7, 7, 7, 7, 7, 7, 7, 7, 7, 7, 7, 7, 7, 7, 7, 7, 7, 7, 7, 7, 7, 7, 7, 7, 7, 7, 7, 7, 7, 7, 7, 7, 7, 7, 7, 7, 7, 7, 7, 7, 7, 7, 7, 7, 7, 7, 7, 7, 7, 7, 7, 7, 7, 7, 8, 8, 8, 8, 8, 8, 8, 8, 8, 8, 8, 8, 8, 8, 8, 8, 8, 8, 8, 8, 8, 8, 8, 8, 8, 8, 8, 8, 8, 8, 8, 8, 8, 8, 8, 8, 8, 8, 8, 8, 8, 8, 8, 8, 8, 8, 8, 8, 8, 8, 8, 8, 8, 8, 8, 8, 8, 8, 8, 8, 8, 8, 8, 8, 8, 8, 8, 8, 8, 8, 8, 8, 8, 8, 8, 8, 8, 8, 8, 8, 8, 8, 8, 8, 8, 8, 8, 8, 8, 8, 8, 8, 8, 8, 8, 8, 8, 8, 8, 8, 8, 8, 8, 8, 8, 8, 8, 8, 8, 8, 8, 8, 8, 8, 8, 8, 8, 8, 8, 8, 8, 8, 8, 8, 8, 8, 8, 8])[Int.toNat (IntKind.u8.wrap (Int.fdiv (Int.fdiv x1 (2 ^ (min (Int.toNat 16) (IntKind.bits .u64)))) (2 ^ (min (Int.toNat 8) (IntKind.bits .u64)))))]? = some b6 ∧
  R (.int .i64 (IntKind.i64.wrap ((IntKind.i64.wrap ((IntKind.i64.wrap ((0 : Int) + 16)) + 8)) + (IntKind.i64.wrap (b6.toNat : Int))))) w) else (
  0 ≤ ((IntKind.u8.wrap (Int.fdiv x1 (2 ^ (min (Int.toNat 16) (IntKind.bits .u64))))) : Int) ∧ ∃ b7, (ByteArray.mk #[0, 1, 2, 2, 3, 3, 3, 3, 4, 4, 4, 4, 4, 4, 4, 4, 5, 5, 5, 5, 5, 5, 5, 5, 5, 5, 5, 5, 5, 5, 5, 5, 6, 6, 6, 6, 6, 6, 6, 6, 6, 6, 6, 6, 6, 6, 6, 6, 6, 6, 6, 6, 6, 6, 6, 6, 6, 6, 6, 6, 6, 6, 6, 6, 7, 7, 7, 7, 7, 7, 7, 7, 7, 7, 7, 7, 7, 7, 7, 7, 7, 7, 7, 7, 7, 7, 7, 7, 7, 7, 7, 7, 7, 7, 7, 7, 7, 7, 7, 7, 7, 7, 7, 7, 7, 7, 7, 7, 7, 7, 7, 7, 7, 7, 7, 7, 7, 7, 7, 7, 7, 7, 7, 7, 7, 7, 7, 7, 8, 8, 8, 8, 8, 8, 8, 8, 8, 8, 8, 8, 8, 8, 8, 8, 8, 8, 8, 8, 8, 8, 8, 8, 8, 8, 8, 8, 8, 8, 8, 8, 8, 8, 8, 8, 8, 8, 8, 8, 8, 8, 8, 8, 8, 8, 8, 8, 8, 8, 8, 8, 8, 8, 8, 8, 8, 8, 8, 8, 8, 8, 8, 8, 8, 8, 8, 8, 8, 8, 8, 8, 8, 8, 8, 8, 8, 8, 8, 8, 8, 8, 8, 8, 8, 8, 8, 8, 8, 8, 8, 8, 8, 8, 8, 8, 8, 8, 8, 8, 8, 8, 8, 8, 8, 8, 8, 8, 8, 8, 8, 8, 8, 8, 8, 8, 8, 8, 8, 8, 8, 8, 8, 8, 8, 8, 8, 8])[Int.toNat (IntKind.u8.wrap (Int.fdiv x1 (2 ^ (min (Int.toNat 16) (IntKind.bits .u64)))))]? = some b7 ∧
  R (.int .i64 (IntKind.i64.wrap ((IntKind.i64.wrap ((0 : Int) + 16)) + (IntKind.i64.wrap (b7.toNat : Int))))) w)) else (
  bif decide (x1 ≥ 256) then (
  0 ≤ (8 : Int) ∧
  0 ≤ ((IntKind.u8.wrap (Int.fdiv x1 (2 ^ (min (Int.toNat 8) (IntKind.bits .u64))))) : Int) ∧ ∃ b8, (ByteArray.mk #[0, 1, 2, 2, 3, 3, 3, 3, 4, 4, 4, 4, 4, 4, 4, 4, 5, 5, 5, 5, 5, 5, 5, 5, 5, 5, 5, 5, 5, 5, 5, 5, 6, 6, 6, 6, 6, 6, 6, 6, 6, 6, 6, 6, 6, 6, 6, 6, 6, 6, 6, 6, 6, 6, 6, 6, 6, 6, 6, 6, 6, 6, 6, 6, 7, 7, 7, 7, 7, 7, 7, 7, 7, 7, 7, 7, 7, 7, 7, 7, 7, 7, 7, 7, 7, 7, 7, 7, 7, 7, 7, 7, 7, 7, 7, 7, 7, 7, 7, 7, 7, 7, 7, 7, 7, 7, 7, 7, 7, 7, 7, 7, 7, 7, 7, 7, 7, 7, 7, 7, 7, 7, 7, 7, 7, 7, 7, 7, 8, 8, 8, 8, 8, 8, 8, 8, 8, 8, 8, 8, 8, 8, 8, 8, 8, 8, 8, 8, 8, 8, 8, 8, 8, 8, 8, 8, 8, 8, 8, 8, 8, 8, 8, 8, 8, 8, 8, 8, 8, 8, 8, 8, 8, 8, 8, 8, 8, 8, 8, 8, 8, 8, 8, 8, 8, 8, 8, 8, 8, 8, 8, 8, 8, 8, 8, 8, 8, 8, 8, 8, 8, 8, 8, 8, 8, 8, 8, 8, 8, 8, 8, 8, 8, 8, 8, 8, 8, 8, 8, 8, 8, 8, 8, 8, 8, 8, 8, 8, 8, 8, 8, 8, 8, 8, 8, 8, 8, 8, 8, 8, 8, 8, 8, 8, 8, 8, 8, 8, 8, 8, 8, 8, 8, 8, 8, 8])[Int.toNat (IntKind.u8.wrap (Int.fdiv x1 (2 ^ (min (Int.toNat 8) (IntKind.bits .u64)))))]? = some b8 ∧
  R (.int .i64 (IntKind.i64.wrap ((IntKind.i64.wrap ((0 : Int) + 8)) + (IntKind.i64.wrap (b8.toNat : Int))))) w) else (
  0 ≤ ((IntKind.u8.wrap x1) : Int) ∧ ∃ b9, (ByteArray.mk #[0, 1, 2, 2, 3, 3, 3, 3, 4, 4, 4, 4, 4, 4, 4, 4, 5, 5, 5, 5, 5, 5, 5, 5, 5, 5, 5, 5, 5, 5, 5, 5, 6, 6, 6, 6, 6, 6, 6, 6, 6, 6, 6, 6, 6, 6, 6, 6, 6, 6, 6, 6, 6, 6, 6, 6, 6, 6, 6, 6, 6, 6, 6, 6, 7, 7, 7, 7, 7, 7, 7, 7, 7, 7, 7, 7, 7, 7, 7, 7, 7, 7, 7, 7, 7, 7, 7, 7, 7, 7, 7, 7, 7, 7, 7, 7, 7, 7, 7, 7, 7, 7, 7, 7, 7, 7, 7, 7, 7, 7, 7, 7, 7, 7, 7, 7, 7, 7, 7, 7, 7, 7, 7, 7, 7, 7, 7, 7, 8, 8, 8, 8, 8, 8, 8, 8, 8, 8, 8, 8, 8, 8, 8, 8, 8, 8, 8, 8, 8, 8, 8, 8, 8, 8, 8, 8, 8, 8, 8, 8, 8, 8, 8, 8, 8, 8, 8, 8, 8, 8, 8, 8, 8, 8, 8, 8, 8, 8, 8, 8, 8, 8, 8, 8, 8, 8, 8, 8, 8, 8, 8, 8, 8, 8, 8, 8, 8, 8, 8, 8, 8, 8, 8, 8, 8, 8, 8, 8, 8, 8, 8, 8, 8, 8, 8, 8, 8, 8, 8, 8, 8, 8, 8, 8, 8, 8, 8, 8, 8, 8, 8, 8, 8, 8, 8, 8, 8, 8, 8, 8, 8, 8, 8, 8, 8, 8, 8, 8, 8, 8, 8, 8, 8, 8, 8, 8])[Int.toNat (IntKind.u8.wrap x1)]? = some b9 ∧
  R (.int .i64 (IntKind.i64.wrap ((0 : Int) + (IntKind.i64.wrap (b9.toNat : Int))))) w)))

theorem bLen64.eq (x1 : Int) (R : Value → World → Prop) (w : World) : mfunc Try.prog [] 127 [.int .u64 x1] R w = bLen64.M x1 R w := by kernel_rfl
theorem bLen64.ok (x1 : Int) {R : Value → World → Prop} {w : World} (h : bLen64.M x1 R w) : Calls Try.prog 127 #[.int .u64 x1] w fun e w' => ∃ v, e = .returned v ∧ R v w' :=
  mfunc_ok follows (H := []) (args := [.int .u64 x1]) (by rw [bLen64.eq]; exact h)

def tab8 : ByteArray := ByteArray.mk #[0, 1, 2, 2, 3, 3, 3, 3, 4, 4, 4, 4, 4, 4, 4, 4, 5, 5, 5, 5, 5, 5, 5, 5, 5, 5, 5, 5, 5, 5, 5, 5, 6, 6, 6, 6, 6, 6, 6, 6, 6, 6, 6, 6, 6, 6, 6, 6, 6, 6, 6, 6, 6, 6, 6, 6, 6, 6, 6, 6, 6, 6, 6, 6, 7, 7, 7, 7, 7, 7, 7, 7, 7, 7, 7, 7, 7, 7, 7, 7, 7, 7, 7, 7, 7, 7, 7, 7, 7, 7, 7, 7, 7, 7, 7, 7, 7, 7, 7, 7, 7, 7, 7, 7, 7, 7, 7, 7, 7, 7, 7, 7, 7, 7, 7, 7, 7, 7, 7, 7, 7, 7, 7, 7, 7, 7, 7, 7, 8, 8, 8, 8, 8, 8, 8, 8, 8, 8, 8, 8, 8, 8, 8, 8, 8, 8, 8, 8, 8, 8, 8, 8, 8, 8, 8, 8, 8, 8, 8, 8, 8, 8, 8, 8, 8, 8, 8, 8, 8, 8, 8, 8, 8, 8, 8, 8, 8, 8, 8, 8, 8, 8, 8, 8, 8, 8, 8, 8, 8, 8, 8, 8, 8, 8, 8, 8, 8, 8, 8, 8, 8, 8, 8, 8, 8, 8, 8, 8, 8, 8, 8, 8, 8, 8, 8, 8, 8, 8, 8, 8, 8, 8, 8, 8, 8, 8, 8, 8, 8, 8, 8, 8, 8, 8, 8, 8, 8, 8, 8, 8, 8, 8, 8, 8, 8, 8, 8, 8, 8, 8, 8, 8, 8, 8, 8, 8]
theorem tab8_at {b : Nat} (hb : b < 256) : ∃ v, tab8[b]? = some v ∧ v.toNat ≤ 8 ∧ (6 < v.toNat ↔ 64 ≤ b) := by
  have key : ∀ m : Fin 256, (tab8[m.val]?).isSome = true ∧ ((tab8[m.val]?).getD 0).toNat ≤ 8 ∧ (6 < ((tab8[m.val]?).getD 0).toNat ↔ 64 ≤ m.val) := by decide +kernel
  obtain ⟨k1, k2, k3⟩ := key ⟨b, hb⟩
  simp only at k1 k2 k3
  obtain ⟨v, hv⟩ := Option.isSome_iff_exists.1 k1
  rw [hv] at k2 k3
  exact ⟨v, hv, k2, k3⟩
theorem shr_nat (n k : Nat) (hk : k ≤ 64) : Int.fdiv (n : Int) (2 ^ (min k (IntKind.bits .u64))) = ((n / 2 ^ k : Nat) : Int) := by
  rw [show min k (IntKind.bits .u64) = k by rw [show IntKind.bits .u64 = 64 from rfl]; omega, Int.fdiv_eq_ediv_of_nonneg _ (Int.le_of_lt (Int.pow_pos (by decide))), Int.natCast_ediv, Int.natCast_pow]
  rfl
section
variable {w w' : World} {p : Nat} {bs : List UInt8} {k : Int}
/-- so many bits: more than 62 just if it is so great. -/
theorem len64_spec {n : Nat} (hn : n < 18446744073709551616) : Calls Try.prog 127 #[.int .u64 n] w (fun e w' => ∃ L : Int, e = .returned (.int .i64 L) ∧ (L > 62 ↔ 4611686018427387904 ≤ n) ∧ w' = w) := by
  refine (bLen64.ok _ (R := fun v w' => ∃ L : Int, v = .int .i64 L ∧ (L > 62 ↔ 4611686018427387904 ≤ n) ∧ w' = w) ?_).mono fun e w' ⟨v, he, L, hv, hw⟩ => ⟨L, by rw [he, hv], hw⟩
  unfold bLen64.M
  -- the last step, once the number is below 256
  have last : ∀ (m : Nat) (s : Int), m < 256 → 0 ≤ s → s ≤ 56 → ((s = 56 ∧ m = n / 72057594037927936) ∨ (s ≤ 48 ∧ n < 72057594037927936)) → ∀ x : Int, x = (m : Int) →
      0 ≤ (IntKind.u8.wrap x) ∧ ∃ b, tab8[Int.toNat (IntKind.u8.wrap x)]? = some b ∧ ∃ L : Int, Value.int .i64 (IntKind.i64.wrap (s + IntKind.i64.wrap (b.toNat : Int))) = .int .i64 L ∧ (L > 62 ↔ 4611686018427387904 ≤ n) ∧ True := fun m s hm hs hs2 hcase x hx => by
    subst hx
    rw [wu8 (by omega) (by omega), Int.toNat_natCast]
    obtain ⟨v, h1, h2, h3⟩ := tab8_at hm
    refine ⟨by omega, v, h1, s + v.toNat, ?_, ?_, trivial⟩
    · rw [w64 (n := (v.toNat : Int)) (by omega) (by omega), w64 (by omega) (by omega)]
    · rcases hcase with ⟨rfl, rfl⟩ | ⟨q1, q2⟩
      · constructor
        · intro h; have := h3.1 (by omega); omega
        · intro h; have := h3.2 (by omega); omega
      · constructor
        · intro h; omega
        · intro h; omega
  have h32 := shr_nat n 32 (by decide)
  have h16 := shr_nat n 16 (by decide)
  have h8 := shr_nat n 8 (by decide)
  have e32 : Int.fdiv (n : Int) (2 ^ (min (Int.toNat 32) (IntKind.bits .u64))) = ((n / 4294967296 : Nat) : Int) := h32
  have e16 : Int.fdiv (n : Int) (2 ^ (min (Int.toNat 16) (IntKind.bits .u64))) = ((n / 65536 : Nat) : Int) := h16
  have e8 : Int.fdiv (n : Int) (2 ^ (min (Int.toNat 8) (IntKind.bits .u64))) = ((n / 256 : Nat) : Int) := h8
  have f16 : ∀ m : Nat, Int.fdiv (m : Int) (2 ^ (min (Int.toNat 16) (IntKind.bits .u64))) = ((m / 65536 : Nat) : Int) := fun m => shr_nat m 16 (by decide)
  have f8 : ∀ m : Nat, Int.fdiv (m : Int) (2 ^ (min (Int.toNat 8) (IntKind.bits .u64))) = ((m / 256 : Nat) : Int) := fun m => shr_nat m 8 (by decide)
  rw [e32]
  simp only [f16, f8]
  by_cases c1 : (n : Int) ≥ 4294967296
  · rw [decide_eq_true c1, cond_true]
    refine ⟨by decide, ?_⟩
    by_cases c2 : ((n / 4294967296 : Nat) : Int) ≥ 65536
    · rw [decide_eq_true c2, cond_true]
      refine ⟨by decide, ?_⟩
      by_cases c3 : ((n / 4294967296 / 65536 : Nat) : Int) ≥ 256
      · rw [decide_eq_true c3, cond_true]
        exact ⟨by decide, last (n / 4294967296 / 65536 / 256) _ (by omega) (by decide) (by decide) (.inl ⟨by decide, by omega⟩) _ rfl⟩
      · rw [decide_eq_false c3, cond_false]
        exact last (n / 4294967296 / 65536) _ (by omega) (by decide) (by decide) (.inr ⟨by decide, by omega⟩) _ rfl
    · rw [decide_eq_false c2, cond_false]
      by_cases c3 : ((n / 4294967296 : Nat) : Int) ≥ 256
      · rw [decide_eq_true c3, cond_true]
        exact ⟨by decide, last (n / 4294967296 / 256) _ (by omega) (by decide) (by decide) (.inr ⟨by decide, by omega⟩) _ rfl⟩
      · rw [decide_eq_false c3, cond_false]
        exact last (n / 4294967296) _ (by omega) (by decide) (by decide) (.inr ⟨by decide, by omega⟩) _ rfl
  · rw [decide_eq_false c1, cond_false]
    by_cases c2 : (n : Int) ≥ 65536
    · rw [decide_eq_true c2, cond_true]
      refine ⟨by decide, ?_⟩
      by_cases c3 : ((n / 65536 : Nat) : Int) ≥ 256
      · rw [decide_eq_true c3, cond_true]
        exact ⟨by decide, last (n / 65536 / 256) _ (by omega) (by decide) (by decide) (.inr ⟨by decide, by omega⟩) _ rfl⟩
      · rw [decide_eq_false c3, cond_false]
        exact last (n / 65536) _ (by omega) (by decide) (by decide) (.inr ⟨by decide, by omega⟩) _ rfl
    · rw [decide_eq_false c2, cond_false]
      by_cases c3 : (n : Int) ≥ 256
      · rw [decide_eq_true c3, cond_true]
        exact ⟨by decide, last (n / 256) _ (by omega) (by decide) (by decide) (.inr ⟨by decide, by omega⟩) _ rfl⟩
      · rw [decide_eq_false c3, cond_false]
        exact last n _ (by omega) (by decide) (by decide) (.inr ⟨by decide, by omega⟩) _ rfl

/-- Num of a reader: the number, and what the reader then has. -/
def numR (s : List UInt8 × Int) : Nat × (List UInt8 × Int) :=
  if s.2 = 0 then (match rdNum s.1 with | some (n, r) => (n, (r, 0)) | none => (0, ([], 4))) else (0, s)
theorem numR_lt (s : List UInt8 × Int) : (numR s).1 < 18446744073709551616 := by
  unfold numR
  split
  · cases h : rdNum s.1 with
    | none => exact (by decide : 0 < 18446744073709551616)
    | some q => obtain ⟨n, r⟩ := q; exact (rd_back h).2
  · exact (by decide : 0 < 18446744073709551616)
theorem rdNum_len {bs r : List UInt8} {n : Nat} (h : rdNum bs = some (n, r)) : r.length ≤ bs.length := by
  obtain ⟨h1, _⟩ := rd_back h
  rw [h1]; simp
theorem numR_len (s : List UInt8 × Int) : (numR s).2.1.length ≤ s.1.length := by
  unfold numR
  split
  · cases h : rdNum s.1 with
    | none => simp
    | some q => obtain ⟨n, r⟩ := q; exact rdNum_len h
  · exact Nat.le_refl _
/-- Count: a number that is not above so much. -/
def countR (m : Int) (s : List UInt8 × Int) : Nat × (List UInt8 × Int) :=
  if (numR s).2.2 = 0 then (if m < 0 ∨ ((numR s).1 : Int) > m then (0, ([], 3)) else numR s) else (0, (numR s).2)
theorem countR_len (m : Int) (s : List UInt8 × Int) : (countR m s).2.1.length ≤ s.1.length := by
  have := numR_len s
  unfold countR
  split
  · split
    · simp
    · exact this
  · exact this
def doneR (s : List UInt8 × Int) : Int := if s.2 = 0 then (if s.1.length > 0 then 4 else 0) else s.2
end
end Go.Proofs.Ytlfijjmjmgobhaa.W
