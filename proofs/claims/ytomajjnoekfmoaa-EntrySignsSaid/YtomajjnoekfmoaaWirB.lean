/- Wire: the numbers of a reader. -/
import Derived.Test.YtomajjnoekfmoaaWirA
set_option linter.unusedVariables false
set_option linter.unusedSimpArgs false
set_option maxRecDepth 20000
namespace Go.Proofs.Ytomajjnoekfmoaa.W
open Go Go.Mx Go.Proofs
/-- math/bits.Len64 -/
def bLen64.M (x1 : Int) (R : Value → World → Prop) (w : World) : Prop :=
  bif decide (x1 ≥ 4294967296) then (
  0 ≤ (32 : Int) ∧
  bif decide ((Int.fdiv x1 (2 ^ (min (Int.toNat 32) (IntKind.bits .u64)))) ≥ 65536) then (
  0 ≤ (16 : Int) ∧
  bif decide ((Int.fdiv (Int.fdiv x1 (2 ^ (min (Int.toNat 32) (IntKind.bits .u64)))) (2 ^ (min (Int.toNat 16) (IntKind.bits .u64)))) ≥ 256) then (
  0 ≤ (8 : Int) ∧
  0 ≤ ((IntKind.u8.wrap (Int.fdiv (Int.fdiv (Int.fdiv x1 (2 ^ (min (Int.toNat 32) (IntKind.bits .u64)))) (2 ^ (min (Int.toNat 16) (IntKind.bits .u64)))) (2 ^ (min (Int.toNat 8) (IntKind.bits .u64))))) : Int) ∧ ∃ b2, (ByteArray.mk #[0, 1, 2, 2, 3, 3, 3, 3, 4, 4, 4, 4, 4, 4, 4, 4, 5, 5, 5, 5, 5, 5, 5, 5, 5, 5, 5, 5, 5, 5, 5, 5, 6, 6, 6, 6, 6, 6, 6, 6, 6, 6, 6, 6, 6, 6, 6, 6, 6, 6, 6, 6, 6, 6, 6, 6, 6, 6, 6, 6, 6, 6, 6, 6, 7, 7, 7, 7, 7, 7, 7, 7, 7, 7, 7, 7, 7, 7, 7, 7, 7, 7, 7, 7, 7, 7, 7, 7, 7, 7, 7, 7, 7, 7, 7, 7, 7, 7, 7, 7, 7, 7, 7, 7, 7, 7, 7, 7, 7, 7, 7, 7, 7, 7, 7, 7, 7, 7, 7, 7, 7, 7, 7, 7, 7, 7, 7, 7, 8, 8, 8, 8, 8, 8, 8, 8, 8, 8, 8, 8, 8, 8, 8, 8, 8, 8, 8, 8, 8, 8, 8, 8, 8, 8, 8, 8, 8, 8, 8, 8, 8, 8, 8, 8, 8, 8, 8, 8, 8, 8, 8, 8, 8, 8, 8, 8, 8, 8, 8, 8, 8, 8, 8, 8, 8, 8, 8, 8, 8, 8, 8, 8, 8, 8, 8, 8, 8, 8, 8, 8, 8, 8, 8, 8, 8, 8, 8, 8, 8, 8, 8, 8, 8, 8, 8, 8, 8, 8, 8, 8, 8, 8, 8, 8, 8, 8, 8, 8, 8, 8, 8, 8, 8, 8, 8, 8, 8, 8, 8, 8, 8, 8, 8, 8, 8, 8, 8, 8, 8, 8, 8, 8, 8, 8, 8, 8])[Int.toNat (IntKind.u8.wrap (Int.fdiv (Int.fdiv (Int.fdiv x1 (2 ^ (min (Int.toNat 32) (IntKind.bits .u64)))) (2 ^ (min (Int.toNat 16) (IntKind.bits .u64)))) (2 ^ (min (Int.toNat 8) (IntKind.bits .u64)))))]? = some b2 ∧
  R (.int .i64 (IntKind.i64.wrap ((IntKind.i64.wrap ((IntKind.i64.wrap ((32 : Int) + 16)) + 8)) + (IntKind.i64.wrap (b2.toNat : Int))))) w) else (
  0 ≤ ((IntKind.u8.wrap (Int.fdiv (Int.fdiv x1 (2 ^ (min (Int.toNat 32) (IntKind.bits .u64)))) (2 ^ (min (Int.toNat 16) (IntKind.bits .u64))))) : Int) ∧ ∃ b3, (ByteArray.mk #[0, 1, 2, 2, 3, 3, 3, 3, 4, 4, 4, 4, 4, 4, 4, 4, 5, 5, 5, 5, 5, 5, 5, 5, 5, 5, 5, 5, 5, 5, 5, 5, 6, 6, 6, 6, 6, 6, 6, 6, 6, 6, 6, 6, 6, 6, 6, 6, 6, 6, 6, 6, 6, 6, 6, 6, 6, 6, 6, 6, 6, 6, 6, 6, 7, 7, 7, 7, 7, 7, 7, 7, 7, 7, 7, 7, 7, 7, 7, 7, 7, 7, 7, 7, 7, 7, 7, 7, 7, 7, 7, 7, 7, 7, 7, 7, 7, 7, 7, 7, 7, 7, 7, 7, 7, 7, 7, 7, 7, 7, 7, 7, 7, 7, 7, 7, 7, 7, 7, 7, 7, 7, 7, 7, 7, 7, 7, 7, 8, 8, 8, 8, 8, 8, 8, 8, 8, 8, 8, 8, 8, 8, 8, 8, 8, 8, 8, 8, 8, 8, 8, 8, 8, 8, 8, 8, 8, 8, 8, 8, 8, 8, 8, 8, 8, 8, 8, 8, 8, 8, 8, 8, 8, 8, 8, 8, 8, 8, 8, 8, 8, 8, 8, 8, 8, 8, 8, 8, 8, 8, 8, 8, 8, 8, 8, 8, 8, 8, 8, 8, 8, 8, 8, 8, 8, 8, 8, 8, 8, 8, 8, 8, 8, 8, 8, 8, 8, 8, 8, 8, 8, 8, 8, 8, 8, 8, 8, 8, 8, 8, 8, 8, 8, 8, 8, 8, 8, 8, 8, 8, 8, 8, 8, 8, 8, 8, 8, 8, 8, 8, 8, 8, 8, 8, 8, 8])[Int.toNat (IntKind.u8.wrap (Int.fdiv (Int.fdiv x1 (2 ^ (min (Int.toNat 32) (IntKind.bits .u64)))) (2 ^ (min (Int.toNat 16) (IntKind.bits .u64)))))]? = some b3 ∧
  R (.int .i64 (IntKind.i64.wrap ((IntKind.i64.wrap ((32 : Int) + 16)) + (IntKind.i64.wrap (b3.toNat : Int))))) w)) else (
  bif decide ((Int.fdiv x1 (2 ^ (min (Int.toNat 32) (IntKind.bits .u64)))) ≥ 256) then (
  0 ≤ (8 : Int) ∧
  0 ≤ ((IntKind.u8.wrap (Int.fdiv (Int.fdiv x1 (2 ^ (min (Int.toNat 32) (IntKind.bits .u64)))) (2 ^ (min (Int.toNat 8) (IntKind.bits .u64))))) : Int) ∧ ∃ b4, (ByteArray.mk #[0, 1, 2, 2, 3, 3, 3, 3, 4, 4, 4, 4, 4, 4, 4, 4, 5, 5, 5, 5, 5, 5, 5, 5, 5, 5, 5, 5, 5, 5, 5, 5, 6, 6, 6, 6, 6, 6, 6, 6, 6, 6, 6, 6, 6, 6, 6, 6, 6, 6, 6, 6, 6, 6, 6, 6, 6, 6, 6, 6, 6, 6, 6, 6, 7, 7, 7, 7, 7, 7, 7, 7, 7, 7, 7, 7, 7, 7, 7, 7, 7, 7, 7, 7, 7, 7, 7, 7, 7, 7, 7, 7, 7, 7, 7, 7, 7, 7, 7, 7, 7, 7, 7, 7, 7, 7, 7, 7, 7, 7, 7, 7, 7, 7, 7, 7, 7, 7, 7, 7, 7, 7, 7, 7, 7, 7, 7, 7, 8, 8, 8, 8, 8, 8, 8, 8, 8, 8, 8, 8, 8, 8, 8, 8, 8, 8, 8, 8, 8, 8, 8, 8, 8, 8, 8, 8, 8, 8, 8, 8, 8, 8, 8, 8, 8, 8, 8, 8, 8, 8, 8, 8, 8, 8, 8, 8, 8, 8, 8, 8, 8, 8, 8, 8, 8, 8, 8, 8, 8, 8, 8, 8, 8, 8, 8, 8, 8, 8, 8, 8, 8, 8, 8, 8, 8, 8, 8, 8, 8, 8, 8, 8, 8, 8, 8, 8, 8, 8, 8, 8, 8, 8, 8, 8, 8, 8, 8, 8, 8, 8, 8, 8, 8, 8, 8, 8, 8, 8, 8, 8, 8, 8, 8, 8, 8, 8, 8, 8, 8, 8, 8, 8, 8, 8, 8, 8])[Int.toNat (IntKind.u8.wrap (Int.fdiv (Int.fdiv x1 (2 ^ (min (Int.toNat 32) (IntKind.bits .u64)))) (2 ^ (min (Int.toNat 8) (IntKind.bits .u64)))))]? = some b4 ∧
  R (.int .i64 (IntKind.i64.wrap ((IntKind.i64.wrap ((32 : Int) + 8)) + (IntKind.i64.wrap (b4.toNat : Int))))) w) else (
  0 ≤ ((IntKind.u8.wrap (Int.fdiv x1 (2 ^ (min (Int.toNat 32) (IntKind.bits .u64))))) : Int) ∧ ∃ b5, (ByteArray.mk #[0, 1, 2, 2, 3, 3, 3, 3, 4, 4, 4, 4, 4, 4, 4, 4, 5, 5, 5, 5, 5, 5, 5, 5, 5, 5, 5, 5, 5, 5, 5, 5, 6, 6, 6, 6, 6, 6, 6, 6, 6, 6, 6, 6, 6, 6, 6, 6, 6, 6, 6, 6, 6, 6, 6, 6, 6, 6, 6, 6, 6, 6, 6, 6, 7, 7, 7, 7, 7, 7, 7, 7, 7, 7, 7, 7, 7, 7, 7, 7, 7, 7, 7, 7, 7, 7, 7, 7, 7, 7, 7, 7, 7, 7, 7, 7, 7, 7, 7, 7, 7, 7, 7, 7, 7, 7, 7, 7, 7, 7, 7, 7, 7, 7, 7, 7, 7, 7, 7, 7, 7, 7, 7, 7, 7, 7, 7, 7, 8, 8, 8, 8, 8, 8, 8, 8, 8, 8, 8, 8, 8, 8, 8, 8, 8, 8, 8, 8, 8, 8, 8, 8, 8, 8, 8, 8, 8, 8, 8, 8, 8, 8, 8, 8, 8, 8, 8, 8, 8, 8, 8, 8, 8, 8, 8, 8, 8, 8, 8, 8, 8, 8, 8, 8, 8, 8, 8, 8, 8, 8, 8, 8, 8, 8, 8, 8, 8, 8, 8, 8, 8, 8, 8, 8, 8, 8, 8, 8, 8, 8, 8, 8, 8, 8, 8, 8, 8, 8, 8, 8, 8, 8, 8, 8, 8, 8, 8, 8, 8, 8, 8, 8, 8, 8, 8, 8, 8, 8, 8, 8, 8, 8, 8, 8, 8, 8, 8, 8, 8, 8, 8, 8, 8, 8, 8, 8])[Int.toNat (IntKind.u8.wrap (Int.fdiv x1 (2 ^ (min (Int.toNat 32) (IntKind.bits .u64)))))]? = some b5 ∧
  R (.int .i64 (IntKind.i64.wrap ((32 : Int) + (IntKind.i64.wrap (b5.toNat : Int))))) w))) else (
  bif decide (x1 ≥ 65536) then (
  0 ≤ (16 : Int) ∧
  bif decide ((Int.fdiv x1 (2 ^ (min (Int.toNat 16) (IntKind.bits .u64)))) ≥ 256) then (
  0 ≤ (8 : Int) ∧
  0 ≤ ((IntKind.u8.wrap (Int.fdiv (Int.fdiv x1 (2 ^ (min (Int.toNat 16) (IntKind.bits .u64)))) (2 ^ (min (Int.toNat 8) (IntKind.bits .u64))))) : Int) ∧ ∃ b6, (ByteArray.mk #[0, 1, 2, 2, 3, 3, 3, 3, 4, 4, 4, 4, 4, 4, 4, 4, 5, 5, 5, 5, 5, 5, 5, 5, 5, 5, 5, 5, 5, 5, 5, 5, 6, 6, 6, 6, 6, 6, 6, 6, 6, 6, 6, 6, 6, 6, 6, 6, 6, 6, 6, 6, 6, 6, 6, 6, 6, 6, 6, 6, 6, 6, 6, 6, 7, 7, 7, 7, 7, 7, 7, 7, 7, 7, 7, 7, 7, 7, 7, 7, 7, 7, 7, 7, 7, 7, 7, 7, 7, 7, 7, 7, 7, 7, 7, 7, 7, 7, 7, 7, 7, 7, 7, 7, 7, 7, 7, 7, 7, 7, 7, 7, 7, 7, 7, 7, 7, 7, 7, 7, 7, 7, 7, 7, 7, 7, 7, 7, 8, 8, 8, 8, 8, 8, 8, 8, 8, 8, 8, 8, 8, 8, 8, 8, 8, 8, 8, 8, 8, 8, 8, 8, 8, 8, 8, 8, 8, 8, 8, 8, 8, 8, 8, 8, 8, 8, 8, 8, 8, 8, 8, 8, 8, 8, 8, 8, 8, 8, 8, 8, 8, 8, 8, 8, 8, 8, 8, 8, 8, 8, 8, 8, 8, 8, 8, 8, 8, 8, 8, 8, 8, 8, 8, 8, 8, 8, 8, 8, 8, 8, 8, 8, 8, 8, 8, 8, 8, 8, 8, 8, 8, 8, 8, 8, 8, 8, 8, 8, 8, 8, 8, 8, 8, 8, 8, 8, 8, 8, 8, 8, 8, 8, 8, 8, 8, 8, 8, 8, 8, 8, 8, 8, 8, 8, 8, 8])[Int.toNat (IntKind.u8.wrap (Int.fdiv (Int.fdiv x1 (2 ^ (min (Int.toNat 16) (IntKind.bits .u64)))) (2 ^ (min (Int.toNat 8) (IntKind.bits .u64)))))]? = some b6 ∧
  R (.int .i64 (IntKind.i64.wrap ((IntKind.i64.wrap ((IntKind.i64.wrap ((0 : Int) + 16)) + 8)) + (IntKind.i64.wrap (b6.toNat : Int))))) w) else (
  0 ≤ ((IntKind.u8.wrap (Int.fdiv x1 (2 ^ (min (Int.toNat 16) (IntKind.bits .u64))))) : Int) ∧ ∃ b7, (ByteArray.mk #[0, 1, 2, 2, 3, 3, 3, 3, 4, 4, 4, 4, 4, 4, 4, 4, 5, 5, 5, 5, 5, 5, 5, 5, 5, 5, 5, 5, 5, 5, 5, 5, 6, 6, 6, 6, 6, 6, 6, 6, 6, 6, 6, 6, 6, 6, 6, 6, 6, 6, 6, 6, 6, 6, 6, 6, 6, 6, 6, 6, 6, 6, 6, 6, 7, 7, 7, 7, 7, 7, 7, 7, 7, 7, 7, 7, 7, 7, 7, 7, 7, 7, 7, 7, 7, 7, 7, 7, 7, 7, 7, 7, 7, 7, 7, 7, 7, 7, 7, 7, 7, 7, 7, 7, 7, 7, 7, 7, 7, 7, 7, 7, 7, 7, 7, 7, 7, 7, 7, 7, 7, 7, 7, 7, 7, 7, 7, 7, 8, 8, 8, 8, 8, 8, 8, 8, 8, 8, 8, 8, 8, 8, 8, 8, 8, 8, 8, 8, 8, 8, 8, 8, 8, 8, 8, 8, 8, 8, 8, 8, 8, 8, 8, 8, 8, 8, 8, 8, 8, 8, 8, 8, 8, 8, 8, 8, 8, 8, 8, 8, 8, 8, 8, 8, 8, 8, 8, 8, 8, 8, 8, 8, 8, 8, 8, 8, 8, 8, 8, 8, 8, 8, 8, 8, 8, 8, 8, 8, 8, 8, 8, 8, 8, 8, 8, 8, 8, 8, 8, 8, 8, 8, 8, 8, 8, 8, 8, 8, 8, 8, 8, 8, 8, 8, 8, 8, 8, 8, 8, 8, 8, 8, 8, 8, 8, 8, 8, 8, 8, 8, 8, 8, 8, 8, 8, 8])[Int.toNat (IntKind.u8.wrap (Int.fdiv x1 (2 ^ (min (Int.toNat 16) (IntKind.bits .u64)))))]? = some b7 ∧
  R (.int .i64 (IntKind.i64.wrap ((IntKind.i64.wrap ((0 : Int) + 16)) + (IntKind.i64.wrap (b7.toNat : Int))))) w)) else (
  bif decide (x1 ≥ 256) then (
  0 ≤ (8 : Int) ∧
  0 ≤ ((IntKind.u8.wrap (Int.fdiv x1 (2 ^ (min (Int.toNat 8) (IntKind.bits .u64))))) : Int) ∧ ∃ b8, (ByteArray.mk #[0, 1, 2, 2, 3, 3, 3, 3, 4, 4, 4, 4, 4, 4, 4, 4, 5, 5, 5, 5, 5, 5, 5, 5, 5, 5, 5, 5, 5, 5, 5, 5, 6, 6, 6, 6, 6, 6, 6, 6, 6, 6, 6, 6, 6, 6, 6, 6, 6, 6, 6, 6, 6, 6, 6, 6, 6, 6, 6, 6, 6, 6, 6, 6, 7, 7, 7, 7, 7, 7, 7, 7, 7, 7, 7, 7, 7, 7, 7, 7, 7, 7, 7, 7, 7, 7, 7, 7, 7, 7, 7, 7, 7, 7, 7, 7, 7, 7, 7, 7, 7, 7, 7, 7, 7, 7, 7, 7, 7, 7, 7, 7, 7, 7, 7, 7, 7, 7, 7, 7, 7, 7, 7, 7, 7, 7, 7, 7, 8, 8, 8, 8, 8, 8, 8, 8, 8, 8, 8, 8, 8, 8, 8, 8, 8, 8, 8, 8, 8, 8, 8, 8, 8, 8, 8, 8, 8, 8, 8, 8, 8, 8, 8, 8, 8, 8, 8, 8, 8, 8, 8, 8, 8, 8, 8, 8, 8, 8, 8, 8, 8, 8, 8, 8, 8, 8, 8, 8, 8, 8, 8, 8, 8, 8, 8, 8, 8, 8, 8, 8, 8, 8, 8, 8, 8, 8, 8, 8, 8, 8, 8, 8, 8, 8, 8, 8, 8, 8, 8, 8, 8, 8, 8, 8, 8, 8, 8, 8, 8, 8, 8, 8, 8, 8, 8, 8, 8, 8, 8, 8, 8, 8, 8, 8, 8, 8, 8, 8, 8, 8, 8, 8, 8, 8, 8, 8])[Int.toNat (IntKind.u8.wrap (Int.fdiv x1 (2 ^ (min (Int.toNat 8) (IntKind.bits .u64)))))]? = some b8 ∧
  R (.int .i64 (IntKind.i64.wrap ((IntKind.i64.wrap ((0 : Int) + 8)) + (IntKind.i64.wrap (b8.toNat : Int))))) w) else (
  0 ≤ ((IntKind.u8.wrap x1) : Int) ∧ ∃ b9, (ByteArray.mk #[0, 1, 2, 2, 3, 3, 3, 3, 4, 4, 4, 4, 4, 4, 4, 4, 5, 5, 5, 5, 5, 5, 5, 5, 5, 5, 5, 5, 5, 5, 5, 5, 6, 6, 6, 6, 6, 6, 6, 6, 6, 6, 6, 6, 6, 6, 6, 6, 6, 6, 6, 6, 6, 6, 6, 6, 6, 6, 6, 6, 6, 6, 6, 6, 7, 7, 7, 7, 7, 7, 7, 7, 7, 7, 7, 7, 7, 7, 7, 7, 7, 7, 7, 7, 7, 7, 7, 7, 7, 7, 7, 7, 7, 7, 7, 7, 7, 7, 7, 7, 7, 7, 7, 7, 7, 7, 7, 7, 7, 7, 7, 7, 7, 7, 7, 7, 7, 7, 7, 7, 7, 7, 7, 7, 7, 7, 7, 7, 8, 8, 8, 8, 8, 8, 8, 8, 8, 8, 8, 8, 8, 8, 8, 8, 8, 8, 8, 8, 8, 8, 8, 8, 8, 8, 8, 8, 8, 8, 8, 8, 8, 8, 8, 8, 8, 8, 8, 8, 8, 8, 8, 8, 8, 8, 8, 8, 8, 8, 8, 8, 8, 8, 8, 8, 8, 8, 8, 8, 8, 8, 8, 8, 8, 8, 8, 8, 8, 8, 8, 8, 8, 8, 8, 8, 8, 8, 8, 8, 8, 8, 8, 8, 8, 8, 8, 8, 8, 8, 8, 8, 8, 8, 8, 8, 8, 8, 8, 8, 8, 8, 8, 8, 8, 8, 8, 8, 8, 8, 8, 8, 8, 8, 8, 8, 8, 8, 8, 8, 8, 8, 8, 8, 8, 8, 8, 8])[Int.toNat (IntKind.u8.wrap x1)]? = some b9 ∧
  R (.int .i64 (IntKind.i64.wrap ((0 : Int) + (IntKind.i64.wrap (b9.toNat : Int))))) w)))

theorem bLen64.eq (x1 : Int) (R : Value → World → Prop) (w : World) : mfunc Try.prog [] 68 [.int .u64 x1] R w = bLen64.M x1 R w := by kernel_rfl
theorem bLen64.ok (x1 : Int) {R : Value → World → Prop} {w : World} (h : bLen64.M x1 R w) : Calls Try.prog 68 #[.int .u64 x1] w fun e w' => ∃ v, e = .returned v ∧ R v w' :=
  mfunc_ok follows (H := []) (args := [.int .u64 x1]) (by rw [bLen64.eq]; exact h)

def tab8 : ByteArray := ByteArray.mk #[0, 1, 2, 2, 3, 3, 3, 3, 4, 4, 4, 4, 4, 4, 4, 4, 5, 5, 5, 5, 5, 5, 5, 5, 5, 5, 5, 5, 5, 5, 5, 5, 6, 6, 6, 6, 6, 6, 6, 6, 6, 6, 6, 6, 6, 6, 6, 6, 6, 6, 6, 6, 6, 6, 6, 6, 6, 6, 6, 6, 6, 6, 6, 6, 7, 7, 7, 7, 7, 7, 7, 7, 7, 7, 7, 7, 7, 7, 7, 7, 7, 7, 7, 7, 7, 7, 7, 7, 7, 7, 7, 7, 7, 7, 7, 7, 7, 7, 7, 7, 7, 7, 7, 7, 7, 7, 7, 7, 7, 7, 7, 7, 7, 7, 7, 7, 7, 7, 7, 7, 7, 7, 7, 7, 7, 7, 7, 7, 8, 8, 8, 8, 8, 8, 8, 8, 8, 8, 8, 8, 8, 8, 8, 8, 8, 8, 8, 8, 8, 8, 8, 8, 8, 8, 8, 8, 8, 8, 8, 8, 8, 8, 8, 8, 8, 8, 8, 8, 8, 8, 8, 8, 8, 8, 8, 8, 8, 8, 8, 8, 8, 8, 8, 8, 8, 8, 8, 8, 8, 8, 8, 8, 8, 8, 8, 8, 8, 8, 8, 8, 8, 8, 8, 8, 8, 8, 8, 8, 8, 8, 8, 8, 8, 8, 8, 8, 8, 8, 8, 8, 8, 8, 8, 8, 8, 8, 8, 8, 8, 8, 8, 8, 8, 8, 8, 8, 8, 8, 8, 8, 8, 8, 8, 8, 8, 8, 8, 8, 8, 8, 8, 8, 8, 8, 8, 8]
theorem tab8_at {b : Nat} (hb : b < 256) : ∃ v, tab8[b]? = some v ∧ v.toNat ≤ 8 ∧ (6 < v.toNat ↔ 64 ≤ b) := by
  have key : ∀ m : Fin 256, (tab8[m.val]?).isSome = true ∧ ((tab8[m.val]?).getD 0).toNat ≤ 8 ∧ (6 < ((tab8[m.val]?).getD 0).toNat ↔ 64 ≤ m.val) := by decide +kernel
  obtain ⟨k1, k2, k3⟩ := key ⟨b, hb⟩
  simp only at k1 k2 k3
  obtain ⟨v, hv⟩ := Option.isSome_iff_exists.1 k1
  rw [hv] at k2 k3
  exact ⟨v, hv, k2, k3⟩
theorem shr_nat (n k : Nat) (hk : k ≤ 64) : Int.fdiv (n : Int) (2 ^ (min k (IntKind.bits .u64))) = ((n / 2 ^ k : Nat) : Int) := by
  rw [show min k (IntKind.bits .u64) = k by rw [show IntKind.bits .u64 = 64 from rfl]; omega, Int.fdiv_eq_ediv_of_nonneg _ (Int.le_of_lt (Int.pow_pos (by decide))), Int.natCast_ediv, Int.natCast_pow]
  rfl
section
variable {w w' : World} {p : Nat} {bs : List UInt8} {k : Int}
/-- so many bits: more than 62 just if it is so great. -/
theorem len64_spec {n : Nat} (hn : n < 18446744073709551616) : Calls Try.prog 68 #[.int .u64 n] w (fun e w' => ∃ L : Int, e = .returned (.int .i64 L) ∧ (L > 62 ↔ 4611686018427387904 ≤ n) ∧ w' = w) := by
  refine (bLen64.ok _ (R := fun v w' => ∃ L : Int, v = .int .i64 L ∧ (L > 62 ↔ 4611686018427387904 ≤ n) ∧ w' = w) ?_).mono fun e w' ⟨v, he, L, hv, hw⟩ => ⟨L, by rw [he, hv], hw⟩
  unfold bLen64.M
  -- the last step, once the number is below 256
  have last : ∀ (m : Nat) (s : Int), m < 256 → 0 ≤ s → s ≤ 56 → ((s = 56 ∧ m = n / 72057594037927936) ∨ (s ≤ 48 ∧ n < 72057594037927936)) → ∀ x : Int, x = (m : Int) →
      0 ≤ (IntKind.u8.wrap x) ∧ ∃ b, tab8[Int.toNat (IntKind.u8.wrap x)]? = some b ∧ ∃ L : Int, Value.int .i64 (IntKind.i64.wrap (s + IntKind.i64.wrap (b.toNat : Int))) = .int .i64 L ∧ (L > 62 ↔ 4611686018427387904 ≤ n) ∧ True := fun m s hm hs hs2 hcase x hx => by
    subst hx
    rw [wu8 (by omega) (by omega), Int.toNat_natCast]
    obtain ⟨v, h1, h2, h3⟩ := tab8_at hm
    refine ⟨by omega, v, h1, s + v.toNat, ?_, ?_, trivial⟩
    · rw [w64 (n := (v.toNat : Int)) (by omega) (by omega), w64 (by omega) (by omega)]
    · rcases hcase with ⟨rfl, rfl⟩ | ⟨q1, q2⟩
      · constructor
        · intro h; have := h3.1 (by omega); omega
        · intro h; have := h3.2 (by omega); omega
      · constructor
        · intro h; omega
        · intro h; omega
  have h32 := shr_nat n 32 (by decide)
  have h16 := shr_nat n 16 (by decide)
  have h8 := shr_nat n 8 (by decide)
  have e32 : Int.fdiv (n : Int) (2 ^ (min (Int.toNat 32) (IntKind.bits .u64))) = ((n / 4294967296 : Nat) : Int) := h32
  have e16 : Int.fdiv (n : Int) (2 ^ (min (Int.toNat 16) (IntKind.bits .u64))) = ((n / 65536 : Nat) : Int) := h16
  have e8 : Int.fdiv (n : Int) (2 ^ (min (Int.toNat 8) (IntKind.bits .u64))) = ((n / 256 : Nat) : Int) := h8
  have f16 : ∀ m : Nat, Int.fdiv (m : Int) (2 ^ (min (Int.toNat 16) (IntKind.bits .u64))) = ((m / 65536 : Nat) : Int) := fun m => shr_nat m 16 (by decide)
  have f8 : ∀ m : Nat, Int.fdiv (m : Int) (2 ^ (min (Int.toNat 8) (IntKind.bits .u64))) = ((m / 256 : Nat) : Int) := fun m => shr_nat m 8 (by decide)
  rw [e32]
  simp only [f16, f8]
  by_cases c1 : (n : Int) ≥ 4294967296
  · rw [decide_eq_true c1, cond_true]
    refine ⟨by decide, ?_⟩
    by_cases c2 : ((n / 4294967296 : Nat) : Int) ≥ 65536
    · rw [decide_eq_true c2, cond_true]
      refine ⟨by decide, ?_⟩
      by_cases c3 : ((n / 4294967296 / 65536 : Nat) : Int) ≥ 256
      · rw [decide_eq_true c3, cond_true]
        exact ⟨by decide, last (n / 4294967296 / 65536 / 256) _ (by omega) (by decide) (by decide) (.inl ⟨by decide, by omega⟩) _ rfl⟩
      · rw [decide_eq_false c3, cond_false]
        exact last (n / 4294967296 / 65536) _ (by omega) (by decide) (by decide) (.inr ⟨by decide, by omega⟩) _ rfl
    · rw [decide_eq_false c2, cond_false]
      by_cases c3 : ((n / 4294967296 : Nat) : Int) ≥ 256
      · rw [decide_eq_true c3, cond_true]
        exact ⟨by decide, last (n / 4294967296 / 256) _ (by omega) (by decide) (by decide) (.inr ⟨by decide, by omega⟩) _ rfl⟩
      · rw [decide_eq_false c3, cond_false]
        exact last (n / 4294967296) _ (by omega) (by decide) (by decide) (.inr ⟨by decide, by omega⟩) _ rfl
  · rw [decide_eq_false c1, cond_false]
    by_cases c2 : (n : Int) ≥ 65536
    · rw [decide_eq_true c2, cond_true]
      refine ⟨by decide, ?_⟩
      by_cases c3 : ((n / 65536 : Nat) : Int) ≥ 256
      · rw [decide_eq_true c3, cond_true]
        exact ⟨by decide, last (n / 65536 / 256) _ (by omega) (by decide) (by decide) (.inr ⟨by decide, by omega⟩) _ rfl⟩
      · rw [decide_eq_false c3, cond_false]
        exact last (n / 65536) _ (by omega) (by decide) (by decide) (.inr ⟨by decide, by omega⟩) _ rfl
    · rw [decide_eq_false c2, cond_false]
      by_cases c3 : (n : Int) ≥ 256
      · rw [decide_eq_true c3, cond_true]
        exact ⟨by decide, last (n / 256) _ (by omega) (by decide) (by decide) (.inr ⟨by decide, by omega⟩) _ rfl⟩
      · rw [decide_eq_false c3, cond_false]
        exact last n _ (by omega) (by decide) (by decide) (.inr ⟨by decide, by omega⟩) _ rfl

/-- Num of a reader: the number, and what the reader then has. -/
def numR (s : List UInt8 × Int) : Nat × (List UInt8 × Int) :=
  if s.2 = 0 then (match rdNum s.1 with | some (n, r) => (n, (r, 0)) | none => (0, ([], 4))) else (0, s)
theorem numR_lt (s : List UInt8 × Int) : (numR s).1 < 18446744073709551616 := by
  unfold numR
  split
  · cases h : rdNum s.1 with
    | none => exact (by decide : 0 < 18446744073709551616)
    | some q => obtain ⟨n, r⟩ := q; exact (rd_back h).2
  · exact (by decide : 0 < 18446744073709551616)
theorem rdNum_len {bs r : List UInt8} {n : Nat} (h : rdNum bs = some (n, r)) : r.length ≤ bs.length := by
  obtain ⟨h1, _⟩ := rd_back h
  rw [h1]; simp
theorem numR_len (s : List UInt8 × Int) : (numR s).2.1.length ≤ s.1.length := by
  unfold numR
  split
  · cases h : rdNum s.1 with
    | none => simp
    | some q => obtain ⟨n, r⟩ := q; exact rdNum_len h
  · exact Nat.le_refl _
theorem RNum_spec (h : Rd w p bs k) (hl : bs.length < 1000000) :
    Calls Try.prog 38 #[.pointer (some (blk p))] w (GivesW (.int .u64 (numR (bs, k)).1) fun w' => Rd w' p (numR (bs, k)).2.1 (numR (bs, k)).2.2 ∧ Ext (fun b => b = p) w w') := by
  refine (wRNum.ok _ (R := fun v w' => v = .int .u64 (numR (bs, k)).1 ∧ Rd w' p (numR (bs, k)).2.1 (numR (bs, k)).2.2 ∧ Ext (fun b => b = p) w w') ?_).mono fun e w' ⟨v, he, hv, hw⟩ => ⟨by rw [he, hv], hw⟩
  unfold wRNum.M
  refine (ok_spec h).mono fun e w4 ⟨he, hw⟩ => ⟨_, he, ?_⟩
  subst hw
  by_cases hk : k = 0
  · subst hk
    rw [show ((0 : Int) == 0) = true from rfl, Bool.not_true, cond_false]
    refine (width_spec h hl).mono fun e w7 ⟨he, hw⟩ => ⟨_, he, ?_⟩
    subst hw
    by_cases hz : widthF 0 bs = 0
    · rw [show ((widthF 0 bs : Int) == 0) = true by rw [beq_iff_eq]; omega, cond_true]
      have hn : numR (bs, 0) = (0, ([], 4)) := by unfold numR rdNum; simp [hz]
      rw [hn]
      exact (fail_spec h 4).mono fun e w9 ⟨he, hr, hx⟩ => ⟨he, rfl, hr, hx⟩
    · rw [show ((widthF 0 bs : Int) == 0) = false by rw [beq_eq_false_iff_ne]; omega, cond_false]
      obtain ⟨q1, q2, q3, q4, _⟩ := width_back bs 0 (by omega) hz
      simp only [Nat.sub_zero] at q2 q3 q4
      generalize hW : widthF 0 bs = W at *
      have hn : numR (bs, 0) = (valW (bs.take W), (bs.drop W, 0)) := by unfold numR rdNum; simp [hW, hz]
      have hW10 : W ≤ 10 := by
        have h1 := numF_le 10 (valW (bs.take W))
        rw [q3, List.length_take] at h1; omega
      obtain ⟨a, c, h1, h2, h3, h4⟩ := h
      refine ⟨fun j vs w1 => ∃ t : Nat, vs = [.int .u64 (valW (bs.take t)), .int .i64 t] ∧ j + t = W ∧ w1 = w7, W, ⟨0, rfl, rfl, rfl⟩, ?_⟩
      rintro j w1 n0 i ⟨t, hi, hj, rfl⟩
      simp only [List.cons.injEq, Value.int.injEq, true_and, and_true] at hi
      obtain ⟨rfl, rfl⟩ := hi
      cases j with
      | zero =>
        obtain rfl : t = W := by omega
        rw [show decide ((t : Int) < (t : Int)) = false by simp, cond_false]
        refine ⟨a, bs.length, c, h1.cella (i := 0) rfl, by omega, by omega, h1.cana (i := 0) rfl, thenW_in fun w23 h23 => ?_⟩
        rw [Int.toNat_natCast, Nat.mul_one, add_zero] at h23
        have hb := h1.seta 0 (.slice (if c = t then a else Option.map (fun z : Addr => z.add t) a) (bs.length - t) (c - t))
        rw [← h23] at hb
        have hx : Ext (fun b => b = p) w1 w23 := by subst h23; exact (Ext.refl (fun b => b = p) w1).setCell (a := (blk p).add 0) (.inl rfl) _
        have hdl : (bs.drop t).length = bs.length - t := List.length_drop
        have hrow := h3.drop t c (fun e => by rw [bytesV_length]; omega)
        rw [hn]
        refine ⟨rfl, ⟨_, c - t, by rw [hdl]; exact hb, by rw [hdl]; omega, ?_, fun h0 ad ha => ?_⟩, hx⟩
        · rw [show bytesV (bs.drop t) = (bytesV bs).drop t by simp [bytesV]]
          refine hrow.ext' hx fun h0 ad ha hq => ?_
          split at ha
          · have := h4 (fun e => h0 (by rw [e]; simp)) ad ha; omega
          · obtain ⟨b0, hb0, rfl⟩ := Option.map_eq_some_iff.1 ha
            rw [block_add] at hq
            have := h4 (fun e => h0 (by rw [e]; simp)) b0 hb0; omega
        · split at ha
          · exact h4 (fun e => h0 (by rw [bytesV, List.map_drop, show List.map u8V bs = [] from e]; simp)) ad ha
          · obtain ⟨b0, hb0, rfl⟩ := Option.map_eq_some_iff.1 ha
            rw [block_add]; exact h4 (fun e => h0 (by rw [bytesV, List.map_drop, show List.map u8V bs = [] from e]; simp)) b0 hb0
      | succ j =>
        have ht : t < W := by omega
        have htl : t < bs.length := by omega
        rw [show decide ((t : Int) < (W : Int)) = true by simp; omega, cond_true]
        obtain ⟨ad, rfl⟩ := h3.addr (by intro e; rw [bytesV, List.map_eq_nil_iff] at e; subst e; simp at htl)
        have e7 : IntKind.i64.wrap ((7 : Int) * (t : Int)) = ((7 * t : Nat) : Int) := by rw [w64 (by omega) (by omega)]; omega
        have hx := u8_lt bs[t]
        have hvt := valW_lt (bs.take t)
        have htk : (bs.take t).length = t := by simp; omega
        rw [htk] at hvt
        have hsn : bs.take (t + 1) = bs.take t ++ [bs[t]] := by rw [List.take_add_one]; simp [htl]
        have hvs := valW_snoc (bs.take t) bs[t]
        rw [← hsn, htk] at hvs
        have hle : valW (bs.take (t + 1)) ≤ valW (bs.take W) := by
          have := valW_append_le (bs.take (t + 1)) ((bs.take W).drop (t + 1))
          rw [show bs.take (t + 1) = (bs.take W).take (t + 1) by rw [List.take_take, Nat.min_eq_left (by omega)], List.take_append_drop] at this
          rw [List.take_take, Nat.min_eq_left (by omega)] at this
          exact this
        refine ⟨_, _, _, h1.cella (i := 0) rfl, by omega, by omega, _, by rw [Int.toNat_natCast, Nat.mul_one]; exact h3.at_ (bytesV_get htl), by omega, j, by omega, t + 1, ?_, by omega, rfl⟩
        rw [e7, Int.toNat_natCast, and127 hx, wu64 (n := ((bs[t].toNat % 128 : Nat) : Int)) (by omega) (by omega), or_shift hvt (by omega) (by omega) (by omega), ← hvs, w64 (by omega) (by omega)]
        rfl
  · rw [beq_eq_false_iff_ne.2 hk, Bool.not_false, cond_true]
    have hn : numR (bs, k) = (0, (bs, k)) := by unfold numR; rw [if_neg hk]
    rw [hn]
    exact ⟨rfl, h, Ext.refl _ _⟩

/-- Count: a number that is not above so much. -/
def countR (m : Int) (s : List UInt8 × Int) : Nat × (List UInt8 × Int) :=
  if (numR s).2.2 = 0 then (if m < 0 ∨ ((numR s).1 : Int) > m then (0, ([], 3)) else numR s) else (0, (numR s).2)
theorem countR_len (m : Int) (s : List UInt8 × Int) : (countR m s).2.1.length ≤ s.1.length := by
  have := numR_len s
  unfold countR
  split
  · split
    · simp
    · exact this
  · exact this
theorem Count_spec (h : Rd w p bs k) (hl : bs.length < 1000000) {m : Int} (hm : m < 4611686018427387904) :
    Calls Try.prog 37 #[.pointer (some (blk p)), .int .i64 m] w (GivesW (.int .i64 (countR m (bs, k)).1) fun w' => Rd w' p (countR m (bs, k)).2.1 (countR m (bs, k)).2.2 ∧ Ext (fun b => b = p) w w') := by
  refine (wCount.ok _ _ (R := fun v w' => v = .int .i64 (countR m (bs, k)).1 ∧ Rd w' p (countR m (bs, k)).2.1 (countR m (bs, k)).2.2 ∧ Ext (fun b => b = p) w w') ?_).mono fun e w' ⟨v, he, hv, hw⟩ => ⟨by rw [he, hv], hw⟩
  unfold wCount.M
  have hlt := numR_lt (bs, k)
  refine (RNum_spec h hl).mono fun e w5 ⟨he, hr5, hx5⟩ => ⟨_, he, ?_⟩
  refine (ok_spec hr5).mono fun e w8 ⟨he, hw⟩ => ⟨_, he, ?_⟩
  subst hw
  unfold countR
  generalize numR (bs, k) = s at *
  obtain ⟨n, bs', k'⟩ := s
  simp only at *
  by_cases hk : k' = 0
  · subst hk
    rw [if_pos rfl, show ((0 : Int) == 0) = true from rfl, Bool.not_true, cond_false]
    by_cases hm0 : m < 0
    · rw [decide_eq_true hm0, cond_true, if_pos (.inl hm0)]
      exact (fail_spec hr5 3).mono fun e w9 ⟨he, hr, hx⟩ => ⟨he, rfl, hr, hx5.trans hx⟩
    · rw [decide_eq_false hm0, cond_false]
      refine (len64_spec hlt).mono fun e w13 ⟨L, he, hL, hw⟩ => ⟨_, he, ?_⟩
      subst hw
      by_cases c1 : L > 62
      · rw [decide_eq_true c1, cond_true, if_pos (.inr (by have := hL.1 c1; omega))]
        exact (fail_spec hr5 3).mono fun e w9 ⟨he, hr, hx⟩ => ⟨he, rfl, hr, hx5.trans hx⟩
      · have hn62 : n < 4611686018427387904 := Decidable.byContradiction fun h => c1 (hL.2 (by omega))
        rw [decide_eq_false c1, cond_false, w64 (n := (n : Int)) (by omega) (by omega)]
        by_cases c2 : (n : Int) > m
        · rw [decide_eq_true c2, cond_true, if_pos (.inr c2)]
          exact (fail_spec hr5 3).mono fun e w9 ⟨he, hr, hx⟩ => ⟨he, rfl, hr, hx5.trans hx⟩
        · rw [decide_eq_false c2, cond_false, if_neg (fun h => h.elim hm0 c2)]
          exact ⟨rfl, hr5, hx5⟩
  · rw [if_neg hk, beq_eq_false_iff_ne.2 hk, Bool.not_false, cond_true]
    exact ⟨rfl, hr5, hx5⟩
def doneR (s : List UInt8 × Int) : Int := if s.2 = 0 then (if s.1.length > 0 then 4 else 0) else s.2
theorem Done_spec (h : Rd w p bs k) : Calls Try.prog 42 #[.pointer (some (blk p))] w (GivesW (.int .i64 (doneR (bs, k))) fun w' => w' = w) := by
  refine (wDone.ok _ (R := fun v w' => v = .int .i64 (doneR (bs, k)) ∧ w' = w) ?_).mono fun e w' ⟨v, he, hv, hw⟩ => ⟨by rw [he, hv], hw⟩
  unfold wDone.M
  rw [Option.isNone_some, cond_false]
  refine (ok_spec h).mono fun e w4 ⟨he, hw⟩ => ⟨_, he, ?_⟩
  subst hw
  obtain ⟨a, c, h1, h2, h3, h4⟩ := h
  unfold doneR
  by_cases hk : k = 0
  · subst hk
    rw [show ((0 : Int) == 0) = true from rfl, cond_true, if_pos rfl]
    refine ⟨_, _, _, h1.cella (i := 0) rfl, ?_⟩
    by_cases hb : bs.length > 0
    · rw [decide_eq_true (by omega : (bs.length : Int) > 0), cond_true, if_pos hb]; exact ⟨rfl, rfl⟩
    · rw [decide_eq_false (by omega : ¬ (bs.length : Int) > 0), cond_false, if_neg hb]
      exact ⟨_, h1.cella (i := 1) rfl, rfl, rfl⟩
  · rw [beq_eq_false_iff_ne.2 hk, cond_false, if_neg hk]
    exact ⟨_, h1.cella (i := 1) rfl, rfl, rfl⟩
end
end Go.Proofs.Ytomajjnoekfmoaa.W
