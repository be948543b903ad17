/- Wire: the numbers of a reader. -/
import Derived.Test.YtmhfoieeldiecaaZA
import Derived.Test.YtmhfoieeldiecaaProg
import Derived.KernelRfl
import Derived.Laws.StructEq
set_option linter.unusedVariables false
set_option linter.unusedSimpArgs false
set_option maxRecDepth 20000
namespace Go.Proofs.Ytmhfoieeldiecaa.W
open Go Go.Mx Go.Proofs
/-- math/bits.Len64 -/
def bLen64.M (x1 : Int) (R : Value → World → Prop) (w : World) : Prop :=
  bif decide (x1 ≥ 4294967296) then (
  0 ≤ (32 : Int) ∧
  bif decide ((Int.fdiv x1 (2 ^ (min (Int.toNat 32) (IntKind.bits .u64)))) ≥ 65536) then (
  0 ≤ (16 : Int) ∧
  bif decide ((Int.fdiv (Int.fdiv x1 (2 ^ (min (Int.toNat 32) (IntKind.bits .u64)))) (2 ^ (min (Int.toNat 16) (IntKind.bits .u64)))) ≥ 256) then (
  0 ≤ (8 : Int) ∧
  0 ≤ ((IntKind.u8.wrap (Int.fdiv (Int.fdiv (Int.fdiv x1 (2 ^ (min (Int.toNat 32) (IntKind.bits .u64)))) (2 ^ (min (Int.toNat 16) (IntKind.bits .u64)))) (2 ^ (min (Int.toNat 8) (IntKind.bits .u64))))) : Int) ∧ ∃ b2, (ByteArray.mk #[0, 1, 2, 2, 3, 3, 3, 3, 4, 4, 4, 4, 4, 4, 4, 4, 5, 5, 5, 5, 5, 5, 5, 5, 5, 5, 5, 5, 5, 5, 5, 5, 6, 6, 6, 6, 6, 6, 6, 6, 6, 6, 6, 6, 6, 6, 6, 6, 6, 6, 6, 6, 6, 6, 6, 6, 6, 6, 6, 6, 6, 6, 6, 6, 7, 7, 7, 7, 7, 7, 7, 7, 7, 7, 7, 7, 7, 7, 7, 7, 7, 7, 7, 7, 7, 7, 7, 7, 7, 7, 7, 7, 7, 7, 7, 7, 7, 7, 7, 7, 7, 7, 7, 7, 7, 7, 7, 7, 7, 7, 7, 7, 7, 7, 7, 7, 7, 7, 7, 7, 7, 7, 7, 7, 7, 7, 7, 7, 8, 8, 8, 8, 8, 8, 8, 8, 8, 8, 8, 8, 8, 8, 8, 8, 8, 8, 8, 8, 8, 8, 8, 8, 8, 8, 8, 8, 8, 8, 8, 8, 8, 8, 8, 8, 8, 8, 8, 8, 8, 8, 8, 8, 8, 8, 8, 8, 8, 8, 8, 8, 8, 8, 8, 8, 8, 8, 8, 8, 8, 8, 8, 8, 8, 8, 8, 8, 8, 8, 8, 8, 8, 8, 8, 8, 8, 8, 8, 8, 8, 8, 8, 8, 8, 8, 8, 8, 8, 8, 8, 8, 8, 8, 8, 8, 8, 8, 8, 8, 8, 8, 8, 8, 8, 8, 8, 8, 8, 8, 8, 8, 8, 8, 8, 8, 8, 8, 8, 8, 8, 8, 8, 8, 8, 8, 8, 8])[Int.toNat (IntKind.u8.wrap (Int.fdiv (Int.fdiv (Int.fdiv x1 (2 ^ (min (Int.toNat 32) (IntKind.bits .u64)))) (2 ^ (min (Int.toNat 16) (IntKind.bits .u64)))) (2 ^ (min (Int.toNat 8) (IntKind.bits .u64)))))]? = some b2 ∧
  R (.int .i64 (IntKind.i64.wrap ((IntKind.i64.wrap ((IntKind.i64.wrap ((32 : Int) + 16)) + 8)) + (IntKind.i64.wrap (b2.toNat : Int))))) w) else (
  0 ≤ ((IntKind.u8.wrap (Int.fdiv (Int.fdiv x1 (2 ^ (min (Int.toNat 32) (IntKind.bits .u64)))) (2 ^ (min (Int.toNat 16) (IntKind.bits .u64))))) : Int) ∧ ∃ b3, (ByteArray.mk #[0, 1, 2, 2, 3, 3, 3, 3, 4, 4, 4, 4, 4, 4, 4, 4, 5, 5, 5, 5, 5, 5, 5, 5, 5, 5, 5, 5, 5, 5, 5, 5, 6, 6, 6, 6, 6, 6, 6, 6, 6, 6, 6, 6, 6, 6, 6, 6, 6, 6, 6, 6, 6, 6, 6, 6, 6, 6, 6, 6, 6, 6, 6, 6, 7, 7, 7, 7, 7, 7, 7, 7, 7, 7, 7, 7, 7, 7, 7, 7, 7, 7, 7, 7, 7, 7, 7, 7, 7, 7, 7, 7, 7, 7, 7, 7, 7, 7, 7, 7, 7, 7, 7, 7, 7, 7, 7, 7, 7, 7, 7, 7, 7, 7, 7, 7, 7, 7, 7, 7, 7, 7, 7, 7, 7, 7, 7, 7, 8, 8, 8, 8, 8, 8, 8, 8, 8, 8, 8, 8, 8, 8, 8, 8, 8, 8, 8, 8, 8, 8, 8, 8, 8, 8, 8, 8, 8, 8, 8, 8, 8, 8, 8, 8, 8, 8, 8, 8, 8, 8, 8, 8, 8, 8, 8, 8, 8, 8, 8, 8, 8, 8, 8, 8, 8, 8, 8, 8, 8, 8, 8, 8, 8, 8, 8, 8, 8, 8, 8, 8, 8, 8, 8, 8, 8, 8, 8, 8, 8, 8, 8, 8, 8, 8, 8, 8, 8, 8, 8, 8, 8, 8, 8, 8, 8, 8, 8, 8, 8, 8, 8, 8, 8, 8, 8, 8, 8, 8, 8, 8, 8, 8, 8, 8, 8, 8, 8, 8, 8, 8, 8, 8, 8, 8, 8, 8])[Int.toNat (IntKind.u8.wrap (Int.fdiv (Int.fdiv x1 (2 ^ (min (Int.toNat 32) (IntKind.bits .u64)))) (2 ^ (min (Int.toNat 16) (IntKind.bits .u64)))))]? = some b3 ∧
  R (.int .i64 (IntKind.i64.wrap ((IntKind.i64.wrap ((32 : Int) + 16)) + (IntKind.i64.wrap (b3.toNat : Int))))) w)) else (
  bif decide ((Int.fdiv x1 (2 ^ (min (Int.toNat 32) (IntKind.bits .u64)))) ≥ 256) then (
  0 ≤ (8 : Int) ∧
  0 ≤ ((IntKind.u8.wrap (Int.fdiv (Int.fdiv x1 (2 ^ (min (Int.toNat 32) (IntKind.bits .u64)))) (2 ^ (min (Int.toNat 8) (IntKind.bits .u64))))) : Int) ∧ ∃ b4, (ByteArray.mk #[0, 1, 2, 2, 3, 3, 3, 3, 4, 4, 4, 4, 4, 4, 4, 4, 5, 5, 5, 5, 5, 5, 5, 5, 5, 5, 5, 5, 5, 5, 5, 5, 6, 6, 6, 6, 6, 6, 6, 6, 6, 6, 6, 6, 6, 6, 6, 6, 6, 6, 6, 6, 6, 6, 6, 6, 6, 6, 6, 6, 6, 6, 6, 6, 7, 7, 7, 7, 7, 7, 7, 7, 7, 7, 7, 7, 7, 7, 7, 7, 7, 7, 7, 7, 7, 7, 7, 7, 7, 7, 7, 7, 7, 7, 7, 7, 7, 7, 7, 7, 7, 7, 7, 7, 7, 7, 7, 7, 7, 7, 7, 7, 7, 7, 7, 7, 7, 7, 7, 7, 7, 7, 7, 7, 7, 7, 7, 7, 8, 8, 8, 8, 8, 8, 8, 8, 8, 8, 8, 8, 8, 8, 8, 8, 8, 8, 8, 8, 8, 8, 8, 8, 8, 8, 8, 8, 8, 8, 8, 8, 8, 8, 8, 8, 8, 8, 8, 8, 8, 8, 8, 8, 8, 8, 8, 8, 8, 8, 8, 8, 8, 8, 8, 8, 8, 8, 8, 8, 8, 8, 8, 8, 8, 8, 8, 8, 8, 8, 8, 8, 8, 8, 8, 8, 8, 8, 8, 8, 8, 8, 8, 8, 8, 8, 8, 8, 8, 8, 8, 8, 8, 8, 8, 8, 8, 8, 8, 8, 8, 8, 8, 8, 8, 8, 8, 8, 8, 8, 8, 8, 8, 8, 8, 8, 8, 8, 8, 8, 8, 8, 8, 8, 8, 8, 8, 8])[Int.toNat (IntKind.u8.wrap (Int.fdiv (Int.fdiv x1 (2 ^ (min (Int.toNat 32) (IntKind.bits .u64)))) (2 ^ (min (Int.toNat 8) (IntKind.bits .u64)))))]? = some b4 ∧
  R (.int .i64 (IntKind.i64.wrap ((IntKind.i64.wrap ((32 : Int) + 8)) + (IntKind.i64.wrap (b4.toNat : Int))))) w) else (
  0 ≤ ((IntKind.u8.wrap (Int.fdiv x1 (2 ^ (min (Int.toNat 32) (IntKind.bits .u64))))) : Int) ∧ ∃ b5, (ByteArray.mk #[0, 1, 2, 2, 3, 3, 3, 3, 4, 4, 4, 4, 4, 4, 4, 4, 5, 5, 5, 5, 5, 5, 5, 5, 5, 5, 5, 5, 5, 5, 5, 5, 6, 6, 6, 6, 6, 6, 6, 6, 6, 6, 6, 6, 6, 6, 6, 6, 6, 6, 6, 6, 6, 6, 6, 6, 6, 6, 6, 6, 6, 6, 6, 6, 7, 7, 7, 7, 7, 7, 7, 7, 7, 7, 7, 7, 7, 7, 7, 7, 7, 7, 7, 7, 7, 7, 7, 7, 7, 7, 7, 7, 7, 7, 7, 7, 7, 7, 7, 7, 7, 7, 7, 7, 7, 7, 7, 7, 7, 7, 7, 7, 7, 7, 7, 7, 7, 7, 7, 7, 7, 7, 7, 7, 7, 7, 7, 7, 8, 8, 8, 8, 8, 8, 8, 8, 8, 8, 8, 8, 8, 8, 8, 8, 8, 8, 8, 8, 8, 8, 8, 8, 8, 8, 8, 8, 8, 8, 8, 8, 8, 8, 8, 8, 8, 8, 8, 8, 8, 8, 8, 8, 8, 8, 8, 8, 8, 8, 8, 8, 8, 8, 8, 8, 8, 8, 8, 8, 8, 8, 8, 8, 8, 8, 8, 8, 8, 8, 8, 8, 8, 8, 8, 8, 8, 8, 8, 8, 8, 8, 8, 8, 8, 8, 8, 8, 8, 8, 8, 8, 8, 8, 8, 8, 8, 8, 8, 8, 8, 8, 8, 8, 8, 8, 8, 8, 8, 8, 8, 8, 8, 8, 8, 8, 8, 8, 8, 8, 8, 8, 8, 8, 8, 8, 8, 8])[Int.toNat (IntKind.u8.wrap (Int.fdiv x1 (2 ^ (min (Int.toNat 32) (IntKind.bits .u64)))))]? = some b5 ∧
  R (.int .i64 (IntKind.i64.wrap ((32 : Int) + (IntKind.i64.wrap (b5.toNat : Int))))) w))) else (
  bif decide (x1 ≥ 65536) then (
  0 ≤ (16 : Int) ∧
  bif decide ((Int.fdiv x1 (2 ^ (min (Int.toNat 16) (IntKind.bits .u64)))) ≥ 256) then (
  0 ≤ (8 : Int) ∧
  0 ≤ ((IntKind.u8.wrap (Int.fdiv (Int.fdiv x1 (2 ^ (min (Int.toNat 16) (IntKind.bits .u64)))) (2 ^ (min (Int.toNat 8) (IntKind.bits .u64))))) : Int) ∧ ∃ b6, (ByteArray.mk #[0, 1, 2, 2, 3, 3, 3, 3, 4, 4, 4, 4, 4, 4, 4, 4, 5, 5, 5, 5, 5, 5, 5, 5, 5, 5, 5, 5, 5, 5, 5, 5, 6, 6, 6, 6, 6, 6, 6, 6, 6, 6, 6, 6, 6, 6, 6, 6, 6, 6, 6, 6, 6, 6, 6, 6, 6, 6, 6, 6, 6, 6, 6, 6, 7, 7, 7, 7, 7, 7, 7, 7, 7, 7, 7, 7, 7, 7, 7, 7, 7, 7, 7, 7, 7, 7, 7, 7, 7, 7, 7, 7, 7, 7, 7, 7, 7, 7, 7, 7, 7, 7, 7, 7, 7, 7, 7, 7, 7, 7, 7, 7, 7, 7, 7, 7, 7, 7, 7, 7, 7, 7, 7, 7, 7, 7, 7, 7, 8, 8, 8, 8, 8, 8, 8, 8, 8, 8, 8, 8, 8, 8, 8, 8, 8, 8, 8, 8, 8, 8, 8, 8, 8, 8, 8, 8, 8, 8, 8, 8, 8, 8, 8, 8, 8, 8, 8, 8, 8, 8, 8, 8, 8, 8, 8, 8, 8, 8, 8, 8, 8, 8, 8, 8, 8, 8, 8, 8, 8, 8, 8, 8, 8, 8, 8, 8, 8, 8, 8, 8, 8, 8, 8, 8, 8, 8, 8, 8, 8, 8, 8, 8, 8, 8, 8, 8, 8, 8, 8, 8, 8, 8, 8, 8, 8, 8, 8, 8, 8, 8, 8, 8, 8, 8, 8, 8, 8, 8, 8, 8, 8, 8, 8, 8, 8, 8, 8, 8, 8, 8, 8, 8, 8, 8, 8, 8])[Int.toNat (IntKind.u8.wrap (Int.fdiv (Int.fdiv x1 (2 ^ (min (Int.toNat 16) (IntKind.bits .u64)))) (2 ^ (min (Int.toNat 8) (IntKind.bits .u64)))))]? = some b6 ∧
  R (.int .i64 (IntKind.i64.wrap ((IntKind.i64.wrap ((IntKind.i64.wrap ((0 : Int) + 16)) + 8)) + (IntKind.i64.wrap (b6.toNat : Int))))) w) else (
  0 ≤ ((IntKind.u8.wrap (Int.fdiv x1 (2 ^ (min (Int.toNat 16) (IntKind.bits .u64))))) : Int) ∧ ∃ b7, (ByteArray.mk #[0, 1, 2, 2, 3, 3, 3, 3, 4, 4, 4, 4, 4, 4, 4, 4, 5, 5, 5, 5, 5, 5, 5, 5, 5, 5, 5, 5, 5, 5, 5, 5, 6, 6, 6, 6, 6, 6, 6, 6, 6, 6, 6, 6, 6, 6, 6, 6, 6, 6, 6, 6, 6, 6, 6, 6, 6, 6, 6, 6, 6, 6, 6, 6, 7, 7, 7, 7, 7, 7, 7, 7, 7, 7, 7, 7, 7, 7, 7, 7, 7, 7, 7, 7, 7, 7, 7, 7, 7, 7, 7, 7, 7, 7, 7, 7, 7, 7, 7, 7, 7, 7, 7, 7, 7, 7, 7, 7, 7, 7, 7, 7, 7, 7, 7, 7, 7, 7, 7, 7, 7, 7, 7, 7, 7, 7, 7, 7, 8, 8, 8, 8, 8, 8, 8, 8, 8, 8, 8, 8, 8, 8, 8, 8, 8, 8, 8, 8, 8, 8, 8, 8, 8, 8, 8, 8, 8, 8, 8, 8, 8, 8, 8, 8, 8, 8, 8, 8, 8, 8, 8, 8, 8, 8, 8, 8, 8, 8, 8, 8, 8, 8, 8, 8, 8, 8, 8, 8, 8, 8, 8, 8, 8, 8, 8, 8, 8, 8, 8, 8, 8, 8, 8, 8, 8, 8, 8, 8, 8, 8, 8, 8, 8, 8, 8, 8, 8, 8, 8, 8, 8, 8, 8, 8, 8, 8, 8, 8, 8, 8, 8, 8, 8, 8, 8, 8, 8, 8, 8, 8, 8, 8, 8, 8, 8, 8, 8, 8, 8, 8, 8, 8, 8, 8, 8, 8])[Int.toNat (IntKind.u8.wrap (Int.fdiv x1 (2 ^ (min (Int.toNat 16) (IntKind.bits .u64)))))]? = some b7 ∧
  R (.int .i64 (IntKind.i64.wrap ((IntKind.i64.wrap ((0 : Int) + 16)) + (IntKind.i64.wrap (b7.toNat : Int))))) w)) else (
  bif decide (x1 ≥ 256) then (
  0 ≤ (8 : Int) ∧
  0 ≤ ((IntKind.u8.wrap (Int.fdiv x1 (2 ^ (min (Int.toNat 8) (IntKind.bits .u64))))) : Int) ∧ ∃ b8, (ByteArray.mk #[0, 1, 2, 2, 3, 3, 3, 3, 4, 4, 4, 4, 4, 4, 4, 4, 5, 5, 5, 5, 5, 5, 5, 5, 5, 5, 5, 5, 5, 5, 5, 5, 6, 6, 6, 6, 6, 6, 6, 6, 6, 6, 6, 6, 6, 6, 6, 6, 6, 6, 6, 6, 6, 6, 6, 6, 6, 6, 6, 6, 6, 6, 6, 6, 7, 7, 7, 7, 7, 7, 7, 7, 7, 7, 7, 7, 7, 7, 7, 7, 7, 7, 7, 7, 7, 7, 7, 7, 7, 7, 7, 7, 7, 7, 7, 7, 7, 7, 7, 7, 7, 7, 7, 7, 7, 7, 7, 7, 7, 7, 7, 7, 7, 7, 7, 7, 7, 7, 7, 7, 7, 7, 7, 7, 7, 7, 7, 7, 8, 8, 8, 8, 8, 8, 8, 8, 8, 8, 8, 8, 8, 8, 8, 8, 8, 8, 8, 8, 8, 8, 8, 8, 8, 8, 8, 8, 8, 8, 8, 8, 8, 8, 8, 8, 8, 8, 8, 8, 8, 8, 8, 8, 8, 8, 8, 8, 8, 8, 8, 8, 8, 8, 8, 8, 8, 8, 8, 8, 8, 8, 8, 8, 8, 8, 8, 8, 8, 8, 8, 8, 8, 8, 8, 8, 8, 8, 8, 8, 8, 8, 8, 8, 8, 8, 8, 8, 8, 8, 8, 8, 8, 8, 8, 8, 8, 8, 8, 8, 8, 8, 8, 8, 8, 8, 8, 8, 8, 8, 8, 8, 8, 8, 8, 8, 8, 8, 8, 8, 8, 8, 8, 8, 8, 8, 8, 8])[Int.toNat (IntKind.u8.wrap (Int.fdiv x1 (2 ^ (min (Int.toNat 8) (IntKind.bits .u64)))))]? = some b8 ∧
  R (.int .i64 (IntKind.i64.wrap ((IntKind.i64.wrap ((0 : Int) + 8)) + (IntKind.i64.wrap (b8.toNat : Int))))) w) else (
  0 ≤ ((IntKind.u8.wrap x1) : Int) ∧ ∃ b9, (ByteArray.mk #[0, 1, 2, 2, 3, 3, 3, 3, 4, 4, 4, 4, 4, 4, 4, 4, 5, 5, 5, 5, 5, 5, 5, 5, 5, 5, 5, 5, 5, 5, 5, 5, 6, 6, 6, 6, 6, 6, 6, 6, 6, 6, 6, 6, 6, 6, 6, 6, 6, 6, 6, 6, 6, 6, 6, 6, 6, 6, 6, 6, 6, 6, 6, 6, 7, 7, 7, 7, 7, 7, 7, 7, 7, 7, 7, 7, 7, 7, 7, 7, 7, 7, 7, 7, 7, 7, 7, 7, 7, 7, 7, 7, 7, 7, 7, 7, 7, 7, 7, 7, 7, 7, 7, 7, 7, 7, 7, 7, 7, 7, 7, 7, 7, 7, 7, 7, 7, 7, 7, 7, 7, 7, 7, 7, 7, 7, 7, 7, 8, 8, 8, 8, 8, 8, 8, 8, 8, 8, 8, 8, 8, 8, 8, 8, 8, 8, 8, 8, 8, 8, 8, 8, 8, 8, 8, 8, 8, 8, 8, 8, 8, 8, 8, 8, 8, 8, 8, 8, 8, 8, 8, 8, 8, 8, 8, 8, 8, 8, 8, 8, 8, 8, 8, 8, 8, 8, 8, 8, 8, 8, 8, 8, 8, 8, 8, 8, 8, 8, 8, 8, 8, 8, 8, 8, 8, 8, 8, 8, 8, 8, 8, 8, 8, 8, 8, 8, 8, 8, 8, 8, 8, 8, 8, 8, 8, 8, 8, 8, 8, 8, 8, 8, 8, 8, 8, 8, 8, 8, 8, 8, 8, 8, 8, 8, 8, 8, 8, 8, 8, 8, 8, 8, 8, 8, 8, 8])[Int.toNat (IntKind.u8.wrap x1)]? = some b9 ∧
  R (.int .i64 (IntKind.i64.wrap ((0 : Int) + (IntKind.i64.wrap (b9.toNat : Int))))) w)))

theorem bLen64.eq (x1 : Int) (R : Value → World → Prop) (w : World) : mfunc Try.prog [] 67 [.int .u64 x1] R w = bLen64.M x1 R w := by kernel_rfl
theorem bLen64.ok (x1 : Int) {R : Value → World → Prop} {w : World} (h : bLen64.M x1 R w) : Calls Try.prog 67 #[.int .u64 x1] w fun e w' => ∃ v, e = .returned v ∧ R v w' :=
  mfunc_ok follows (H := []) (args := [.int .u64 x1]) (by rw [bLen64.eq]; exact h)

def tab8 : ByteArray := ByteArray.mk #[0, 1, 2, 2, 3, 3, 3, 3, 4, 4, 4, 4, 4, 4, 4, 4, 5, 5, 5, 5, 5, 5, 5, 5, 5, 5, 5, 5, 5, 5, 5, 5, 6, 6, 6, 6, 6, 6, 6, 6, 6, 6, 6, 6, 6, 6, 6, 6, 6, 6, 6, 6, 6, 6, 6, 6, 6, 6, 6, 6, 6, 6, 6, 6, 7, 7, 7, 7, 7, 7, 7, 7, 7, 7, 7, 7, 7, 7, 7, 7, 7, 7, 7, 7, 7, 7, 7, 7, 7, 7, 7, 7, 7, 7, 7, 7, 7, 7, 7, 7, 7, 7, 7, 7, 7, 7, 7, 7, 7, 7, 7, 7, 7, 7, 7, 7, 7, 7, 7, 7, 7, 7, 7, 7, 7, 7, 7, 7, 8, 8, 8, 8, 8, 8, 8, 8, 8, 8, 8, 8, 8, 8, 8, 8, 8, 8, 8, 8, 8, 8, 8, 8, 8, 8, 8, 8, 8, 8, 8, 8, 8, 8, 8, 8, 8, 8, 8, 8, 8, 8, 8, 8, 8, 8, 8, 8, 8, 8, 8, 8, 8, 8, 8, 8, 8, 8, 8, 8, 8, 8, 8, 8, 8, 8, 8, 8, 8, 8, 8, 8, 8, 8, 8, 8, 8, 8, 8, 8, 8, 8, 8, 8, 8, 8, 8, 8, 8, 8, 8, 8, 8, 8, 8, 8, 8, 8, 8, 8, 8, 8, 8, 8, 8, 8, 8, 8, 8, 8, 8, 8, 8, 8, 8, 8, 8, 8, 8, 8, 8, 8, 8, 8, 8, 8, 8, 8]
theorem tab8_at {b : Nat} (hb : b < 256) : ∃ v, tab8[b]? = some v ∧ v.toNat ≤ 8 ∧ (6 < v.toNat ↔ 64 ≤ b) := by
  have key : ∀ m : Fin 256, (tab8[m.val]?).isSome = true ∧ ((tab8[m.val]?).getD 0).toNat ≤ 8 ∧ (6 < ((tab8[m.val]?).getD 0).toNat ↔ 64 ≤ m.val) := by decide +kernel
  obtain ⟨k1, k2, k3⟩ := key ⟨b, hb⟩
  simp only at k1 k2 k3
  obtain ⟨v, hv⟩ := Option.isSome_iff_exists.1 k1
  rw [hv] at k2 k3
  exact ⟨v, hv, k2, k3⟩
theorem shr_nat (n k : Nat) (hk : k ≤ 64) : Int.fdiv (n : Int) (2 ^ (min k (IntKind.bits .u64))) = ((n / 2 ^ k : Nat) : Int) := by
  rw [show min k (IntKind.bits .u64) = k by rw [show IntKind.bits .u64 = 64 from rfl]; omega, Int.fdiv_eq_ediv_of_nonneg _ (Int.le_of_lt (Int.pow_pos (by decide))), Int.natCast_ediv, Int.natCast_pow]
  rfl
section
variable {w w' : World} {p : Nat} {bs : List UInt8} {k : Int}
/-- so many bits: more than 62 just if it is so great. -/
theorem len64_spec {n : Nat} (hn : n < 18446744073709551616) : Calls Try.prog 67 #[.int .u64 n] w (fun e w' => ∃ L : Int, e = .returned (.int .i64 L) ∧ (L > 62 ↔ 4611686018427387904 ≤ n) ∧ w' = w) := by
  refine (bLen64.ok _ (R := fun v w' => ∃ L : Int, v = .int .i64 L ∧ (L > 62 ↔ 4611686018427387904 ≤ n) ∧ w' = w) ?_).mono fun e w' ⟨v, he, L, hv, hw⟩ => ⟨L, by rw [he, hv], hw⟩
  unfold bLen64.M
  -- the last step, once the number is below 256
  have last : ∀ (m : Nat) (s : Int), m < 256 → 0 ≤ s → s ≤ 56 → ((s = 56 ∧ m = n / 72057594037927936) ∨ (s ≤ 48 ∧ n < 72057594037927936)) → ∀ x : Int, x = (m : Int) →
      0 ≤ (IntKind.u8.wrap x) ∧ ∃ b, tab8[Int.toNat (IntKind.u8.wrap x)]? = some b ∧ ∃ L : Int, Value.int .i64 (IntKind.i64.wrap (s + IntKind.i64.wrap (b.toNat : Int))) = .int .i64 L ∧ (L > 62 ↔ 4611686018427387904 ≤ n) ∧ True := fun m s hm hs hs2 hcase x hx => by
    subst hx
    rw [wu8 (by omega) (by omega), Int.toNat_natCast]
    obtain ⟨v, h1, h2, h3⟩ := tab8_at hm
    refine ⟨by omega, v, h1, s + v.toNat, ?_, ?_, trivial⟩
    · rw [w64 (n := (v.toNat : Int)) (by omega) (by omega), w64 (by omega) (by omega)]
    · rcases hcase with ⟨rfl, rfl⟩ | ⟨q1, q2⟩
      · constructor
        · intro h; have := h3.1 (by omega); omega
        · intro h; have := h3.2 (by omega); omega
      · constructor
        · intro h; omega
        · intro h; omega
  have h32 := shr_nat n 32 (by decide)
  have h16 := shr_nat n 16 (by decide)
  have h8 := shr_nat n 8 (by decide)
  have e32 : Int.fdiv (n : Int) (2 ^ (min (Int.toNat 32) (IntKind.bits .u64))) = ((n / 4294967296 : Nat) : Int) := h32
  have e16 : Int.fdiv (n : Int) (2 ^ (min (Int.toNat 16) (IntKind.bits .u64))) = ((n / 65536 : Nat) : Int) := h16
  have e8 : Int.fdiv (n : Int) (2 ^ (min (Int.toNat 8) (IntKind.bits .u64))) = ((n / 256 : Nat) : Int) := h8
  have f16 : ∀ m : Nat, Int.fdiv (m : Int) (2 ^ (min (Int.toNat 16) (IntKind.bits .u64))) = ((m / 65536 : Nat) : Int) := fun m => shr_nat m 16 (by decide)
  have f8 : ∀ m : Nat, Int.fdiv (m : Int) (2 ^ (min (Int.toNat 8) (IntKind.bits .u64))) = ((m / 256 : Nat) : Int) := fun m => shr_nat m 8 (by decide)
  rw [e32]
  simp only [f16, f8]
  by_cases c1 : (n : Int) ≥ 4294967296
  · rw [decide_eq_true c1, cond_true]
    refine ⟨by decide, ?_⟩
    by_cases c2 : ((n / 4294967296 : Nat) : Int) ≥ 65536
    · rw [decide_eq_true c2, cond_true]
      refine ⟨by decide, ?_⟩
      by_cases c3 : ((n / 4294967296 / 65536 : Nat) : Int) ≥ 256
      · rw [decide_eq_true c3, cond_true]
        exact ⟨by decide, last (n / 4294967296 / 65536 / 256) _ (by omega) (by decide) (by decide) (.inl ⟨by decide, by omega⟩) _ rfl⟩
      · rw [decide_eq_false c3, cond_false]
        exact last (n / 4294967296 / 65536) _ (by omega) (by decide) (by decide) (.inr ⟨by decide, by omega⟩) _ rfl
    · rw [decide_eq_false c2, cond_false]
      by_cases c3 : ((n / 4294967296 : Nat) : Int) ≥ 256
      · rw [decide_eq_true c3, cond_true]
        exact ⟨by decide, last (n / 4294967296 / 256) _ (by omega) (by decide) (by decide) (.inr ⟨by decide, by omega⟩) _ rfl⟩
      · rw [decide_eq_false c3, cond_false]
        exact last (n / 4294967296) _ (by omega) (by decide) (by decide) (.inr ⟨by decide, by omega⟩) _ rfl
  · rw [decide_eq_false c1, cond_false]
    by_cases c2 : (n : Int) ≥ 65536
    · rw [decide_eq_true c2, cond_true]
      refine ⟨by decide, ?_⟩
      by_cases c3 : ((n / 65536 : Nat) : Int) ≥ 256
      · rw [decide_eq_true c3, cond_true]
        exact ⟨by decide, last (n / 65536 / 256) _ (by omega) (by decide) (by decide) (.inr ⟨by decide, by omega⟩) _ rfl⟩
      · rw [decide_eq_false c3, cond_false]
        exact last (n / 65536) _ (by omega) (by decide) (by decide) (.inr ⟨by decide, by omega⟩) _ rfl
    · rw [decide_eq_false c2, cond_false]
      by_cases c3 : (n : Int) ≥ 256
      · rw [decide_eq_true c3, cond_true]
        exact ⟨by decide, last (n / 256) _ (by omega) (by decide) (by decide) (.inr ⟨by decide, by omega⟩) _ rfl⟩
      · rw [decide_eq_false c3, cond_false]
        exact last n _ (by omega) (by decide) (by decide) (.inr ⟨by decide, by omega⟩) _ rfl

/-- Num of a reader: the number, and what the reader then has. -/
def numR (s : List UInt8 × Int) : Nat × (List UInt8 × Int) :=
  if s.2 = 0 then (match rdNum s.1 with | some (n, r) => (n, (r, 0)) | none => (0, ([], 4))) else (0, s)
theorem numR_lt (s : List UInt8 × Int) : (numR s).1 < 18446744073709551616 := by
  unfold numR
  split
  · cases h : rdNum s.1 with
    | none => exact (by decide : 0 < 18446744073709551616)
    | some q => obtain ⟨n, r⟩ := q; exact (rd_back h).2
  · exact (by decide : 0 < 18446744073709551616)
theorem rdNum_len {bs r : List UInt8} {n : Nat} (h : rdNum bs = some (n, r)) : r.length ≤ bs.length := by
  obtain ⟨h1, _⟩ := rd_back h
  rw [h1]; simp
theorem numR_len (s : List UInt8 × Int) : (numR s).2.1.length ≤ s.1.length := by
  unfold numR
  split
  · cases h : rdNum s.1 with
    | none => simp
    | some q => obtain ⟨n, r⟩ := q; exact rdNum_len h
  · exact Nat.le_refl _
theorem RNum_spec (h : Rd w p bs k) (hl : bs.length < 1000000) :
    Calls Try.prog 65 #[.pointer (some (blk p))] w (GivesW (.int .u64 (numR (bs, k)).1) fun w' => Rd w' p (numR (bs, k)).2.1 (numR (bs, k)).2.2 ∧ Ext (fun b => b = p) w w') := by
  refine (wRNum.ok _ (R := fun v w' => v = .int .u64 (numR (bs, k)).1 ∧ Rd w' p (numR (bs, k)).2.1 (numR (bs, k)).2.2 ∧ Ext (fun b => b = p) w w') ?_).mono fun e w' ⟨v, he, hv, hw⟩ => ⟨by rw [he, hv], hw⟩
  unfold wRNum.M
  refine (ok_spec h).mono fun e w4 ⟨he, hw⟩ => ⟨_, he, ?_⟩
  subst hw
  by_cases hk : k = 0
  · subst hk
    rw [show ((0 : Int) == 0) = true from rfl, Bool.not_true, cond_false]
    refine (width_spec h hl).mono fun e w7 ⟨he, hw⟩ => ⟨_, he, ?_⟩
    subst hw
    by_cases hz : widthF 0 bs = 0
    · rw [show ((widthF 0 bs : Int) == 0) = true by rw [beq_iff_eq]; omega, cond_true]
      have hn : numR (bs, 0) = (0, ([], 4)) := by unfold numR rdNum; simp [hz]
      rw [hn]
      exact (fail_spec h 4).mono fun e w9 ⟨he, hr, hx⟩ => ⟨he, rfl, hr, hx⟩
    · rw [show ((widthF 0 bs : Int) == 0) = false by rw [beq_eq_false_iff_ne]; omega, cond_false]
      obtain ⟨q1, q2, q3, q4, _⟩ := width_back bs 0 (by omega) hz
      simp only [Nat.sub_zero] at q2 q3 q4
      generalize hW : widthF 0 bs = W at *
      have hn : numR (bs, 0) = (valW (bs.take W), (bs.drop W, 0)) := by unfold numR rdNum; simp [hW, hz]
      have hW10 : W ≤ 10 := by
        have h1 := numF_le 10 (valW (bs.take W))
        rw [q3, List.length_take] at h1; omega
      obtain ⟨a, c, h1, h2, h3, h4⟩ := h
      refine ⟨fun j vs w1 => ∃ t : Nat, vs = [.int .u64 (valW (bs.take t)), .int .i64 t] ∧ j + t = W ∧ w1 = w7, W, ⟨0, rfl, rfl, rfl⟩, ?_⟩
      rintro j w1 n0 i ⟨t, hi, hj, rfl⟩
      simp only [List.cons.injEq, Value.int.injEq, true_and, and_true] at hi
      obtain ⟨rfl, rfl⟩ := hi
      cases j with
      | zero =>
        obtain rfl : t = W := by omega
        rw [show decide ((t : Int) < (t : Int)) = false by simp, cond_false]
        refine ⟨a, bs.length, c, h1.cella (i := 0) rfl, by omega, by omega, h1.cana (i := 0) rfl, thenW_in fun w23 h23 => ?_⟩
        rw [Int.toNat_natCast, Nat.mul_one, add_zero] at h23
        have hb := h1.seta 0 (.slice (if c = t then a else Option.map (fun z : Addr => z.add t) a) (bs.length - t) (c - t))
        rw [← h23] at hb
        have hx : Ext (fun b => b = p) w1 w23 := by subst h23; exact (Ext.refl (fun b => b = p) w1).setCell (a := (blk p).add 0) (.inl rfl) _
        have hdl : (bs.drop t).length = bs.length - t := List.length_drop
        have hrow := h3.drop t c (fun e => by rw [bytesV_length]; omega)
        rw [hn]
        refine ⟨rfl, ⟨_, c - t, by rw [hdl]; exact hb, by rw [hdl]; omega, ?_, fun h0 ad ha => ?_⟩, hx⟩
        · rw [show bytesV (bs.drop t) = (bytesV bs).drop t by simp [bytesV]]
          refine hrow.ext' hx fun h0 ad ha hq => ?_
          split at ha
          · have := h4 (fun e => h0 (by rw [e]; simp)) ad ha; omega
          · obtain ⟨b0, hb0, rfl⟩ := Option.map_eq_some_iff.1 ha
            rw [block_add] at hq
            have := h4 (fun e => h0 (by rw [e]; simp)) b0 hb0; omega
        · split at ha
          · exact h4 (fun e => h0 (by rw [bytesV, List.map_drop, show List.map u8V bs = [] from e]; simp)) ad ha
          · obtain ⟨b0, hb0, rfl⟩ := Option.map_eq_some_iff.1 ha
            rw [block_add]; exact h4 (fun e => h0 (by rw [bytesV, List.map_drop, show List.map u8V bs = [] from e]; simp)) b0 hb0
      | succ j =>
        have ht : t < W := by omega
        have htl : t < bs.length := by omega
        rw [show decide ((t : Int) < (W : Int)) = true by simp; omega, cond_true]
        obtain ⟨ad, rfl⟩ := h3.addr (by intro e; rw [bytesV, List.map_eq_nil_iff] at e; subst e; simp at htl)
        have e7 : IntKind.i64.wrap ((7 : Int) * (t : Int)) = ((7 * t : Nat) : Int) := by rw [w64 (by omega) (by omega)]; omega
        have hx := u8_lt bs[t]
        have hvt := valW_lt (bs.take t)
        have htk : (bs.take t).length = t := by simp; omega
        rw [htk] at hvt
        have hsn : bs.take (t + 1) = bs.take t ++ [bs[t]] := by rw [List.take_add_one]; simp [htl]
        have hvs := valW_snoc (bs.take t) bs[t]
        rw [← hsn, htk] at hvs
        have hle : valW (bs.take (t + 1)) ≤ valW (bs.take W) := by
          have := valW_append_le (bs.take (t + 1)) ((bs.take W).drop (t + 1))
          rw [show bs.take (t + 1) = (bs.take W).take (t + 1) by rw [List.take_take, Nat.min_eq_left (by omega)], List.take_append_drop] at this
          rw [List.take_take, Nat.min_eq_left (by omega)] at this
          exact this
        refine ⟨_, _, _, h1.cella (i := 0) rfl, by omega, by omega, _, by rw [Int.toNat_natCast, Nat.mul_one]; exact h3.at_ (bytesV_get htl), by omega, j, by omega, t + 1, ?_, by omega, rfl⟩
        rw [e7, Int.toNat_natCast, and127 hx, wu64 (n := ((bs[t].toNat % 128 : Nat) : Int)) (by omega) (by omega), or_shift hvt (by omega) (by omega) (by omega), ← hvs, w64 (by omega) (by omega)]
        rfl
  · rw [beq_eq_false_iff_ne.2 hk, Bool.not_false, cond_true]
    have hn : numR (bs, k) = (0, (bs, k)) := by unfold numR; rw [if_neg hk]
    rw [hn]
    exact ⟨rfl, h, Ext.refl _ _⟩

/-- Count: a number that is not above so much. -/
def countR (m : Int) (s : List UInt8 × Int) : Nat × (List UInt8 × Int) :=
  if (numR s).2.2 = 0 then (if m < 0 ∨ ((numR s).1 : Int) > m then (0, ([], 3)) else numR s) else (0, (numR s).2)
theorem countR_len (m : Int) (s : List UInt8 × Int) : (countR m s).2.1.length ≤ s.1.length := by
  have := numR_len s
  unfold countR
  split
  · split
    · simp
    · exact this
  · exact this
theorem Count_spec (h : Rd w p bs k) (hl : bs.length < 1000000) {m : Int} (hm : m < 4611686018427387904) :
    Calls Try.prog 47 #[.pointer (some (blk p)), .int .i64 m] w (GivesW (.int .i64 (countR m (bs, k)).1) fun w' => Rd w' p (countR m (bs, k)).2.1 (countR m (bs, k)).2.2 ∧ Ext (fun b => b = p) w w') := by
  refine (wCount.ok _ _ (R := fun v w' => v = .int .i64 (countR m (bs, k)).1 ∧ Rd w' p (countR m (bs, k)).2.1 (countR m (bs, k)).2.2 ∧ Ext (fun b => b = p) w w') ?_).mono fun e w' ⟨v, he, hv, hw⟩ => ⟨by rw [he, hv], hw⟩
  unfold wCount.M
  have hlt := numR_lt (bs, k)
  refine (RNum_spec h hl).mono fun e w5 ⟨he, hr5, hx5⟩ => ⟨_, he, ?_⟩
  refine (ok_spec hr5).mono fun e w8 ⟨he, hw⟩ => ⟨_, he, ?_⟩
  subst hw
  unfold countR
  generalize numR (bs, k) = s at *
  obtain ⟨n, bs', k'⟩ := s
  simp only at *
  by_cases hk : k' = 0
  · subst hk
    rw [if_pos rfl, show ((0 : Int) == 0) = true from rfl, Bool.not_true, cond_false]
    by_cases hm0 : m < 0
    · rw [decide_eq_true hm0, cond_true, if_pos (.inl hm0)]
      exact (fail_spec hr5 3).mono fun e w9 ⟨he, hr, hx⟩ => ⟨he, rfl, hr, hx5.trans hx⟩
    · rw [decide_eq_false hm0, cond_false]
      refine (len64_spec hlt).mono fun e w13 ⟨L, he, hL, hw⟩ => ⟨_, he, ?_⟩
      subst hw
      by_cases c1 : L > 62
      · rw [decide_eq_true c1, cond_true, if_pos (.inr (by have := hL.1 c1; omega))]
        exact (fail_spec hr5 3).mono fun e w9 ⟨he, hr, hx⟩ => ⟨he, rfl, hr, hx5.trans hx⟩
      · have hn62 : n < 4611686018427387904 := Decidable.byContradiction fun h => c1 (hL.2 (by omega))
        rw [decide_eq_false c1, cond_false, w64 (n := (n : Int)) (by omega) (by omega)]
        by_cases c2 : (n : Int) > m
        · rw [decide_eq_true c2, cond_true, if_pos (.inr c2)]
          exact (fail_spec hr5 3).mono fun e w9 ⟨he, hr, hx⟩ => ⟨he, rfl, hr, hx5.trans hx⟩
        · rw [decide_eq_false c2, cond_false, if_neg (fun h => h.elim hm0 c2)]
          exact ⟨rfl, hr5, hx5⟩
  · rw [if_neg hk, beq_eq_false_iff_ne.2 hk, Bool.not_false, cond_true]
    exact ⟨rfl, hr5, hx5⟩
def doneR (s : List UInt8 × Int) : Int := if s.2 = 0 then (if s.1.length > 0 then 4 else 0) else s.2
theorem Done_spec (h : Rd w p bs k) : Calls Try.prog 49 #[.pointer (some (blk p))] w (GivesW (.int .i64 (doneR (bs, k))) fun w' => w' = w) := by
  refine (wDone.ok _ (R := fun v w' => v = .int .i64 (doneR (bs, k)) ∧ w' = w) ?_).mono fun e w' ⟨v, he, hv, hw⟩ => ⟨by rw [he, hv], hw⟩
  unfold wDone.M
  rw [Option.isNone_some, cond_false]
  refine (ok_spec h).mono fun e w4 ⟨he, hw⟩ => ⟨_, he, ?_⟩
  subst hw
  obtain ⟨a, c, h1, h2, h3, h4⟩ := h
  unfold doneR
  by_cases hk : k = 0
  · subst hk
    rw [show ((0 : Int) == 0) = true from rfl, cond_true, if_pos rfl]
    refine ⟨_, _, _, h1.cella (i := 0) rfl, ?_⟩
    by_cases hb : bs.length > 0
    · rw [decide_eq_true (by omega : (bs.length : Int) > 0), cond_true, if_pos hb]; exact ⟨rfl, rfl⟩
    · rw [decide_eq_false (by omega : ¬ (bs.length : Int) > 0), cond_false, if_neg hb]
      exact ⟨_, h1.cella (i := 1) rfl, rfl, rfl⟩
  · rw [beq_eq_false_iff_ne.2 hk, cond_false, if_neg hk]
    exact ⟨_, h1.cella (i := 1) rfl, rfl, rfl⟩
end
end Go.Proofs.Ytmhfoieeldiecaa.W

/- Wire: whole numbers with a sign, bytes with their length. -/
set_option linter.unusedVariables false
set_option linter.unusedSimpArgs false
set_option maxRecDepth 20000
namespace Go.Proofs.Ytmhfoieeldiecaa.W
open Go Go.Mx Go.Proofs
/-- wire.Bytes -/
def wBytes.M (b1a : Option Addr) (b1n : Nat) (b1c : Nat) (x2a : Option Addr) (x2n : Nat) (x2c : Nat) (R : Value → World → Prop) (w : World) : Prop :=
  Calls Try.prog 41 #[.slice b1a b1n b1c, .int .u64 (IntKind.u64.wrap (x2n : Int))] w fun ee4 ww5 => ∃ (num3a : Option Addr) (num3n : Nat) (num3c : Nat), ee4 = .returned (.slice num3a num3n num3c) ∧
  ∃ (a6a : Option Addr) (a6n : Nat) (a6c : Nat) (ww7 : World), (Builtin.append_ #[34, 34] 34 #[.slice num3a num3n num3c, .slice x2a x2n x2c]).run Try.prog ww5 = .ok (.slice a6a a6n a6c) ww7 ∧
  R (.slice a6a a6n a6c) ww7

theorem wBytes.eq (b1a : Option Addr) (b1n : Nat) (b1c : Nat) (x2a : Option Addr) (x2n : Nat) (x2c : Nat) (R : Value → World → Prop) (w : World) : mfunc Try.prog [] 42 [.slice b1a b1n b1c, .slice x2a x2n x2c] R w = wBytes.M b1a b1n b1c x2a x2n x2c R w := by kernel_rfl
theorem wBytes.ok (b1a : Option Addr) (b1n : Nat) (b1c : Nat) (x2a : Option Addr) (x2n : Nat) (x2c : Nat) {R : Value → World → Prop} {w : World} (h : wBytes.M b1a b1n b1c x2a x2n x2c R w) : Calls Try.prog 42 #[.slice b1a b1n b1c, .slice x2a x2n x2c] w fun e w' => ∃ v, e = .returned v ∧ R v w' :=
  mfunc_ok follows (H := []) (args := [.slice b1a b1n b1c, .slice x2a x2n x2c]) (by rw [wBytes.eq]; exact h)

/-- a number with a sign, as one without. -/
def zig (n : Int) : Nat := if 0 ≤ n then (2 * n).toNat else (-2 * n - 1).toNat
def unzig (m : Nat) : Int := if m % 2 = 0 then (m / 2 : Nat) else -((m / 2 : Nat) : Int) - 1
section
variable {w w' : World} {a : Option Addr} {c N p : Nat} {bs : List UInt8} {k : Int}
theorem Bytes_spec (h : RowAt w a (bytesV bs)) (hl : bs.length ≤ 1000000) {xa : Option Addr} {xc : Nat} {xs : List UInt8} (hx : RowAt w xa (bytesV xs)) (hxl : xs.length ≤ 1000000) :
    Calls Try.prog 42 #[.slice a bs.length c, .slice xa xs.length xc] w (fun e w' => ∃ a' c', e = .returned (.slice a' (bs ++ numL xs.length ++ xs).length c') ∧ OwnB w.heap.size w' a' c' (bs ++ numL xs.length ++ xs) ∧ Ext no w w') := by
  refine (wBytes.ok _ _ _ _ _ _ (R := fun v w' => ∃ a' c', v = (.slice a' (bs ++ numL xs.length ++ xs).length c') ∧ OwnB w.heap.size w' a' c' (bs ++ numL xs.length ++ xs) ∧ Ext no w w') ?_).mono fun e w' ⟨v, he, a', c', hv, hw⟩ => ⟨a', c', by rw [he, hv], hw⟩
  unfold wBytes.M
  rw [wu64 (n := (xs.length : Int)) (by omega) (by omega)]
  refine (Num_spec h hl (by omega)).mono fun e w5 ⟨a5, c5, he, hO, hx5⟩ => ⟨a5, _, c5, he, ?_⟩
  have hnl : (numL xs.length).length ≤ 10 := numF_le 10 _
  obtain ⟨a', c', w7, hr, hO7, hx7⟩ := hO.append (t := 34) (ty := 34) Try.underlying34 hx5.size (xc := xc) (hx.no hx5) (by rw [List.length_append]; omega)
  exact ⟨a', _, c', w7, hr, a', c', rfl, hO7, hx5.then hx7 fun b hb => .inr hb⟩
def intR (s : List UInt8 × Int) : Int × (List UInt8 × Int) := (unzig (numR s).1, (numR s).2)
end
end Go.Proofs.Ytmhfoieeldiecaa.W

/- The reference's numbers, bytes and reader; bytes held beside each other. -/
set_option linter.unusedVariables false
set_option linter.unusedSimpArgs false
set_option maxRecDepth 20000
namespace Go.Proofs.Ytmhfoieeldiecaa.W
open Go Go.Mx Go.Proofs
/-- cachetteref01.Same -/
def wSame.M (a1a : Option Addr) (a1n : Nat) (a1c : Nat) (b2a : Option Addr) (b2n : Nat) (b2c : Nat) (R : Value → World → Prop) (w : World) : Prop :=
  bif (a1n : Int) != (b2n : Int) then (
  R (.bool false) w) else (
  ∃ (I0 : Nat → List Value → World → Prop) (m4 : Nat), I0 m4 [.int .i64 0] w ∧ ∀ (m5 : Nat) (ww6 : World) (i3 : Int), I0 m5 [.int .i64 i3] ww6 →
  bif decide (i3 < (a1n : Int)) then (
  thenW (ww6.drew) fun ww7 =>
  a1a.elim False fun a8 =>
  0 ≤ (i3 : Int) ∧ (i3 : Int) < (a1n : Int) ∧
  ∃ (x9 : Int), ww7.cell? (a8.add (Int.toNat i3 * 1)) = some (.int .u8 x9) ∧
  b2a.elim False fun a10 =>
  0 ≤ (i3 : Int) ∧ (i3 : Int) < (b2n : Int) ∧
  ∃ (x11 : Int), ww7.cell? (a10.add (Int.toNat i3 * 1)) = some (.int .u8 x11) ∧
  bif x9 != x11 then (
  R (.bool false) ww7) else (
  ∃ m12, m12 < m5 ∧ I0 m12 [.int .i64 (IntKind.i64.wrap (i3 + 1))] ww7)) else (
  R (.bool true) ww6))

theorem wSame.eq (a1a : Option Addr) (a1n : Nat) (a1c : Nat) (b2a : Option Addr) (b2n : Nat) (b2c : Nat) (R : Value → World → Prop) (w : World) : mfunc Try.prog [(0, [0, 1], [(5, (.one (.int .i64)))])] 33 [.slice a1a a1n a1c, .slice b2a b2n b2c] R w = wSame.M a1a a1n a1c b2a b2n b2c R w := by kernel_rfl
theorem wSame.ok (a1a : Option Addr) (a1n : Nat) (a1c : Nat) (b2a : Option Addr) (b2n : Nat) (b2c : Nat) {R : Value → World → Prop} {w : World} (h : wSame.M a1a a1n a1c b2a b2n b2c R w) : Calls Try.prog 33 #[.slice a1a a1n a1c, .slice b2a b2n b2c] w fun e w' => ∃ v, e = .returned v ∧ R v w' :=
  mfunc_ok follows (H := [(0, [0, 1], [(5, (.one (.int .i64)))])]) (args := [.slice a1a a1n a1c, .slice b2a b2n b2c]) (by rw [wSame.eq]; exact h)

theorem numL_le (n : Nat) : (numL n).length ≤ 10 := numF_le 10 n
theorem count_le (m : Int) (s : List UInt8 × Int) (hm : 0 ≤ m) : ((countR m s).1 : Int) ≤ m := by
  unfold countR
  split
  · split
    · exact hm
    · rename_i h; exact Decidable.byContradiction fun e => h (.inr (by omega))
  · exact hm

section
variable {w w' : World} {a : Option Addr} {c : Nat}
theorem sameB_spec {a b : Option Addr} {c d : Nat} {x y : List UInt8} (ha : RowAt w a (bytesV x)) (hb : RowAt w b (bytesV y)) (hx : x.length < 1000000) :
    Calls Try.prog 33 #[.slice a x.length c, .slice b y.length d] w (GivesW (.bool (decide (x = y))) fun w' => Ext no w w') := by
  refine (wSame.ok _ _ _ _ _ _ (R := fun v w' => v = .bool (decide (x = y)) ∧ Ext no w w') ?_).mono fun e w' ⟨v, he, hv, hw⟩ => ⟨by rw [he, hv], hw⟩
  unfold wSame.M
  by_cases hl : x.length = y.length
  · have hl' : ((x.length : Int) != (y.length : Int)) = false := by simp [hl]
    rw [hl', cond_false]
    refine ⟨fun k vs w1 => ∃ i : Nat, vs = [.int .i64 i] ∧ k = x.length - i ∧ i ≤ x.length ∧ x.take i = y.take i ∧ Ext no w w1, x.length, ⟨0, rfl, rfl, Nat.zero_le _, rfl, Ext.refl _ _⟩, ?_⟩
    rintro k w1 i3 ⟨i, hi, rfl, hle, ht, hw⟩
    simp only [List.cons.injEq, Value.int.injEq, true_and, and_true] at hi
    subst hi
    by_cases hlt : i < x.length
    · have hd : decide ((i : Int) < (x.length : Int)) = true := by simp [hlt]
      rw [hd, cond_true]
      refine thenW_in fun w7 h7 => ?_
      have hw7 : Ext no w w7 := hw.trans (by subst h7; exact (Ext.refl _ _).drew)
      have hi2 : i < y.length := hl ▸ hlt
      have hax := ha.ext hw7 (fun _ _ h => h)
      have hby := hb.ext hw7 (fun _ _ h => h)
      obtain ⟨ad, rfl⟩ := hax.addr (by intro e; rw [bytesV, List.map_eq_nil_iff] at e; subst e; simp at hlt)
      obtain ⟨bd, rfl⟩ := hby.addr (by intro e; rw [bytesV, List.map_eq_nil_iff] at e; subst e; simp at hi2)
      refine ⟨by omega, by omega, x[i].toNat, ?_, by omega, by omega, y[i].toNat, ?_, ?_⟩
      · rw [show Int.toNat (i : Int) * 1 = i by omega]; exact hax.at_ (bytesV_get hlt)
      · rw [show Int.toNat (i : Int) * 1 = i by omega]; exact hby.at_ (bytesV_get hi2)
      · by_cases he : x[i] = y[i]
        · have h1 : ((x[i].toNat : Int) != (y[i].toNat : Int)) = false := by simp [he]
          rw [h1, cond_false]
          refine ⟨x.length - (i + 1), by omega, i + 1, by rw [w64 (by omega) (by omega)]; rfl, rfl, by omega, ?_, hw7⟩
          rw [List.take_add_one, List.take_add_one, ht]; simp [hlt, hi2, he]
        · have h1 : ((x[i].toNat : Int) != (y[i].toNat : Int)) = true := by
            simp only [bne_iff_ne, ne_eq, Int.natCast_inj, UInt8.toNat_inj]; exact he
          rw [h1, cond_true]
          exact ⟨by rw [decide_eq_false]; rintro rfl; exact he rfl, hw7⟩
    · have hd : decide ((i : Int) < (x.length : Int)) = false := by simp; omega
      rw [hd, cond_false]
      obtain rfl : i = x.length := by omega
      refine ⟨?_, hw⟩
      have : x = y := by
        rw [List.take_length] at ht
        rw [hl, List.take_length] at ht
        exact ht
      simp [this]
  · have hl' : ((x.length : Int) != (y.length : Int)) = true := by simp; omega
    rw [hl', cond_true]
    exact ⟨by rw [decide_eq_false]; rintro rfl; exact hl rfl, Ext.refl _ _⟩
end
theorem numR_write {n : Nat} (h : n < 18446744073709551616) (r : List UInt8) : numR (numL n ++ r, 0) = (n, (r, 0)) := by
  unfold numR; rw [if_pos rfl, rd_num h]
theorem countR_write {n : Nat} {m : Int} (h : n < 18446744073709551616) (hm : (n : Int) ≤ m) (r : List UInt8) : countR m (numL n ++ r, 0) = (n, (r, 0)) := by
  unfold countR
  rw [numR_write h, if_pos rfl, if_neg (by show ¬ (m < 0 ∨ (n : Int) > m); omega)]
theorem numR_bad {s : List UInt8 × Int} (h : s.2 ≠ 0) : (numR s).2.2 ≠ 0 := by
  unfold numR; rw [if_neg h]; exact h
theorem numR_good {s : List UInt8 × Int} (h : (numR s).2.2 = 0) : s.2 = 0 ∧ s.1 = numL (numR s).1 ++ (numR s).2.1 := by
  have h0 : s.2 = 0 := Decidable.byContradiction fun e => numR_bad e h
  refine ⟨h0, ?_⟩
  unfold numR at h ⊢
  rw [if_pos h0] at h ⊢
  cases hr : rdNum s.1 with
  | none => rw [hr] at h; exact absurd h (by decide)
  | some q => obtain ⟨n, r⟩ := q; exact (rd_back hr).1
theorem countR_good {m : Int} {s : List UInt8 × Int} (h : (countR m s).2.2 = 0) : s.2 = 0 ∧ s.1 = numL (countR m s).1 ++ (countR m s).2.1 := by
  unfold countR at h ⊢
  by_cases h1 : (numR s).2.2 = 0
  · rw [if_pos h1] at h ⊢
    by_cases h2 : m < 0 ∨ ((numR s).1 : Int) > m
    · rw [if_pos h2] at h; exact absurd h (by decide)
    · rw [if_neg h2]; exact numR_good h1
  · rw [if_neg h1] at h; exact absurd h h1
/-- what the reference's reader has. -/
def RdR (w : World) (p N : Nat) (bs : List UInt8) (k : Int) : Prop :=
  N ≤ p ∧ ∃ a c, Blk w p 106 [.slice a bs.length c, .int .i64 k] ∧ bs.length ≤ c ∧ RowAt w a (bytesV bs) ∧ (bytesV bs ≠ [] → ∀ ad, a = some ad → ad.block < N)
section
variable {w w' : World} {a : Option Addr} {c : Nat} {bs : List UInt8} {p N : Nat} {k : Int}
theorem RdR.no (h : RdR w p N bs k) (e : Ext no w w') : RdR w' p N bs k := by
  obtain ⟨hNp, a, c, h1, h2, h3, h4⟩ := h
  exact ⟨hNp, a, c, h1.ext e id, h2, h3.no e, h4⟩
theorem RdR.up {m : Nat → Prop} (h : RdR w p N bs k) (e : Ext m w w') (hm : ∀ b, m b → p < b) : RdR w' p N bs k := by
  obtain ⟨hNp, a, c, h1, h2, h3, h4⟩ := h
  exact ⟨hNp, a, c, h1.ext e (fun h => by have := hm _ h; omega), h2, h3.ext' e (fun h0 ad ha hb => by have := hm _ hb; have := h4 h0 ad ha; omega), h4⟩
theorem RdR.lt (h : RdR w p N bs k) : p < w.heap.size := by obtain ⟨hNp, a, c, h1, _⟩ := h; exact h1.lt
/-! ### where the number ends -/
end
end Go.Proofs.Ytmhfoieeldiecaa.W

/- The program's orders. -/
set_option maxRecDepth 20000
namespace Go.Proofs.Ytmhfoieeldiecaa
open Go Go.Mx Go.Proofs
theorem follows : Try.prog.follows .mixedOrders = true := by kernel_rfl
end Go.Proofs.Ytmhfoieeldiecaa

/- A struct of numbers: when two are the same. -/
set_option linter.unusedVariables false
set_option linter.unusedSimpArgs false
set_option maxRecDepth 20000
namespace Go.Proofs.Ytmhfoieeldiecaa
open Go Go.Mx Go.Proofs
end Go.Proofs.Ytmhfoieeldiecaa
