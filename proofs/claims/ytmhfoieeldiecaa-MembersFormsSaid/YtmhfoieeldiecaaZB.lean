/- Wire: the numbers of a reader. -/
import Derived.Test.YtmhfoieeldiecaaZA
import Derived.Test.YtmhfoieeldiecaaProg
import Derived.KernelRfl
import Derived.Laws.StructEq
set_option linter.unusedVariables false
set_option linter.unusedSimpArgs false
set_option maxRecDepth 20000
namespace Go.Proofs.Ytmhfoieeldiecaa.W
open Go Go.Mx Go.Proofs
/-- math/bits.Len64 -/
def bLen64.M (x1 : Int) (R : Value → World → Prop) (w : World) : Prop :=
  bif decide (x1 ≥ 4294967296) then (
  0 ≤ (32 : Int) ∧
  bif decide ((Int.fdiv x1 (2 ^ (min (Int.toNat 32) (IntKind.bits .u64)))) ≥ 65536) then (
  0 ≤ (16 : Int) ∧
  bif decide ((Int.fdiv (Int.fdiv x1 (2 ^ (min (Int.toNat 32) (IntKind.bits .u64)))) (2 ^ (min (Int.toNat 16) (IntKind.bits .u64)))) ≥ 256) then (
  0 ≤ (8 : Int) ∧
  0 ≤ ((IntKind.u8.wrap (Int.fdiv (Int.fdiv (Int.fdiv x1 (2 ^ (min (Int.toNat 32) (IntKind.bits .u64)))) (2 ^ (min (Int.toNat 16) (IntKind.bits .u64)))) (2 ^ (min (Int.toNat 8) (IntKind.bits .u64))))) : Int) ∧ ∃ b2, (ByteArray.mk #[0, 1, 2, 2, 3, 3, 3, 3, 4, 4, 4, 4, 4, 4, 4, 4, 5, 5, 5, 5, 5, 5, 5, 5, 5, 5, 5, 5, 5, 5, 5, 5, 6, 6, 6, 6, 6, 6, 6, 6, 6, 6, 6, 6, 6, 6, 6, 6, 6, 6, 6, 6, 6, 6, 6, 6, 6, 6, 6, 6, 6, 6, 6, 6, 7, 7, 7, 7, 7, 7, 7, 7, 7, 7, 7, 7, 7, 7, 7, 7, 7, 7, 7, 7, 7, 7, 7, 7, 7, 7, 7, 7, 7, 7, 7, 7, 7, 7, 7, 7, 7, 7, 7, 7, 7, 7, 7, 7, 7, 7, 7, 7, 7, 7, 7, 7, 7, 7, 7, 7, 7, 7, 7, 7, 7, 7, 7, 7, 8, 8, 8, 8, 8, 8, 8, 8, 8, 8, 8, 8, 8, 8, 8, 8, 8, 8, 8, 8, 8, 8, 8, 8, 8, 8, 8, 8, 8, 8, 8, 8, 8, 8, 8, 8, 8, 8, 8, 8, 8, 8, 8, 8, 8, 8, 8, 8, 8, 8, 8, 8, 8, 8, 8, 8, 8, 8, 8, 8, 8, 8, 8, 8, 8, 8, 8, 8, 8, 8, 8, 8, 8, 8, 8, 8, 8, 8, 8, 8, 8, 8, 8, 8, 8, 8, 8, 8, 8, 8, 8, 8, 8, 8, 8, 8, 8, 8, 8, 8, 8, 8, 8, 8, 8, 8, 8, 8, 8, 8, 8, 8, 8, 8, 8, 8, 8, 8, 8, 8, 8, 8, 8, 8, 8, 8, 8, 8])[Int.toNat (IntKind.u8.wrap (Int.fdiv (Int.fdiv (Int.fdiv x1 (2 ^ (min (Int.toNat 32) (IntKind.bits .u64)))) (2 ^ (min (Int.toNat 16) (IntKind.bits .u64)))) (2 ^ (min (Int.toNat 8) (IntKind.bits .u64)))))]? = some b2 ∧
  R (.int .i64 (IntKind.i64.wrap ((IntKind.i64.wrap ((IntKind.i64.wrap ((32 : Int) + 16)) + 8)) + (IntKind.i64.wrap (b2.toNat : Int))))) w) else (
  0 ≤ ((IntKind.u8.wrap (Int.fdiv (Int.fdiv x1 (2 ^ (min (Int.toNat 32) (IntKind.bits .u64)))) (2 ^ (min (Int.toNat 16) (IntKind.bits .u64))))) : Int) ∧ ∃ b3, (ByteArray.mk #[0, 1, 2, 2, 3, 3, 3, 3, 4, 4, 4, 4, 4, 4, 4, 4, 5, 5, 5, 5, 5, 5, 5, 5, 5, 5, 5, 5, 5, 5, 5, 5, 6, 6, 6, 6, 6, 6, 6, 6, 6, 6, 6, 6, 6, 6, 6, 6, 6, 6, 6, 6, 6, 6, 6, 6, 6, 6, 6, 6, 6, 6, 6, 6, 7, 7, 7, 7, 7, 7, 7, 7, 7, 7, 7, 7, 7, 7, 7, 7, 7, 7, 7, 7, 7, 7, 7, 7, 7, 7, 7, 7, 7, 7, 7, 7, 7, 7, 7, 7, 7, 7, 7, 7, 7, 7, 7, 7, 7, 7, 7, 7, 7, 7, 7, 7, 7, 7, 7, 7, 7, 7, 7, 7, 7, 7, 7, 7, 8, 8, 8, 8, 8, 8, 8, 8, 8, 8, 8, 8, 8, 8, 8, 8, 8, 8, 8, 8, 8, 8, 8, 8, 8, 8, 8, 8, 8, 8, 8, 8, 8, 8, 8, 8, 8, 8, 8, 8, 8, 8, 8, 8, 8, 8, 8, 8, 8, 8, 8, 8, 8, 8, 8, 8, 8, 8, 8, 8, 8, 8, 8, 8, 8, 8, 8, 8, 8, 8, 8, 8, 8, 8, 8, 8, 8, 8, 8, 8, 8, 8, 8, 8, 8, 8, 8, 8, 8, 8, 8, 8, 8, 8, 8, 8, 8, 8, 8, 8, 8, 8, 8, 8, 8, 8, 8, 8, 8, 8, 8, 8, 8, 8, 8, 8, 8, 8, 8, 8, 8, 8, 8, 8, 8, 8, 8, 8])[Int.toNat (IntKind.u8.wrap (Int.fdiv (Int.fdiv x1 (2 ^ (min (Int.toNat 32) (IntKind.bits .u64)))) (2 ^ (min (Int.toNat 16) (IntKind.bits .u64)))))]? = some b3 ∧
  R (.int .i64 (IntKind.i64.wrap ((IntKind.i64.wrap ((32 : Int) + 16)) + (IntKind.i64.wrap (b3.toNat : Int))))) w)) else (
  bif decide ((Int.fdiv x1 (2 ^ (min (Int.toNat 32) (IntKind.bits .u64)))) ≥ 256) then (
  0 ≤ (8 : Int) ∧
  0 ≤ ((IntKind.u8.wrap (Int.fdiv (Int.fdiv x1 (2 ^ (min (Int.toNat 32) (IntKind.bits .u64)))) (2 ^ (min (Int.toNat 8) (IntKind.bits .u64))))) : Int) ∧ ∃ b4, (ByteArray.mk #[0, 1, 2, 2, 3, 3, 3, 3, 4, 4, 4, 4, 4, 4, 4, 4, 5, 5, 5, 5, 5, 5, 5, 5, 5, 5, 5, 5, 5, 5, 5, 5, 6, 6, 6, 6, 6, 6, 6, 6, 6, 6, 6, 6, 6, 6, 6, 6, 6, 6, 6, 6, 6, 6, 6, 6, 6, 6, 6, 6, 6, 6, 6, 6, 7, 7, 7, 7, 7, 7, 7, 7, 7, 7, 7, 7, 7, 7, 7, 7, 7, 7, 7, 7, 7, 7, 7, 7, 7, 7, 7, 7, 7, 7, 7, 7, 7, 7, 7, 7, 7, 7, 7, 7, 7, 7, 7, 7, 7, 7, 7, 7, 7, 7, 7, 7, 7, 7, 7, 7, 7, 7, 7, 7, 7, 7, 7, 7, 8, 8, 8, 8, 8, 8, 8, 8, 8, 8, 8, 8, 8, 8, 8, 8, 8, 8, 8, 8, 8, 8, 8, 8, 8, 8, 8, 8, 8, 8, 8, 8, 8, 8, 8, 8, 8, 8, 8, 8, 8, 8, 8, 8, 8, 8, 8, 8, 8, 8, 8, 8, 8, 8, 8, 8, 8, 8, 8, 8, 8, 8, 8, 8, 8, 8, 8, 8, 8, 8, 8, 8, 8, 8, 8, 8, 8, 8, 8, 8, 8, 8, 8, 8, 8, 8, 8, 8, 8, 8, 8, 8, 8, 8, 8, 8, 8, 8, 8, 8, 8, 8, 8, 8, 8, 8, 8, 8, 8, 8, 8, 8, 8, 8, 8, 8, 8, 8, 8, 8, 8, 8, 8, 8, 8, 8, 8, 8])[Int.toNat (IntKind.u8.wrap (Int.fdiv (Int.fdiv x1 (2 ^ (min (Int.toNat 32) (IntKind.bits .u64)))) (2 ^ (min (Int.toNat 8) (IntKind.bits .u64)))))]? = some b4 ∧
  R (.int .i64 (IntKind.i64.wrap ((IntKind.i64.wrap ((32 : Int) + 8)) + (IntKind.i64.wrap (b4.toNat : Int))))) w) else (
  0 ≤ ((IntKind.u8.wrap (Int.fdiv x1 (2 ^ (min (Int.toNat 32) (IntKind.bits .u64))))) : Int) ∧ ∃ b5, (ByteArray.mk #[0, 1, 2, 2, 3, 3, 3, 3, 4, 4, 4, 4, 4, 4, 4, 4, 5, 5, 5, 5, 5, 5, 5, 5, 5, 5, 5, 5, 5, 5, 5, 5, 6, 6, 6, 6, 6, 6, 6, 6, 6, 6, 6, 6, 6, 6, 6, 6, 6, 6, 6, 6, 6, 6, 6, 6, 6, 6, 6, 6, 6, 6, 6, 6, 7, 7, 7, 7, 7, 7, 7, 7, 7, 7, 7, 7, 7, 7, 7, 7, 7, 7, 7, 7, 7, 7, 7, 7, 7, 7, 7, 7, 7, 7, 7, 7, 7, 7, 7, 7, 7, 7, 7, 7, 7, 7, 7, 7, 7, 7, 7, 7, 7, 7, 7, 7, 7, 7, 7, 7, 7, 7, 7, 7, 7, 7, 7, 7, 8, 8, 8, 8, 8, 8, 8, 8, 8, 8, 8, 8, 8, 8, 8, 8, 8, 8, 8, 8, 8, 8, 8, 8, 8, 8, 8, 8, 8, 8, 8, 8, 8, 8, 8, 8, 8, 8, 8, 8, 8, 8, 8, 8, 8, 8, 8, 8, 8, 8, 8, 8, 8, 8, 8, 8, 8, 8, 8, 8, 8, 8, 8, 8, 8, 8, 8, 8, 8, 8, 8, 8, 8, 8, 8, 8, 8, 8, 8, 8, 8, 8, 8, 8, 8, 8, 8, 8, 8, 8, 8, 8, 8, 8, 8, 8, 8, 8, 8, 8, 8, 8, 8, 8, 8, 8, 8, 8, 8, 8, 8, 8, 8, 8, 8, 8, 8, 8, 8, 8, 8, 8, 8, 8, 8, 8, 8, 8])[Int.toNat (IntKind.u8.wrap (Int.fdiv x1 (2 ^ (min (Int.toNat 32) (IntKind.bits .u64)))))]? = some b5 ∧
  R (.int .i64 (IntKind.i64.wrap ((32 : Int) + (IntKind.i64.wrap (b5.toNat : Int))))) w))) else (
  bif decide (x1 ≥ 65536) then (
  0 ≤ (16 : Int) ∧
  bif decide ((Int.fdiv x1 (2 ^ (min (Int.toNat 16) (IntKind.bits .u64)))) ≥ 256) then (
  0 ≤ (8 : Int) ∧
  0 ≤ ((IntKind.u8.wrap (Int.fdiv (Int.fdiv x1 (2 ^ (min (Int.toNat 16) (IntKind.bits .u64)))) (2 ^ (min (Int.toNat 8) (IntKind.bits .u64))))) : Int) ∧ ∃ b6, (ByteArray.mk #[0, 1, 2, 2, 3, 3, 3, 3, 4, 4, 4, 4, 4, 4, 4, 4, 5, 5, 5, 5, 5, 5, 5, 5, 5, 5, 5, 5, 5, 5, 5, 5, 6, 6, 6, 6, 6, 6, 6, 6, 6, 6, 6, 6, 6, 6, 6, 6, 6, 6, 6, 6, 6, 6, 6, 6, 6, 6, 6, 6, 6, 6, 6, 6, 7, 7, 7, 7, 7, 7, 7, 7, 7, 7, 7, 7, 7, 7, 7, 7, 7, 7, 7, 7, 7, 7, 7, 7, 7, 7, 7, 7, 7, 7, 7, 7, 7, 7, 7, 7, 7, 7, 7, 7, 7, 7, 7, 7, 7, 7, 7, 7, 7, 7, 7, 7, 7, 7, 7, 7, 7, 7, 7, 7, 7, 7, 7, 7, 8, 8, 8, 8, 8, 8, 8, 8, 8, 8, 8, 8, 8, 8, 8, 8, 8, 8, 8, 8, 8, 8, 8, 8, 8, 8, 8, 8, 8, 8, 8, 8, 8, 8, 8, 8, 8, 8, 8, 8, 8, 8, 8, 8, 8, 8, 8, 8, 8, 8, 8, 8, 8, 8, 8, 8, 8, 8, 8, 8, 8, 8, 8, 8, 8, 8, 8, 8, 8, 8, 8, 8, 8, 8, 8, 8, 8, 8, 8, 8, 8, 8, 8, 8, 8, 8, 8, 8, 8, 8, 8, 8, 8, 8, 8, 8, 8, 8, 8, 8, 8, 8, 8, 8, 8, 8, 8, 8, 8, 8, 8, 8, 8, 8, 8, 8, 8, 8, 8, 8, 8, 8, 8, 8, 8, 8, 8, 8])[Int.toNat (IntKind.u8.wrap (Int.fdiv (Int.fdiv x1 (2 ^ (min (Int.toNat 16) (IntKind.bits .u64)))) (2 ^ (min (Int.toNat 8) (IntKind.bits .u64)))))]? = some b6 ∧
  R (.int .i64 (IntKind.i64.wrap ((IntKind.i64.wrap ((IntKind.i64.wrap ((0 : Int) + 16)) + 8)) + (IntKind.i64.wrap (b6.toNat : Int))))) w) else (
  0 ≤ ((IntKind.u8.wrap (Int.fdiv x1 (2 ^ (min (Int.toNat 16) (IntKind.bits .u64))))) : Int) ∧ ∃ b7, (ByteArray.mk #[0, 1, 2, 2, 3, 3, 3, 3, 4, 4, 4, 4, 4, 4, 4, 4, 5, 5, 5, 5, 5, 5, 5, 5, 5, 5, 5, 5, 5, 5, 5, 5, 6, 6, 6, 6, 6, 6, 6, 6, 6, 6, 6, 6, 6, 6, 6, 6, 6, 6, 6, 6, 6, 6, 6, 6, 6, 6, 6, 6, 6, 6, 6, 6, 7, 7, 7, 7, 7, 7, 7, 7, 7, 7, 7, 7, 7, 7, 7, 7, 7, 7, 7, 7, 7, 7, 7, 7, 7, 7, 7, 7, 7, 7, 7, 7, 7, 7, 7, 7, 7, 7, 7, 7, 7, 7, 7, 7, 7, 7, 7, 7, 7, 7, 7, 7, 7, 7, 7, 7, 7, 7, 7, 7, 7, 7, 7, 7, 8, 8, 8, 8, 8, 8, 8, 8, 8, 8, 8, 8, 8, 8, 8, 8, 8, 8, 8, 8, 8, 8, 8, 8, 8, 8, 8, 8, 8, 8, 8, 8, 8, 8, 8, 8, 8, 8, 8, 8, 8, 8, 8, 8, 8, 8, 8, 8, 8, 8, 8, 8, 8, 8, 8, 8, 8, 8, 8, 8, 8, 8, 8, 8, 8, 8, 8, 8, 8, 8, 8, 8, 8, 8, 8, 8, 8, 8, 8, 8, 8, 8, 8, 8, 8, 8, 8, 8, 8, 8, 8, 8, 8, 8, 8, 8, 8, 8, 8, 8, 8, 8, 8, 8, 8, 8, 8, 8, 8, 8, 8, 8, 8, 8, 8, 8, 8, 8, 8, 8, 8, 8, 8, 8, 8, 8, 8, 8])[Int.toNat (IntKind.u8.wrap (Int.fdiv x1 (2 ^ (min (Int.toNat 16) (IntKind.bits .u64)))))]? = some b7 ∧
  R (.int .i64 (IntKind.i64.wrap ((IntKind.i64.wrap ((0 : Int) + 16)) + (IntKind.i64.wrap (b7.toNat : Int))))) w)) else (
  bif decide (x1 ≥ 256) then (
  0 ≤ (8 : Int) ∧
  0 ≤ ((IntKind.u8.wrap (Int.fdiv x1 (2 ^ (min (Int.toNat 8) (IntKind.bits .u64))))) : Int) ∧ ∃ b8, (ByteArray.mk #[0, 1, 2, 2, 3, 3, 3, 3, 4, 4, 4, 4, 4, 4, 4, 4, 5, 5, 5, 5, 5, 5, 5, 5, 5, 5, 5, 5, 5, 5, 5, 5, 6, 6, 6, 6, 6, 6, 6, 6, 6, 6, 6, 6, 6, 6, 6, 6, 6, 6, 6, 6, 6, 6, 6, 6, 6, 6, 6, 6, 6, 6, 6, 6, 7, 7, 7, 7, 7, 7, 7, 7, 7, 7, 7, 7, 7, 7, 7, 7, 7, 7, 7, 7, 7, 7, 7, 7, 7, 7, 7, 7, 7, 7, 7, 7, 7, 7, 7, 7, 7, 7, 7, 7, 7, 7, 7, 7, 7, 7, 7, 7, 7, 7, 7, 7, 7, 7, 7, 7, 7, 7, 7, 7, 7, 7, 7, 7, 8, 8, 8, 8, 8, 8, 8, 8, 8, 8, 8, 8, 8, 8, 8, 8, 8, 8, 8, 8, 8, 8, 8, 8, 8, 8, 8, 8, 8, 8, 8, 8, 8, 8, 8, 8, 8, 8, 8, 8, 8, 8, 8, 8, 8, 8, 8, 8, 8, 8, 8, 8, 8, 8, 8, 8, 8, 8, 8, 8, 8, 8, 8, 8, 8, 8, 8, 8, 8, 8, 8, 8, 8, 8, 8, 8, 8, 8, 8, 8, 8, 8, 8, 8, 8, 8, 8, 8, 8, 8, 8, 8, 8, 8, 8, 8, 8, 8, 8, 8, 8, 8, 8, 8, 8, 8, 8, 8, 8, 8, 8, 8, 8, 8, 8, 8, 8, 8, 8, 8, 8, 8, 8, 8, 8, 8, 8, 8])[Int.toNat (IntKind.u8.wrap (Int.fdiv x1 (2 ^ (min (Int.toNat 8) (IntKind.bits .u64)))))]? = some b8 ∧
  R (.int .i64 (IntKind.i64.wrap ((IntKind.i64.wrap ((0 : Int) + 8)) + (IntKind.i64.wrap (b8.toNat : Int))))) w) else (
  0 ≤ ((IntKind.u8.wrap x1) : Int) ∧ ∃ b9, (ByteArray.mk #[0, 1, 2, 2, 3, 3, 3, 3, 4, 4, 4, 4, 4, 4, 4, 4, 5, 5, 5, 5, 5, 5, 5, 5, 5, 5, 5, 5, 5, 5, 5, 5, 6, 6, 6, 6, 6, 6, 6, 6, 6, 6, 6, 6, 6, 6, 6, 6, 6, 6, 6, 6, 6, 6, 6, 6, 6, 6, 6, 6, 6, 6, 6, 6, 7, 7, 7, 7, 7, 7, 7, 7, 7, 7, 7, 7, 7, 7, 7, 7, 7, 7, 7, 7, 7, 7, 7, 7, 7, 7, 7, 7, 7, 7, 7, 7, 7, 7, 7, 7, 7, 7, 7, 7, 7, 7, 7, 7, 7, 7, 7, 7, 7, 7, 7, 7, 7, 7, 7, 7, 7, 7, 7, 7, 7, 7, 7, 7, 8, 8, 8, 8, 8, 8, 8, 8, 8, 8, 8, 8, 8, 8, 8, 8, 8, 8, 8, 8, 8, 8, 8, 8, 8, 8, 8, 8, 8, 8, 8, 8, 8, 8, 8, 8, 8, 8, 8, 8, 8, 8, 8, 8, 8, 8, 8, 8, 8, 8, 8, 8, 8, 8, 8, 8, 8, 8, 8, 8, 8, 8, 8, 8, 8, 8, 8, 8, 8, 8, 8, 8, 8, 8, 8, 8, 8, 8, 8, 8, 8, 8, 8, 8, 8, 8, 8, 8, 8, 8, 8, 8, 8, 8, 8, 8, 8, 8, 8, 8, 8, 8, 8, 8, 8, 8, 8, 8, 8, 8, 8, 8, 8, 8, 8, 8, 8, 8, 8, 8, 8, 8, 8, 8, 8, 8, 8, 8])[Int.toNat (IntKind.u8.wrap x1)]? = some b9 ∧
  R (.int .i64 (IntKind.i64.wrap ((0 : Int) + (IntKind.i64.wrap (b9.toNat : Int))))) w)))

theorem bLen64.eq (x1 : Int) (R : Value → World → Prop) (w : World) : mfunc Try.prog [] 67 [.int .u64 x1] R w = bLen64.M x1 R w := by kernel_rfl
theorem bLen64.ok (x1 : Int) {R : Value → World → Prop} {w : World} (h : bLen64.M x1 R w) : Calls Try.prog 67 #[.int .u64 x1] w fun e w' => ∃ v, e = .returned v ∧ R v w' :=
  mfunc_ok follows (H := []) (args := [.int .u64 x1]) (by rw [bLen64.eq]; exact h)

def tab8 : ByteArray := ByteArray.mk #[0, 1, 2, 2, 3, 3, 3, 3, 4, 4, 4, 4, 4, 4, 4, 4, 5, 5, 5, 5, 5, 5, 5, 5, 5, 5, 5, 5, 5, 5, 5, 5, 6, 6, 6, 6, 6, 6, 6, 6, 6, 6, 6, 6, 6, 6, 6, 6, 6, 6, 6, 6, 6, 6, 6, 6, 6, 6, 6, 6, 6, 6, 6, 6, 7, 7, 7, 7, 7, 7, 7, 7, 7, 7, 7, 7, 7, 7, 7, 7, 7, 7, 7, 7, 7, 7, 7, 7, 7, 7, 7, 7, 7, 7, 7, 7, 7, 7, 7, 7, 7, 7, 7, 7, 7, 7, 7, 7, 7, 7, 7, 7, 7, 7, 7, 7, 7, 7, 7, 7, 7, 7, 7, 7, 7, 7, 7, 7, 8, 8, 8, 8, 8, 8, 8, 8, 8, 8, 8, 8, 8, 8, 8, 8, 8, 8, 8, 8, 8, 8, 8, 8, 8, 8, 8, 8, 8, 8, 8, 8, 8, 8, 8, 8, 8, 8, 8, 8, 8, 8, 8, 8, 8, 8, 8, 8, 8, 8, 8, 8, 8, 8, 8, 8, 8, 8, 8, 8, 8, 8, 8, 8, 8, 8, 8, 8, 8, 8, 8, 8, 8, 8, 8, 8, 8, 8, 8, 8, 8, 8, 8, 8, 8, 8, 8, 8, 8, 8, 8, 8, 8, 8, 8, 8, 8, 8, 8, 8, 8, 8, 8, 8, 8, 8, 8, 8, 8, 8, 8, 8, 8, 8, 8, 8, 8, 8, 8, 8, 8, 8, 8, 8, 8, 8, 8, 8]
theorem tab8_at {b : Nat} (hb : b < 256) : ∃ v, tab8[b]? = some v ∧ v.toNat ≤ 8 ∧ (6 < v.toNat ↔ 64 ≤ b) := by
  have key : ∀ m : Fin 256, (tab8[m.val]?).isSome = true ∧ ((tab8[m.val]?).getD 0).toNat ≤ 8 ∧ (6 < ((tab8[m.val]?).getD 0).toNat ↔ 64 ≤ m.val) := by decide +kernel
  obtain ⟨k1, k2, k3⟩ := key ⟨b, hb⟩
  simp only at k1 k2 k3
  obtain ⟨v, hv⟩ := Option.isSome_iff_exists.1 k1
  rw [hv] at k2 k3
  exact ⟨v, hv, k2, k3⟩
theorem shr_nat (n k : Nat) (hk : k ≤ 64) : Int.fdiv (n : Int) (2 ^ (min k (IntKind.bits .u64))) = ((n / 2 ^ k : Nat) : Int) := by
  rw [show min k (IntKind.bits .u64) = k by rw [show IntKind.bits .u64 = 64 from rfl]; omega, Int.fdiv_eq_ediv_of_nonneg _ (Int.le_of_lt (Int.pow_pos (by decide))), Int.natCast_ediv, Int.natCast_pow]
  rfl
section
variable {w w' : World} {p : Nat} {bs : List UInt8} {k : Int}
/-- so many bits: more than 62 just if it is so great. -/
theorem len64_spec {n : Nat} (hn : n < 18446744073709551616) : Calls Try.prog 67 #[.int .u64 n] w (fun e w' => ∃ L : Int, e = .returned (.int .i64 L) ∧ (L > 62 ↔ 4611686018427387904 ≤ n) ∧ w' = w) := by
  refine (bLen64.ok _ (R := fun v w' => ∃ L : Int, v = .int .i64 L ∧ (L > 62 ↔ 4611686018427387904 ≤ n) ∧ w' = w) ?_).mono fun e w' ⟨v, he, L, hv, hw⟩ => ⟨L, by rw [he, hv], hw⟩
  unfold bLen64.M
  -- the last step, once the number is below 256
  have last : ∀ (m : Nat) (s : Int), m < 256 → 0 ≤ s → s ≤ 56 → ((s = 56 ∧ m = n / 72057594037927936) ∨ (s ≤ 48 ∧ n < 72057594037927936)) → ∀ x : Int, x = (m : Int) →
      0 ≤ (IntKind.u8.wrap x) ∧ ∃ b, tab8[Int.toNat (IntKind.u8.wrap x)]? = some b ∧ ∃ L : Int, Value.int .i64 (IntKind.i64.wrap (s + IntKind.i64.wrap (b.toNat : Int))) = .int .i64 L ∧ (L > 62 ↔ 4611686018427387904 ≤ n) ∧ True := fun m s hm hs hs2 hcase x hx => by
    subst hx
    rw [wu8 (by omega) (by omega), Int.toNat_natCast]
    obtain ⟨v, h1, h2, h3⟩ := tab8_at hm
    refine ⟨by omega, v, h1, s + v.toNat, ?_, ?_, trivial⟩
    · rw [w64 (n := (v.toNat : Int)) (by omega) (by omega), w64 (by omega) (by omega)]
    · rcases hcase with ⟨rfl, rfl⟩ | ⟨q1, q2⟩
      · constructor
        · intro h; have := h3.1 (by omega); omega
        · intro h; have := h3.2 (by omega); omega
      · constructor
        · intro h; omega
        · intro h; omega
  have h32 := shr_nat n 32 (by decide)
  have h16 := shr_nat n 16 (by decide)
  have h8 := shr_nat n 8 (by decide)
  have e32 : Int.fdiv (n : Int) (2 ^ (min (Int.toNat 32) (IntKind.bits .u64))) = ((n / 4294967296 : Nat) : Int) := h32
  have e16 : Int.fdiv (n : Int) (2 ^ (min (Int.toNat 16) (IntKind.bits .u64))) = ((n / 65536 : Nat) : Int) := h16
  have e8 : Int.fdiv (n : Int) (2 ^ (min (Int.toNat 8) (IntKind.bits .u64))) = ((n / 256 : Nat) : Int) := h8
  have f16 : ∀ m : Nat, Int.fdiv (m : Int) (2 ^ (min (Int.toNat 16) (IntKind.bits .u64))) = ((m / 65536 : Nat) : Int) := fun m => shr_nat m 16 (by decide)
  have f8 : ∀ m : Nat, Int.fdiv (m : Int) (2 ^ (min (Int.toNat 8) (IntKind.bits .u64))) = ((m / 256 : Nat) : Int) := fun m => shr_nat m 8 (by decide)
  rw [e32]
  simp only [f16, f8]
  by_cases c1 : (n : Int) ≥ 4294967296
  · rw [decide_eq_true c1, cond_true]
    refine ⟨by decide, ?_⟩
    by_cases c2 : ((n / 4294967296 : Nat) : Int) ≥ 65536
    · rw [decide_eq_true c2, cond_true]
      refine ⟨by decide, ?_⟩
      by_cases c3 : ((n / 4294967296 / 65536 : Nat) : Int) ≥ 256
      · rw [decide_eq_true c3, cond_true]
        exact ⟨by decide, last (n / 4294967296 / 65536 / 256) _ (by omega) (by decide) (by decide) (.inl ⟨by decide, by omega⟩) _ rfl⟩
      · rw [decide_eq_false c3, cond_false]
        exact last (n / 4294967296 / 65536) _ (by omega) (by decide) (by decide) (.inr ⟨by decide, by omega⟩) _ rfl
    · rw [decide_eq_false c2, cond_false]
      by_cases c3 : ((n / 4294967296 : Nat) : Int) ≥ 256
      · rw [decide_eq_true c3, cond_true]
        exact ⟨by decide, last (n / 4294967296 / 256) _ (by omega) (by decide) (by decide) (.inr ⟨by decide, by omega⟩) _ rfl⟩
      · rw [decide_eq_false c3, cond_false]
        exact last (n / 4294967296) _ (by omega) (by decide) (by decide) (.inr ⟨by decide, by omega⟩) _ rfl
  · rw [decide_eq_false c1, cond_false]
    by_cases c2 : (n : Int) ≥ 65536
    · rw [decide_eq_true c2, cond_true]
      refine ⟨by decide, ?_⟩
      by_cases c3 : ((n / 65536 : Nat) : Int) ≥ 256
      · rw [decide_eq_true c3, cond_true]
        exact ⟨by decide, last (n / 65536 / 256) _ (by omega) (by decide) (by decide) (.inr ⟨by decide, by omega⟩) _ rfl⟩
      · rw [decide_eq_false c3, cond_false]
        exact last (n / 65536) _ (by omega) (by decide) (by decide) (.inr ⟨by decide, by omega⟩) _ rfl
    · rw [decide_eq_false c2, cond_false]
      by_cases c3 : (n : Int) ≥ 256
      · rw [decide_eq_true c3, cond_true]
        exact ⟨by decide, last (n / 256) _ (by omega) (by decide) (by decide) (.inr ⟨by decide, by omega⟩) _ rfl⟩
      · rw [decide_eq_false c3, cond_false]
        exact last n _ (by omega) (by decide) (by decide) (.inr ⟨by decide, by omega⟩) _ rfl

/-- Num of a reader: the number, and what the reader then has. -/
def numR (s : List UInt8 × Int) : Nat × (List UInt8 × Int) :=
  if s.2 = 0 then (match rdNum s.1 with | some (n, r) => (n, (r, 0)) | none => (0, ([], 4))) else (0, s)
theorem numR_lt (s : List UInt8 × Int) : (numR s).1 < 18446744073709551616 := by
  unfold numR
  split
  · cases h : rdNum s.1 with
    | none => exact (by decide : 0 < 18446744073709551616)
    | some q => obtain ⟨n, r⟩ := q; exact (rd_back h).2
  · exact (by decide : 0 < 18446744073709551616)
theorem rdNum_len {bs r : List UInt8} {n : Nat} (h : rdNum bs = some (n, r)) : r.length ≤ bs.length := by
  obtain ⟨h1, _⟩ := rd_back h
  rw [h1]; simp
theorem numR_len (s : List UInt8 × Int) : (numR s).2.1.length ≤ s.1.length := by
  unfold numR
  split
  · cases h : rdNum s.1 with
    | none => simp
    | some q => obtain ⟨n, r⟩ := q; exact rdNum_len h
  · exact Nat.le_refl _
theorem RNum_spec (h : Rd w p bs k) (hl : bs.length < 1000000) :
    Calls Try.prog 65 #[.pointer (some (blk p))] w (GivesW (.int .u64 (numR (bs, k)).1) fun w' => Rd w' p (numR (bs, k)).2.1 (numR (bs, k)).2.2 ∧ Ext (fun b => b = p) w w') := by
  refine (wRNum.ok _ (R := fun v w' => v = .int .u64 (numR (bs, k)).1 ∧ Rd w' p (numR (bs, k)).2.1 (numR (bs, k)).2.2 ∧ Ext (fun b => b = p) w w') ?_).mono fun e w' ⟨v, he, hv, hw⟩ => ⟨by rw [he, hv], hw⟩
  unfold wRNum.M
  refine (ok_spec h).mono fun e w4 ⟨he, hw⟩ => ⟨_, he, ?_⟩
  subst hw
  by_cases hk : k = 0
  · subst hk
    rw [show ((0 : Int) == 0) = true from rfl, Bool.not_true, cond_false]
    refine (width_spec h hl).mono fun e w7 ⟨he, hw⟩ => ⟨_, he, ?_⟩
    subst hw
    by_cases hz : widthF 0 bs = 0
    · rw [show ((widthF 0 bs : Int) == 0) = true by rw [beq_iff_eq]; omega, cond_true]
      have hn : numR (bs, 0) = (0, ([], 4)) := by unfold numR rdNum; simp [hz]
      rw [hn]
      exact (fail_spec h 4).mono fun e w9 ⟨he, hr, hx⟩ => ⟨he, rfl, hr, hx⟩
    · rw [show ((widthF 0 bs : Int) == 0) = false by rw [beq_eq_false_iff_ne]; omega, cond_false]
      obtain ⟨q1, q2, q3, q4, _⟩ := width_back bs 0 (by omega) hz
      simp only [Nat.sub_zero] at q2 q3 q4
      generalize hW : widthF 0 bs = W at *
      have hn : numR (bs, 0) = (valW (bs.take W), (bs.drop W, 0)) := by unfold numR rdNum; simp [hW, hz]
      have hW10 : W ≤ 10 := by
        have h1 := numF_le 10 (valW (bs.take W))
        rw [q3, List.length_take] at h1; omega
      obtain ⟨a, c, h1, h2, h3, h4⟩ := h
      refine ⟨fun j vs w1 => ∃ t : Nat, vs = [.int .u64 (valW (bs.take t)), .int .i64 t] ∧ j + t = W ∧ w1 = w7, W, ⟨0, rfl, rfl, rfl⟩, ?_⟩
      rintro j w1 n0 i ⟨t, hi, hj, rfl⟩
      simp only [List.cons.injEq, Value.int.injEq, true_and, and_true] at hi
      obtain ⟨rfl, rfl⟩ := hi
      cases j with
      | zero =>
        obtain rfl : t = W := by omega
        rw [show decide ((t : Int) < (t : Int)) = false by simp, cond_false]
        refine ⟨a, bs.length, c, h1.cella (i := 0) rfl, by omega, by omega, h1.cana (i := 0) rfl, thenW_in fun w23 h23 => ?_⟩
        rw [Int.toNat_natCast, Nat.mul_one, add_zero] at h23
        have hb := h1.seta 0 (.slice (if c = t then a else Option.map (fun z : Addr => z.add t) a) (bs.length - t) (c - t))
        rw [← h23] at hb
        have hx : Ext (fun b => b = p) w1 w23 := by subst h23; exact (Ext.refl (fun b => b = p) w1).setCell (a := (blk p).add 0) (.inl rfl) _
        have hdl : (bs.drop t).length = bs.length - t := List.length_drop
        have hrow := h3.drop t c (fun e => by rw [bytesV_length]; omega)
        rw [hn]
        refine ⟨rfl, ⟨_, c - t, by rw [hdl]; exact hb, by rw [hdl]; omega, ?_, fun h0 ad ha => ?_⟩, hx⟩
        · rw [show bytesV (bs.drop t) = (bytesV bs).drop t by simp [bytesV]]
          refine hrow.ext' hx fun h0 ad ha hq => ?_
          split at ha
          · have := h4 (fun e => h0 (by rw [e]; simp)) ad ha; omega
          · obtain ⟨b0, hb0, rfl⟩ := Option.map_eq_some_iff.1 ha
            rw [block_add] at hq
            have := h4 (fun e => h0 (by rw [e]; simp)) b0 hb0; omega
        · split at ha
          · exact h4 (fun e => h0 (by rw [bytesV, List.map_drop, show List.map u8V bs = [] from e]; simp)) ad ha
          · obtain ⟨b0, hb0, rfl⟩ := Option.map_eq_some_iff.1 ha
            rw [block_add]; exact h4 (fun e => h0 (by rw [bytesV, List.map_drop, show List.map u8V bs = [] from e]; simp)) b0 hb0
      | succ j =>
        have ht : t < W := by omega
        have htl : t < bs.length := by omega
        rw [show decide ((t : Int) < (W : Int)) = true by simp; omega, cond_true]
        obtain ⟨ad, rfl⟩ := h3.addr (by intro e; rw [bytesV, List.map_eq_nil_iff] at e; subst e; simp at htl)
        have e7 : IntKind.i64.wrap ((7 : Int) * (t : Int)) = ((7 * t : Nat) : Int) := by rw [w64 (by omega) (by omega)]; omega
        have hx := u8_lt bs[t]
        have hvt := valW_lt (bs.take t)
        have htk : (bs.take t).length = t := by simp; omega
        rw [htk] at hvt
        have hsn : bs.take (t + 1) = bs.take t ++ [bs[t]] := by rw [List.take_add_one]; simp [htl]
        have hvs := valW_snoc (bs.take t) bs[t]
        rw [← hsn, htk] at hvs
        have hle : valW (bs.take (t + 1)) ≤ valW (bs.take W) := by
          have := valW_append_le (bs.take (t + 1)) ((bs.take W).drop (t + 1))
          rw [show bs.take (t + 1) = (bs.take W).take (t + 1) by rw [List.take_take, Nat.min_eq_left (by omega)], List.take_append_drop] at this
          rw [List.take_take, Nat.min_eq_left (by omega)] at this
          exact this
        refine ⟨_, _, _, h1.cella (i := 0) rfl, by omega, by omega, _, by rw [Int.toNat_natCast, Nat.mul_one]; exact h3.at_ (bytesV_get htl), by omega, j, by omega, t + 1, ?_, by omega, rfl⟩
        rw [e7, Int.toNat_natCast, and127 hx, wu64 (n := ((bs[t].toNat % 128 : Nat) : Int)) (by omega) (by omega), or_shift hvt (by omega) (by omega) (by omega), ← hvs, w64 (by omega) (by omega)]
        rfl
  · rw [beq_eq_false_iff_ne.2 hk, Bool.not_false, cond_true]
    have hn : numR (bs, k) = (0, (bs, k)) := by unfold numR; rw [if_neg hk]
    rw [hn]
    exact ⟨rfl, h, Ext.refl _ _⟩

/-- Count: a number that is not above so much. -/
def countR (m : Int) (s : List UInt8 × Int) : Nat × (List UInt8 × Int) :=
  if (numR s).2.2 = 0 then (if m < 0 ∨ ((numR s).1 : Int) > m then (0, ([], 3)) else numR s) else (0, (numR s).2)
theorem countR_len (m : Int) (s : List UInt8 × Int) : (countR m s).2.1.length ≤ s.1.length := by
  have := numR_len s
  unfold countR
  split
  · split
    · simp
    · exact this
  · exact this
theorem Count_spec (h : Rd w p bs k) (hl : bs.length < 1000000) {m : Int} (hm : m < 4611686018427387904) :
    Calls Try.prog 47 #[.pointer (some (blk p)), .int .i64 m] w (GivesW (.int .i64 (countR m (bs, k)).1) fun w' => Rd w' p (countR m (bs, k)).2.1 (countR m (bs, k)).2.2 ∧ Ext (fun b => b = p) w w') := by
  refine (wCount.ok _ _ (R := fun v w' => v = .int .i64 (countR m (bs, k)).1 ∧ Rd w' p (countR m (bs, k)).2.1 (countR m (bs, k)).2.2 ∧ Ext (fun b => b = p) w w') ?_).mono fun e w' ⟨v, he, hv, hw⟩ => ⟨by rw [he, hv], hw⟩
  unfold wCount.M
  have hlt := numR_lt (bs, k)
  refine (RNum_spec h hl).mono fun e w5 ⟨he, hr5, hx5⟩ => ⟨_, he, ?_⟩
  refine (ok_spec hr5).mono fun e w8 ⟨he, hw⟩ => ⟨_, he, ?_⟩
  subst hw
  unfold countR
  generalize numR (bs, k) = s at *
  obtain ⟨n, bs', k'⟩ := s
  simp only at *
  by_cases hk : k' = 0
  · subst hk
    rw [if_pos rfl, show ((0 : Int) == 0) = true from rfl, Bool.not_true, cond_false]
    by_cases hm0 : m < 0
    · rw [decide_eq_true hm0, cond_true, if_pos (.inl hm0)]
      exact (fail_spec hr5 3).mono fun e w9 ⟨he, hr, hx⟩ => ⟨he, rfl, hr, hx5.trans hx⟩
    · rw [decide_eq_false hm0, cond_false]
      refine (len64_spec hlt).mono fun e w13 ⟨L, he, hL, hw⟩ => ⟨_, he, ?_⟩
      subst hw
      by_cases c1 : L > 62
      · rw [decide_eq_true c1, cond_true, if_pos (.inr (by have := hL.1 c1; omega))]
        exact (fail_spec hr5 3).mono fun e w9 ⟨he, hr, hx⟩ => ⟨he, rfl, hr, hx5.trans hx⟩
      · have hn62 : n < 4611686018427387904 := Decidable.byContradiction fun h => c1 (hL.2 (by omega))
        rw [decide_eq_false c1, cond_false, w64 (n := (n : Int)) (by omega) (by omega)]
        by_cases c2 : (n : Int) > m
        · rw [decide_eq_true c2, cond_true, if_pos (.inr c2)]
          exact (fail_spec hr5 3).mono fun e w9 ⟨he, hr, hx⟩ => ⟨he, rfl, hr, hx5.trans hx⟩
        · rw [decide_eq_false c2, cond_false, if_neg (fun h => h.elim hm0 c2)]
          exact ⟨rfl, hr5, hx5⟩
  · rw [if_neg hk, beq_eq_false_iff_ne.2 hk, Bool.not_false, cond_true]
    exact ⟨rfl, hr5, hx5⟩
def doneR (s : List UInt8 × Int) : Int := if s.2 = 0 then (if s.1.length > 0 then 4 else 0) else s.2
theorem Done_spec (h : Rd w p bs k) : Calls Try.prog 49 #[.pointer (some (blk p))] w (GivesW (.int .i64 (doneR (bs, k))) fun w' => w' = w) := by
  refine (wDone.ok _ (R := fun v w' => v = .int .i64 (doneR (bs, k)) ∧ w' = w) ?_).mono fun e w' ⟨v, he, hv, hw⟩ => ⟨by rw [he, hv], hw⟩
  unfold wDone.M
  rw [Option.isNone_some, cond_false]
  refine (ok_spec h).mono fun e w4 ⟨he, hw⟩ => ⟨_, he, ?_⟩
  subst hw
  obtain ⟨a, c, h1, h2, h3, h4⟩ := h
  unfold doneR
  by_cases hk : k = 0
  · subst hk
    rw [show ((0 : Int) == 0) = true from rfl, cond_true, if_pos rfl]
    refine ⟨_, _, _, h1.cella (i := 0) rfl, ?_⟩
    by_cases hb : bs.length > 0
    · rw [decide_eq_true (by omega : (bs.length : Int) > 0), cond_true, if_pos hb]; exact ⟨rfl, rfl⟩
    · rw [decide_eq_false (by omega : ¬ (bs.length : Int) > 0), cond_false, if_neg hb]
      exact ⟨_, h1.cella (i := 1) rfl, rfl, rfl⟩
  · rw [beq_eq_false_iff_ne.2 hk, cond_false, if_neg hk]
    exact ⟨_, h1.cella (i := 1) rfl, rfl, rfl⟩
end
end Go.Proofs.Ytmhfoieeldiecaa.W

/- Wire: whole numbers with a sign, bytes with their length. -/
set_option linter.unusedVariables false
set_option linter.unusedSimpArgs false
set_option maxRecDepth 20000
namespace Go.Proofs.Ytmhfoieeldiecaa.W
open Go Go.Mx Go.Proofs
/-- wire.Bytes -/
def wBytes.M (b1a : Option Addr) (b1n : Nat) (b1c : Nat) (x2a : Option Addr) (x2n : Nat) (x2c : Nat) (R : Value → World → Prop) (w : World) : Prop :=
  Calls Try.prog 41 #[.slice b1a b1n b1c, .int .u64 (IntKind.u64.wrap (x2n : Int))] w fun ee4 ww5 => ∃ (num3a : Option Addr) (num3n : Nat) (num3c : Nat), ee4 = .returned (.slice num3a num3n num3c) ∧
  ∃ (a6a : Option Addr) (a6n : Nat) (a6c : Nat) (ww7 : World), (Builtin.append_ #[34, 34] 34 #[.slice num3a num3n num3c, .slice x2a x2n x2c]).run Try.prog ww5 = .ok (.slice a6a a6n a6c) ww7 ∧
  R (.slice a6a a6n a6c) ww7

theorem wBytes.eq (b1a : Option Addr) (b1n : Nat) (b1c : Nat) (x2a : Option Addr) (x2n : Nat) (x2c : Nat) (R : Value → World → Prop) (w : World) : mfunc Try.prog [] 42 [.slice b1a b1n b1c, .slice x2a x2n x2c] R w = wBytes.M b1a b1n b1c x2a x2n x2c R w := by kernel_rfl
theorem wBytes.ok (b1a : Option Addr) (b1n : Nat) (b1c : Nat) (x2a : Option Addr) (x2n : Nat) (x2c : Nat) {R : Value → World → Prop} {w : World} (h : wBytes.M b1a b1n b1c x2a x2n x2c R w) : Calls Try.prog 42 #[.slice b1a b1n b1c, .slice x2a x2n x2c] w fun e w' => ∃ v, e = .returned v ∧ R v w' :=
  mfunc_ok follows (H := []) (args := [.slice b1a b1n b1c, .slice x2a x2n x2c]) (by rw [wBytes.eq]; exact h)

/-- a number with a sign, as one without. -/
def zig (n : Int) : Nat := if 0 ≤ n then (2 * n).toNat else (-2 * n - 1).toNat
def unzig (m : Nat) : Int := if m % 2 = 0 then (m / 2 : Nat) else -((m / 2 : Nat) : Int) - 1
section
variable {w w' : World} {a : Option Addr} {c N p : Nat} {bs : List UInt8} {k : Int}
theorem Bytes_spec (h : RowAt w a (bytesV bs)) (hl : bs.length ≤ 1000000) {xa : Option Addr} {xc : Nat} {xs : List UInt8} (hx : RowAt w xa (bytesV xs)) (hxl : xs.length ≤ 1000000) :
    Calls Try.prog 42 #[.slice a bs.length c, .slice xa xs.length xc] w (fun e w' => ∃ a' c', e = .returned (.slice a' (bs ++ numL xs.length ++ xs).length c') ∧ OwnB w.heap.size w' a' c' (bs ++ numL xs.length ++ xs) ∧ Ext no w w') := by
  refine (wBytes.ok _ _ _ _ _ _ (R := fun v w' => ∃ a' c', v = (.slice a' (bs ++ numL xs.length ++ xs).length c') ∧ OwnB w.heap.size w' a' c' (bs ++ numL xs.length ++ xs) ∧ Ext no w w') ?_).mono fun e w' ⟨v, he, a', c', hv, hw⟩ => ⟨a', c', by rw [he, hv], hw⟩
  unfold wBytes.M
  rw [wu64 (n := (xs.length : Int)) (by omega) (by omega)]
  refine (Num_spec h hl (by omega)).mono fun e w5 ⟨a5, c5, he, hO, hx5⟩ => ⟨a5, _, c5, he, ?_⟩
  have hnl : (numL xs.length).length ≤ 10 := numF_le 10 _
  obtain ⟨a', c', w7, hr, hO7, hx7⟩ := hO.append (t := 34) (ty := 34) Try.underlying34 hx5.size (xc := xc) (hx.no hx5) (by rw [List.length_append]; omega)
  exact ⟨a', _, c', w7, hr, a', c', rfl, hO7, hx5.then hx7 fun b hb => .inr hb⟩
def intR (s : List UInt8 × Int) : Int × (List UInt8 × Int) := (unzig (numR s).1, (numR s).2)
end
end Go.Proofs.Ytmhfoieeldiecaa.W

/- The reference's numbers, bytes and reader; bytes held beside each other. -/
set_option linter.unusedVariables false
set_option linter.unusedSimpArgs false
set_option maxRecDepth 20000
namespace Go.Proofs.Ytmhfoieeldiecaa.W
open Go Go.Mx Go.Proofs
/-- cachetteref01.Same -/
def wSame.M (a1a : Option Addr) (a1n : Nat) (a1c : Nat) (b2a : Option Addr) (b2n : Nat) (b2c : Nat) (R : Value → World → Prop) (w : World) : Prop :=
  bif (a1n : Int) != (b2n : Int) then (
  R (.bool false) w) else (
  ∃ (I0 : Nat → List Value → World → Prop) (m4 : Nat), I0 m4 [.int .i64 0] w ∧ ∀ (m5 : Nat) (ww6 : World) (i3 : Int), I0 m5 [.int .i64 i3] ww6 →
  bif decide (i3 < (a1n : Int)) then (
  thenW (ww6.drew) fun ww7 =>
  a1a.elim False fun a8 =>
  0 ≤ (i3 : Int) ∧ (i3 : Int) < (a1n : Int) ∧
  ∃ (x9 : Int), ww7.cell? (a8.add (Int.toNat i3 * 1)) = some (.int .u8 x9) ∧
  b2a.elim False fun a10 =>
  0 ≤ (i3 : Int) ∧ (i3 : Int) < (b2n : Int) ∧
  ∃ (x11 : Int), ww7.cell? (a10.add (Int.toNat i3 * 1)) = some (.int .u8 x11) ∧
  bif x9 != x11 then (
  R (.bool false) ww7) else (
  ∃ m12, m12 < m5 ∧ I0 m12 [.int .i64 (IntKind.i64.wrap (i3 + 1))] ww7)) else (
  R (.bool true) ww6))

theorem wSame.eq (a1a : Option Addr) (a1n : Nat) (a1c : Nat) (b2a : Option Addr) (b2n : Nat) (b2c : Nat) (R : Value → World → Prop) (w : World) : mfunc Try.prog [(0, [0, 1], [(5, (.one (.int .i64)))])] 33 [.slice a1a a1n a1c, .slice b2a b2n b2c] R w = wSame.M a1a a1n a1c b2a b2n b2c R w := by kernel_rfl
theorem wSame.ok (a1a : Option Addr) (a1n : Nat) (a1c : Nat) (b2a : Option Addr) (b2n : Nat) (b2c : Nat) {R : Value → World → Prop} {w : World} (h : wSame.M a1a a1n a1c b2a b2n b2c R w) : Calls Try.prog 33 #[.slice a1a a1n a1c, .slice b2a b2n b2c] w fun e w' => ∃ v, e = .returned v ∧ R v w' :=
  mfunc_ok follows (H := [(0, [0, 1], [(5, (.one (.int .i64)))])]) (args := [.slice a1a a1n a1c, .slice b2a b2n b2c]) (by rw [wSame.eq]; exact h)

/-- cachetteref01.Num -/
def rNum.M (n1 : Int) (R : Value → World → Prop) (w : World) : Prop :=
  bif decide (n1 < 128) then (
  thenW (w.alloc (.cells #[.int .u8 (IntKind.u8.wrap n1)] 5)) fun ww2 =>
  R (.slice (some (blk w.heap.size)) 1 1) ww2) else (
  128 ≠ (0 : Int) ∧ thenW (w.alloc (.cells #[.int .u8 (IntKind.u8.wrap ((IntKind.u8.wrap (Int.tmod n1 128)) + 128))] 5)) fun ww3 =>
  128 ≠ (0 : Int) ∧ Calls Try.prog 44 #[.int .u64 (IntKind.u64.wrap (Int.tdiv n1 128))] ww3 fun ee5 ww6 => ∃ (num4a : Option Addr) (num4n : Nat) (num4c : Nat), ee5 = .returned (.slice num4a num4n num4c) ∧
  ∃ (a7a : Option Addr) (a7n : Nat) (a7c : Nat) (ww8 : World), (Builtin.append_ #[34, 34] 34 #[.slice (some (blk w.heap.size)) 1 1, .slice num4a num4n num4c]).run Try.prog ww6 = .ok (.slice a7a a7n a7c) ww8 ∧
  R (.slice a7a a7n a7c) ww8)

theorem rNum.eq (n1 : Int) (R : Value → World → Prop) (w : World) : mfunc Try.prog [] 44 [.int .u64 n1] R w = rNum.M n1 R w := by kernel_rfl
theorem rNum.ok (n1 : Int) {R : Value → World → Prop} {w : World} (h : rNum.M n1 R w) : Calls Try.prog 44 #[.int .u64 n1] w fun e w' => ∃ v, e = .returned v ∧ R v w' :=
  mfunc_ok follows (H := []) (args := [.int .u64 n1]) (by rw [rNum.eq]; exact h)

/-- (*cachetteref01.Reader).Num -/
def rRNum.M (r1 : Option Addr) (R : Value → World → Prop) (w : World) : Prop :=
  r1.elim False fun a2 =>
  ∃ (Kv3 : Int), w.cell? (a2.add 1) = some (.int .i64 Kv3) ∧
  bif Kv3 != 0 then (
  R (.int .u64 0) w) else (
  ∃ (I0 : Nat → List Value → World → Prop) (m5 : Nat), I0 m5 [.int .i64 0] w ∧ ∀ (m6 : Nat) (ww7 : World) (n4 : Int), I0 m6 [.int .i64 n4] ww7 →
  r1.elim False fun a8 =>
  ∃ (B9a : Option Addr) (B9n : Nat) (B9c : Nat), ww7.cell? (a8.add 0) = some (.slice B9a B9n B9c) ∧
  bif decide (n4 < (B9n : Int)) then (
  bif decide (n4 < 10) then (
  r1.elim False fun a10 =>
  ∃ (B11a : Option Addr) (B11n : Nat) (B11c : Nat), ww7.cell? (a10.add 0) = some (.slice B11a B11n B11c) ∧
  B11a.elim False fun a12 =>
  0 ≤ (n4 : Int) ∧ (n4 : Int) < (B11n : Int) ∧
  ∃ (x13 : Int), ww7.cell? (a12.add (Int.toNat n4 * 1)) = some (.int .u8 x13) ∧
  bif decide (x13 ≥ 128) then (
  ∃ m14, m14 < m6 ∧ I0 m14 [.int .i64 (IntKind.i64.wrap (n4 + 1))] ww7) else (
  r1.elim False fun a15 =>
  ∃ (B16a : Option Addr) (B16n : Nat) (B16c : Nat), ww7.cell? (a15.add 0) = some (.slice B16a B16n B16c) ∧
  bif decide (n4 ≥ (B16n : Int)) then (
  Calls Try.prog 73 #[.pointer r1, .int .i64 4] ww7 fun ee17 ww18 => ee17 = .returned (.tuple #[]) ∧
  R (.int .u64 0) ww18) else (
  bif decide (n4 ≥ 10) then (
  Calls Try.prog 73 #[.pointer r1, .int .i64 4] ww7 fun ee19 ww20 => ee19 = .returned (.tuple #[]) ∧
  R (.int .u64 0) ww20) else (
  bif n4 == 9 then (
  r1.elim False fun a21 =>
  ∃ (B22a : Option Addr) (B22n : Nat) (B22c : Nat), ww7.cell? (a21.add 0) = some (.slice B22a B22n B22c) ∧
  B22a.elim False fun a23 =>
  0 ≤ (n4 : Int) ∧ (n4 : Int) < (B22n : Int) ∧
  ∃ (x24 : Int), ww7.cell? (a23.add (Int.toNat n4 * 1)) = some (.int .u8 x24) ∧
  bif x24 != 1 then (
  Calls Try.prog 73 #[.pointer r1, .int .i64 4] ww7 fun ee25 ww26 => ee25 = .returned (.tuple #[]) ∧
  R (.int .u64 0) ww26) else (
  bif decide (n4 > 0) then (
  r1.elim False fun a27 =>
  ∃ (B28a : Option Addr) (B28n : Nat) (B28c : Nat), ww7.cell? (a27.add 0) = some (.slice B28a B28n B28c) ∧
  B28a.elim False fun a29 =>
  0 ≤ (n4 : Int) ∧ (n4 : Int) < (B28n : Int) ∧
  ∃ (x30 : Int), ww7.cell? (a29.add (Int.toNat n4 * 1)) = some (.int .u8 x30) ∧
  bif x30 == 0 then (
  Calls Try.prog 73 #[.pointer r1, .int .i64 4] ww7 fun ee31 ww32 => ee31 = .returned (.tuple #[]) ∧
  R (.int .u64 0) ww32) else (
  ∃ (I2 : Nat → List Value → World → Prop) (m35 : Nat), I2 m35 [.int .u64 0, .int .i64 n4] ww7 ∧ ∀ (m36 : Nat) (ww37 : World) (outv33 : Int) (i34 : Int), I2 m36 [.int .u64 outv33, .int .i64 i34] ww37 →
  bif decide (i34 ≥ 0) then (
  r1.elim False fun a38 =>
  ∃ (B39a : Option Addr) (B39n : Nat) (B39c : Nat), ww37.cell? (a38.add 0) = some (.slice B39a B39n B39c) ∧
  B39a.elim False fun a40 =>
  0 ≤ (i34 : Int) ∧ (i34 : Int) < (B39n : Int) ∧
  ∃ (x41 : Int), ww37.cell? (a40.add (Int.toNat i34 * 1)) = some (.int .u8 x41) ∧
  128 ≠ (0 : Int) ∧ ∃ m42, m42 < m36 ∧ I2 m42 [.int .u64 (IntKind.u64.wrap ((IntKind.u64.wrap (outv33 * 128)) + (IntKind.u64.wrap (Int.tmod x41 128)))), .int .i64 (IntKind.i64.wrap (i34 - 1))] ww37) else (
  r1.elim False fun a43 =>
  ∃ (B44a : Option Addr) (B44n : Nat) (B44c : Nat), ww37.cell? (a43.add 0) = some (.slice B44a B44n B44c) ∧
  (0 : Int) ≤ ((IntKind.i64.wrap (n4 + 1)) : Int) ∧ ((IntKind.i64.wrap (n4 + 1)) : Int) ≤ (B44n : Int) ∧
  r1.elim False fun a45 =>
  canStore ww37 ((a45.add 0).add 0) ∧
  thenW (ww37.setCell ((a45.add 0).add 0) (.slice (if B44c = Int.toNat (IntKind.i64.wrap (n4 + 1)) then B44a else Option.map (fun z : Addr => z.add ((Int.toNat (IntKind.i64.wrap (n4 + 1))) * 1)) B44a) (B44n - (Int.toNat (IntKind.i64.wrap (n4 + 1)))) (B44c - (Int.toNat (IntKind.i64.wrap (n4 + 1)))))) fun ww46 =>
  R (.int .u64 outv33) ww46))) else (
  ∃ (I2 : Nat → List Value → World → Prop) (m49 : Nat), I2 m49 [.int .u64 0, .int .i64 n4] ww7 ∧ ∀ (m50 : Nat) (ww51 : World) (outv47 : Int) (i48 : Int), I2 m50 [.int .u64 outv47, .int .i64 i48] ww51 →
  bif decide (i48 ≥ 0) then (
  r1.elim False fun a52 =>
  ∃ (B53a : Option Addr) (B53n : Nat) (B53c : Nat), ww51.cell? (a52.add 0) = some (.slice B53a B53n B53c) ∧
  B53a.elim False fun a54 =>
  0 ≤ (i48 : Int) ∧ (i48 : Int) < (B53n : Int) ∧
  ∃ (x55 : Int), ww51.cell? (a54.add (Int.toNat i48 * 1)) = some (.int .u8 x55) ∧
  128 ≠ (0 : Int) ∧ ∃ m56, m56 < m50 ∧ I2 m56 [.int .u64 (IntKind.u64.wrap ((IntKind.u64.wrap (outv47 * 128)) + (IntKind.u64.wrap (Int.tmod x55 128)))), .int .i64 (IntKind.i64.wrap (i48 - 1))] ww51) else (
  r1.elim False fun a57 =>
  ∃ (B58a : Option Addr) (B58n : Nat) (B58c : Nat), ww51.cell? (a57.add 0) = some (.slice B58a B58n B58c) ∧
  (0 : Int) ≤ ((IntKind.i64.wrap (n4 + 1)) : Int) ∧ ((IntKind.i64.wrap (n4 + 1)) : Int) ≤ (B58n : Int) ∧
  r1.elim False fun a59 =>
  canStore ww51 ((a59.add 0).add 0) ∧
  thenW (ww51.setCell ((a59.add 0).add 0) (.slice (if B58c = Int.toNat (IntKind.i64.wrap (n4 + 1)) then B58a else Option.map (fun z : Addr => z.add ((Int.toNat (IntKind.i64.wrap (n4 + 1))) * 1)) B58a) (B58n - (Int.toNat (IntKind.i64.wrap (n4 + 1)))) (B58c - (Int.toNat (IntKind.i64.wrap (n4 + 1)))))) fun ww60 =>
  R (.int .u64 outv47) ww60)))) else (
  bif decide (n4 > 0) then (
  r1.elim False fun a61 =>
  ∃ (B62a : Option Addr) (B62n : Nat) (B62c : Nat), ww7.cell? (a61.add 0) = some (.slice B62a B62n B62c) ∧
  B62a.elim False fun a63 =>
  0 ≤ (n4 : Int) ∧ (n4 : Int) < (B62n : Int) ∧
  ∃ (x64 : Int), ww7.cell? (a63.add (Int.toNat n4 * 1)) = some (.int .u8 x64) ∧
  bif x64 == 0 then (
  Calls Try.prog 73 #[.pointer r1, .int .i64 4] ww7 fun ee65 ww66 => ee65 = .returned (.tuple #[]) ∧
  R (.int .u64 0) ww66) else (
  ∃ (I2 : Nat → List Value → World → Prop) (m69 : Nat), I2 m69 [.int .u64 0, .int .i64 n4] ww7 ∧ ∀ (m70 : Nat) (ww71 : World) (outv67 : Int) (i68 : Int), I2 m70 [.int .u64 outv67, .int .i64 i68] ww71 →
  bif decide (i68 ≥ 0) then (
  r1.elim False fun a72 =>
  ∃ (B73a : Option Addr) (B73n : Nat) (B73c : Nat), ww71.cell? (a72.add 0) = some (.slice B73a B73n B73c) ∧
  B73a.elim False fun a74 =>
  0 ≤ (i68 : Int) ∧ (i68 : Int) < (B73n : Int) ∧
  ∃ (x75 : Int), ww71.cell? (a74.add (Int.toNat i68 * 1)) = some (.int .u8 x75) ∧
  128 ≠ (0 : Int) ∧ ∃ m76, m76 < m70 ∧ I2 m76 [.int .u64 (IntKind.u64.wrap ((IntKind.u64.wrap (outv67 * 128)) + (IntKind.u64.wrap (Int.tmod x75 128)))), .int .i64 (IntKind.i64.wrap (i68 - 1))] ww71) else (
  r1.elim False fun a77 =>
  ∃ (B78a : Option Addr) (B78n : Nat) (B78c : Nat), ww71.cell? (a77.add 0) = some (.slice B78a B78n B78c) ∧
  (0 : Int) ≤ ((IntKind.i64.wrap (n4 + 1)) : Int) ∧ ((IntKind.i64.wrap (n4 + 1)) : Int) ≤ (B78n : Int) ∧
  r1.elim False fun a79 =>
  canStore ww71 ((a79.add 0).add 0) ∧
  thenW (ww71.setCell ((a79.add 0).add 0) (.slice (if B78c = Int.toNat (IntKind.i64.wrap (n4 + 1)) then B78a else Option.map (fun z : Addr => z.add ((Int.toNat (IntKind.i64.wrap (n4 + 1))) * 1)) B78a) (B78n - (Int.toNat (IntKind.i64.wrap (n4 + 1)))) (B78c - (Int.toNat (IntKind.i64.wrap (n4 + 1)))))) fun ww80 =>
  R (.int .u64 outv67) ww80))) else (
  ∃ (I2 : Nat → List Value → World → Prop) (m83 : Nat), I2 m83 [.int .u64 0, .int .i64 n4] ww7 ∧ ∀ (m84 : Nat) (ww85 : World) (outv81 : Int) (i82 : Int), I2 m84 [.int .u64 outv81, .int .i64 i82] ww85 →
  bif decide (i82 ≥ 0) then (
  r1.elim False fun a86 =>
  ∃ (B87a : Option Addr) (B87n : Nat) (B87c : Nat), ww85.cell? (a86.add 0) = some (.slice B87a B87n B87c) ∧
  B87a.elim False fun a88 =>
  0 ≤ (i82 : Int) ∧ (i82 : Int) < (B87n : Int) ∧
  ∃ (x89 : Int), ww85.cell? (a88.add (Int.toNat i82 * 1)) = some (.int .u8 x89) ∧
  128 ≠ (0 : Int) ∧ ∃ m90, m90 < m84 ∧ I2 m90 [.int .u64 (IntKind.u64.wrap ((IntKind.u64.wrap (outv81 * 128)) + (IntKind.u64.wrap (Int.tmod x89 128)))), .int .i64 (IntKind.i64.wrap (i82 - 1))] ww85) else (
  r1.elim False fun a91 =>
  ∃ (B92a : Option Addr) (B92n : Nat) (B92c : Nat), ww85.cell? (a91.add 0) = some (.slice B92a B92n B92c) ∧
  (0 : Int) ≤ ((IntKind.i64.wrap (n4 + 1)) : Int) ∧ ((IntKind.i64.wrap (n4 + 1)) : Int) ≤ (B92n : Int) ∧
  r1.elim False fun a93 =>
  canStore ww85 ((a93.add 0).add 0) ∧
  thenW (ww85.setCell ((a93.add 0).add 0) (.slice (if B92c = Int.toNat (IntKind.i64.wrap (n4 + 1)) then B92a else Option.map (fun z : Addr => z.add ((Int.toNat (IntKind.i64.wrap (n4 + 1))) * 1)) B92a) (B92n - (Int.toNat (IntKind.i64.wrap (n4 + 1)))) (B92c - (Int.toNat (IntKind.i64.wrap (n4 + 1)))))) fun ww94 =>
  R (.int .u64 outv81) ww94))))))) else (
  r1.elim False fun a95 =>
  ∃ (B96a : Option Addr) (B96n : Nat) (B96c : Nat), ww7.cell? (a95.add 0) = some (.slice B96a B96n B96c) ∧
  bif decide (n4 ≥ (B96n : Int)) then (
  Calls Try.prog 73 #[.pointer r1, .int .i64 4] ww7 fun ee97 ww98 => ee97 = .returned (.tuple #[]) ∧
  R (.int .u64 0) ww98) else (
  bif decide (n4 ≥ 10) then (
  Calls Try.prog 73 #[.pointer r1, .int .i64 4] ww7 fun ee99 ww100 => ee99 = .returned (.tuple #[]) ∧
  R (.int .u64 0) ww100) else (
  bif n4 == 9 then (
  r1.elim False fun a101 =>
  ∃ (B102a : Option Addr) (B102n : Nat) (B102c : Nat), ww7.cell? (a101.add 0) = some (.slice B102a B102n B102c) ∧
  B102a.elim False fun a103 =>
  0 ≤ (n4 : Int) ∧ (n4 : Int) < (B102n : Int) ∧
  ∃ (x104 : Int), ww7.cell? (a103.add (Int.toNat n4 * 1)) = some (.int .u8 x104) ∧
  bif x104 != 1 then (
  Calls Try.prog 73 #[.pointer r1, .int .i64 4] ww7 fun ee105 ww106 => ee105 = .returned (.tuple #[]) ∧
  R (.int .u64 0) ww106) else (
  bif decide (n4 > 0) then (
  r1.elim False fun a107 =>
  ∃ (B108a : Option Addr) (B108n : Nat) (B108c : Nat), ww7.cell? (a107.add 0) = some (.slice B108a B108n B108c) ∧
  B108a.elim False fun a109 =>
  0 ≤ (n4 : Int) ∧ (n4 : Int) < (B108n : Int) ∧
  ∃ (x110 : Int), ww7.cell? (a109.add (Int.toNat n4 * 1)) = some (.int .u8 x110) ∧
  bif x110 == 0 then (
  Calls Try.prog 73 #[.pointer r1, .int .i64 4] ww7 fun ee111 ww112 => ee111 = .returned (.tuple #[]) ∧
  R (.int .u64 0) ww112) else (
  ∃ (I2 : Nat → List Value → World → Prop) (m115 : Nat), I2 m115 [.int .u64 0, .int .i64 n4] ww7 ∧ ∀ (m116 : Nat) (ww117 : World) (outv113 : Int) (i114 : Int), I2 m116 [.int .u64 outv113, .int .i64 i114] ww117 →
  bif decide (i114 ≥ 0) then (
  r1.elim False fun a118 =>
  ∃ (B119a : Option Addr) (B119n : Nat) (B119c : Nat), ww117.cell? (a118.add 0) = some (.slice B119a B119n B119c) ∧
  B119a.elim False fun a120 =>
  0 ≤ (i114 : Int) ∧ (i114 : Int) < (B119n : Int) ∧
  ∃ (x121 : Int), ww117.cell? (a120.add (Int.toNat i114 * 1)) = some (.int .u8 x121) ∧
  128 ≠ (0 : Int) ∧ ∃ m122, m122 < m116 ∧ I2 m122 [.int .u64 (IntKind.u64.wrap ((IntKind.u64.wrap (outv113 * 128)) + (IntKind.u64.wrap (Int.tmod x121 128)))), .int .i64 (IntKind.i64.wrap (i114 - 1))] ww117) else (
  r1.elim False fun a123 =>
  ∃ (B124a : Option Addr) (B124n : Nat) (B124c : Nat), ww117.cell? (a123.add 0) = some (.slice B124a B124n B124c) ∧
  (0 : Int) ≤ ((IntKind.i64.wrap (n4 + 1)) : Int) ∧ ((IntKind.i64.wrap (n4 + 1)) : Int) ≤ (B124n : Int) ∧
  r1.elim False fun a125 =>
  canStore ww117 ((a125.add 0).add 0) ∧
  thenW (ww117.setCell ((a125.add 0).add 0) (.slice (if B124c = Int.toNat (IntKind.i64.wrap (n4 + 1)) then B124a else Option.map (fun z : Addr => z.add ((Int.toNat (IntKind.i64.wrap (n4 + 1))) * 1)) B124a) (B124n - (Int.toNat (IntKind.i64.wrap (n4 + 1)))) (B124c - (Int.toNat (IntKind.i64.wrap (n4 + 1)))))) fun ww126 =>
  R (.int .u64 outv113) ww126))) else (
  ∃ (I2 : Nat → List Value → World → Prop) (m129 : Nat), I2 m129 [.int .u64 0, .int .i64 n4] ww7 ∧ ∀ (m130 : Nat) (ww131 : World) (outv127 : Int) (i128 : Int), I2 m130 [.int .u64 outv127, .int .i64 i128] ww131 →
  bif decide (i128 ≥ 0) then (
  r1.elim False fun a132 =>
  ∃ (B133a : Option Addr) (B133n : Nat) (B133c : Nat), ww131.cell? (a132.add 0) = some (.slice B133a B133n B133c) ∧
  B133a.elim False fun a134 =>
  0 ≤ (i128 : Int) ∧ (i128 : Int) < (B133n : Int) ∧
  ∃ (x135 : Int), ww131.cell? (a134.add (Int.toNat i128 * 1)) = some (.int .u8 x135) ∧
  128 ≠ (0 : Int) ∧ ∃ m136, m136 < m130 ∧ I2 m136 [.int .u64 (IntKind.u64.wrap ((IntKind.u64.wrap (outv127 * 128)) + (IntKind.u64.wrap (Int.tmod x135 128)))), .int .i64 (IntKind.i64.wrap (i128 - 1))] ww131) else (
  r1.elim False fun a137 =>
  ∃ (B138a : Option Addr) (B138n : Nat) (B138c : Nat), ww131.cell? (a137.add 0) = some (.slice B138a B138n B138c) ∧
  (0 : Int) ≤ ((IntKind.i64.wrap (n4 + 1)) : Int) ∧ ((IntKind.i64.wrap (n4 + 1)) : Int) ≤ (B138n : Int) ∧
  r1.elim False fun a139 =>
  canStore ww131 ((a139.add 0).add 0) ∧
  thenW (ww131.setCell ((a139.add 0).add 0) (.slice (if B138c = Int.toNat (IntKind.i64.wrap (n4 + 1)) then B138a else Option.map (fun z : Addr => z.add ((Int.toNat (IntKind.i64.wrap (n4 + 1))) * 1)) B138a) (B138n - (Int.toNat (IntKind.i64.wrap (n4 + 1)))) (B138c - (Int.toNat (IntKind.i64.wrap (n4 + 1)))))) fun ww140 =>
  R (.int .u64 outv127) ww140)))) else (
  bif decide (n4 > 0) then (
  r1.elim False fun a141 =>
  ∃ (B142a : Option Addr) (B142n : Nat) (B142c : Nat), ww7.cell? (a141.add 0) = some (.slice B142a B142n B142c) ∧
  B142a.elim False fun a143 =>
  0 ≤ (n4 : Int) ∧ (n4 : Int) < (B142n : Int) ∧
  ∃ (x144 : Int), ww7.cell? (a143.add (Int.toNat n4 * 1)) = some (.int .u8 x144) ∧
  bif x144 == 0 then (
  Calls Try.prog 73 #[.pointer r1, .int .i64 4] ww7 fun ee145 ww146 => ee145 = .returned (.tuple #[]) ∧
  R (.int .u64 0) ww146) else (
  ∃ (I2 : Nat → List Value → World → Prop) (m149 : Nat), I2 m149 [.int .u64 0, .int .i64 n4] ww7 ∧ ∀ (m150 : Nat) (ww151 : World) (outv147 : Int) (i148 : Int), I2 m150 [.int .u64 outv147, .int .i64 i148] ww151 →
  bif decide (i148 ≥ 0) then (
  r1.elim False fun a152 =>
  ∃ (B153a : Option Addr) (B153n : Nat) (B153c : Nat), ww151.cell? (a152.add 0) = some (.slice B153a B153n B153c) ∧
  B153a.elim False fun a154 =>
  0 ≤ (i148 : Int) ∧ (i148 : Int) < (B153n : Int) ∧
  ∃ (x155 : Int), ww151.cell? (a154.add (Int.toNat i148 * 1)) = some (.int .u8 x155) ∧
  128 ≠ (0 : Int) ∧ ∃ m156, m156 < m150 ∧ I2 m156 [.int .u64 (IntKind.u64.wrap ((IntKind.u64.wrap (outv147 * 128)) + (IntKind.u64.wrap (Int.tmod x155 128)))), .int .i64 (IntKind.i64.wrap (i148 - 1))] ww151) else (
  r1.elim False fun a157 =>
  ∃ (B158a : Option Addr) (B158n : Nat) (B158c : Nat), ww151.cell? (a157.add 0) = some (.slice B158a B158n B158c) ∧
  (0 : Int) ≤ ((IntKind.i64.wrap (n4 + 1)) : Int) ∧ ((IntKind.i64.wrap (n4 + 1)) : Int) ≤ (B158n : Int) ∧
  r1.elim False fun a159 =>
  canStore ww151 ((a159.add 0).add 0) ∧
  thenW (ww151.setCell ((a159.add 0).add 0) (.slice (if B158c = Int.toNat (IntKind.i64.wrap (n4 + 1)) then B158a else Option.map (fun z : Addr => z.add ((Int.toNat (IntKind.i64.wrap (n4 + 1))) * 1)) B158a) (B158n - (Int.toNat (IntKind.i64.wrap (n4 + 1)))) (B158c - (Int.toNat (IntKind.i64.wrap (n4 + 1)))))) fun ww160 =>
  R (.int .u64 outv147) ww160))) else (
  ∃ (I2 : Nat → List Value → World → Prop) (m163 : Nat), I2 m163 [.int .u64 0, .int .i64 n4] ww7 ∧ ∀ (m164 : Nat) (ww165 : World) (outv161 : Int) (i162 : Int), I2 m164 [.int .u64 outv161, .int .i64 i162] ww165 →
  bif decide (i162 ≥ 0) then (
  r1.elim False fun a166 =>
  ∃ (B167a : Option Addr) (B167n : Nat) (B167c : Nat), ww165.cell? (a166.add 0) = some (.slice B167a B167n B167c) ∧
  B167a.elim False fun a168 =>
  0 ≤ (i162 : Int) ∧ (i162 : Int) < (B167n : Int) ∧
  ∃ (x169 : Int), ww165.cell? (a168.add (Int.toNat i162 * 1)) = some (.int .u8 x169) ∧
  128 ≠ (0 : Int) ∧ ∃ m170, m170 < m164 ∧ I2 m170 [.int .u64 (IntKind.u64.wrap ((IntKind.u64.wrap (outv161 * 128)) + (IntKind.u64.wrap (Int.tmod x169 128)))), .int .i64 (IntKind.i64.wrap (i162 - 1))] ww165) else (
  r1.elim False fun a171 =>
  ∃ (B172a : Option Addr) (B172n : Nat) (B172c : Nat), ww165.cell? (a171.add 0) = some (.slice B172a B172n B172c) ∧
  (0 : Int) ≤ ((IntKind.i64.wrap (n4 + 1)) : Int) ∧ ((IntKind.i64.wrap (n4 + 1)) : Int) ≤ (B172n : Int) ∧
  r1.elim False fun a173 =>
  canStore ww165 ((a173.add 0).add 0) ∧
  thenW (ww165.setCell ((a173.add 0).add 0) (.slice (if B172c = Int.toNat (IntKind.i64.wrap (n4 + 1)) then B172a else Option.map (fun z : Addr => z.add ((Int.toNat (IntKind.i64.wrap (n4 + 1))) * 1)) B172a) (B172n - (Int.toNat (IntKind.i64.wrap (n4 + 1)))) (B172c - (Int.toNat (IntKind.i64.wrap (n4 + 1)))))) fun ww174 =>
  R (.int .u64 outv161) ww174))))))) else (
  r1.elim False fun a175 =>
  ∃ (B176a : Option Addr) (B176n : Nat) (B176c : Nat), ww7.cell? (a175.add 0) = some (.slice B176a B176n B176c) ∧
  bif decide (n4 ≥ (B176n : Int)) then (
  Calls Try.prog 73 #[.pointer r1, .int .i64 4] ww7 fun ee177 ww178 => ee177 = .returned (.tuple #[]) ∧
  R (.int .u64 0) ww178) else (
  bif decide (n4 ≥ 10) then (
  Calls Try.prog 73 #[.pointer r1, .int .i64 4] ww7 fun ee179 ww180 => ee179 = .returned (.tuple #[]) ∧
  R (.int .u64 0) ww180) else (
  bif n4 == 9 then (
  r1.elim False fun a181 =>
  ∃ (B182a : Option Addr) (B182n : Nat) (B182c : Nat), ww7.cell? (a181.add 0) = some (.slice B182a B182n B182c) ∧
  B182a.elim False fun a183 =>
  0 ≤ (n4 : Int) ∧ (n4 : Int) < (B182n : Int) ∧
  ∃ (x184 : Int), ww7.cell? (a183.add (Int.toNat n4 * 1)) = some (.int .u8 x184) ∧
  bif x184 != 1 then (
  Calls Try.prog 73 #[.pointer r1, .int .i64 4] ww7 fun ee185 ww186 => ee185 = .returned (.tuple #[]) ∧
  R (.int .u64 0) ww186) else (
  bif decide (n4 > 0) then (
  r1.elim False fun a187 =>
  ∃ (B188a : Option Addr) (B188n : Nat) (B188c : Nat), ww7.cell? (a187.add 0) = some (.slice B188a B188n B188c) ∧
  B188a.elim False fun a189 =>
  0 ≤ (n4 : Int) ∧ (n4 : Int) < (B188n : Int) ∧
  ∃ (x190 : Int), ww7.cell? (a189.add (Int.toNat n4 * 1)) = some (.int .u8 x190) ∧
  bif x190 == 0 then (
  Calls Try.prog 73 #[.pointer r1, .int .i64 4] ww7 fun ee191 ww192 => ee191 = .returned (.tuple #[]) ∧
  R (.int .u64 0) ww192) else (
  ∃ (I2 : Nat → List Value → World → Prop) (m195 : Nat), I2 m195 [.int .u64 0, .int .i64 n4] ww7 ∧ ∀ (m196 : Nat) (ww197 : World) (outv193 : Int) (i194 : Int), I2 m196 [.int .u64 outv193, .int .i64 i194] ww197 →
  bif decide (i194 ≥ 0) then (
  r1.elim False fun a198 =>
  ∃ (B199a : Option Addr) (B199n : Nat) (B199c : Nat), ww197.cell? (a198.add 0) = some (.slice B199a B199n B199c) ∧
  B199a.elim False fun a200 =>
  0 ≤ (i194 : Int) ∧ (i194 : Int) < (B199n : Int) ∧
  ∃ (x201 : Int), ww197.cell? (a200.add (Int.toNat i194 * 1)) = some (.int .u8 x201) ∧
  128 ≠ (0 : Int) ∧ ∃ m202, m202 < m196 ∧ I2 m202 [.int .u64 (IntKind.u64.wrap ((IntKind.u64.wrap (outv193 * 128)) + (IntKind.u64.wrap (Int.tmod x201 128)))), .int .i64 (IntKind.i64.wrap (i194 - 1))] ww197) else (
  r1.elim False fun a203 =>
  ∃ (B204a : Option Addr) (B204n : Nat) (B204c : Nat), ww197.cell? (a203.add 0) = some (.slice B204a B204n B204c) ∧
  (0 : Int) ≤ ((IntKind.i64.wrap (n4 + 1)) : Int) ∧ ((IntKind.i64.wrap (n4 + 1)) : Int) ≤ (B204n : Int) ∧
  r1.elim False fun a205 =>
  canStore ww197 ((a205.add 0).add 0) ∧
  thenW (ww197.setCell ((a205.add 0).add 0) (.slice (if B204c = Int.toNat (IntKind.i64.wrap (n4 + 1)) then B204a else Option.map (fun z : Addr => z.add ((Int.toNat (IntKind.i64.wrap (n4 + 1))) * 1)) B204a) (B204n - (Int.toNat (IntKind.i64.wrap (n4 + 1)))) (B204c - (Int.toNat (IntKind.i64.wrap (n4 + 1)))))) fun ww206 =>
  R (.int .u64 outv193) ww206))) else (
  ∃ (I2 : Nat → List Value → World → Prop) (m209 : Nat), I2 m209 [.int .u64 0, .int .i64 n4] ww7 ∧ ∀ (m210 : Nat) (ww211 : World) (outv207 : Int) (i208 : Int), I2 m210 [.int .u64 outv207, .int .i64 i208] ww211 →
  bif decide (i208 ≥ 0) then (
  r1.elim False fun a212 =>
  ∃ (B213a : Option Addr) (B213n : Nat) (B213c : Nat), ww211.cell? (a212.add 0) = some (.slice B213a B213n B213c) ∧
  B213a.elim False fun a214 =>
  0 ≤ (i208 : Int) ∧ (i208 : Int) < (B213n : Int) ∧
  ∃ (x215 : Int), ww211.cell? (a214.add (Int.toNat i208 * 1)) = some (.int .u8 x215) ∧
  128 ≠ (0 : Int) ∧ ∃ m216, m216 < m210 ∧ I2 m216 [.int .u64 (IntKind.u64.wrap ((IntKind.u64.wrap (outv207 * 128)) + (IntKind.u64.wrap (Int.tmod x215 128)))), .int .i64 (IntKind.i64.wrap (i208 - 1))] ww211) else (
  r1.elim False fun a217 =>
  ∃ (B218a : Option Addr) (B218n : Nat) (B218c : Nat), ww211.cell? (a217.add 0) = some (.slice B218a B218n B218c) ∧
  (0 : Int) ≤ ((IntKind.i64.wrap (n4 + 1)) : Int) ∧ ((IntKind.i64.wrap (n4 + 1)) : Int) ≤ (B218n : Int) ∧
  r1.elim False fun a219 =>
  canStore ww211 ((a219.add 0).add 0) ∧
  thenW (ww211.setCell ((a219.add 0).add 0) (.slice (if B218c = Int.toNat (IntKind.i64.wrap (n4 + 1)) then B218a else Option.map (fun z : Addr => z.add ((Int.toNat (IntKind.i64.wrap (n4 + 1))) * 1)) B218a) (B218n - (Int.toNat (IntKind.i64.wrap (n4 + 1)))) (B218c - (Int.toNat (IntKind.i64.wrap (n4 + 1)))))) fun ww220 =>
  R (.int .u64 outv207) ww220)))) else (
  bif decide (n4 > 0) then (
  r1.elim False fun a221 =>
  ∃ (B222a : Option Addr) (B222n : Nat) (B222c : Nat), ww7.cell? (a221.add 0) = some (.slice B222a B222n B222c) ∧
  B222a.elim False fun a223 =>
  0 ≤ (n4 : Int) ∧ (n4 : Int) < (B222n : Int) ∧
  ∃ (x224 : Int), ww7.cell? (a223.add (Int.toNat n4 * 1)) = some (.int .u8 x224) ∧
  bif x224 == 0 then (
  Calls Try.prog 73 #[.pointer r1, .int .i64 4] ww7 fun ee225 ww226 => ee225 = .returned (.tuple #[]) ∧
  R (.int .u64 0) ww226) else (
  ∃ (I2 : Nat → List Value → World → Prop) (m229 : Nat), I2 m229 [.int .u64 0, .int .i64 n4] ww7 ∧ ∀ (m230 : Nat) (ww231 : World) (outv227 : Int) (i228 : Int), I2 m230 [.int .u64 outv227, .int .i64 i228] ww231 →
  bif decide (i228 ≥ 0) then (
  r1.elim False fun a232 =>
  ∃ (B233a : Option Addr) (B233n : Nat) (B233c : Nat), ww231.cell? (a232.add 0) = some (.slice B233a B233n B233c) ∧
  B233a.elim False fun a234 =>
  0 ≤ (i228 : Int) ∧ (i228 : Int) < (B233n : Int) ∧
  ∃ (x235 : Int), ww231.cell? (a234.add (Int.toNat i228 * 1)) = some (.int .u8 x235) ∧
  128 ≠ (0 : Int) ∧ ∃ m236, m236 < m230 ∧ I2 m236 [.int .u64 (IntKind.u64.wrap ((IntKind.u64.wrap (outv227 * 128)) + (IntKind.u64.wrap (Int.tmod x235 128)))), .int .i64 (IntKind.i64.wrap (i228 - 1))] ww231) else (
  r1.elim False fun a237 =>
  ∃ (B238a : Option Addr) (B238n : Nat) (B238c : Nat), ww231.cell? (a237.add 0) = some (.slice B238a B238n B238c) ∧
  (0 : Int) ≤ ((IntKind.i64.wrap (n4 + 1)) : Int) ∧ ((IntKind.i64.wrap (n4 + 1)) : Int) ≤ (B238n : Int) ∧
  r1.elim False fun a239 =>
  canStore ww231 ((a239.add 0).add 0) ∧
  thenW (ww231.setCell ((a239.add 0).add 0) (.slice (if B238c = Int.toNat (IntKind.i64.wrap (n4 + 1)) then B238a else Option.map (fun z : Addr => z.add ((Int.toNat (IntKind.i64.wrap (n4 + 1))) * 1)) B238a) (B238n - (Int.toNat (IntKind.i64.wrap (n4 + 1)))) (B238c - (Int.toNat (IntKind.i64.wrap (n4 + 1)))))) fun ww240 =>
  R (.int .u64 outv227) ww240))) else (
  ∃ (I2 : Nat → List Value → World → Prop) (m243 : Nat), I2 m243 [.int .u64 0, .int .i64 n4] ww7 ∧ ∀ (m244 : Nat) (ww245 : World) (outv241 : Int) (i242 : Int), I2 m244 [.int .u64 outv241, .int .i64 i242] ww245 →
  bif decide (i242 ≥ 0) then (
  r1.elim False fun a246 =>
  ∃ (B247a : Option Addr) (B247n : Nat) (B247c : Nat), ww245.cell? (a246.add 0) = some (.slice B247a B247n B247c) ∧
  B247a.elim False fun a248 =>
  0 ≤ (i242 : Int) ∧ (i242 : Int) < (B247n : Int) ∧
  ∃ (x249 : Int), ww245.cell? (a248.add (Int.toNat i242 * 1)) = some (.int .u8 x249) ∧
  128 ≠ (0 : Int) ∧ ∃ m250, m250 < m244 ∧ I2 m250 [.int .u64 (IntKind.u64.wrap ((IntKind.u64.wrap (outv241 * 128)) + (IntKind.u64.wrap (Int.tmod x249 128)))), .int .i64 (IntKind.i64.wrap (i242 - 1))] ww245) else (
  r1.elim False fun a251 =>
  ∃ (B252a : Option Addr) (B252n : Nat) (B252c : Nat), ww245.cell? (a251.add 0) = some (.slice B252a B252n B252c) ∧
  (0 : Int) ≤ ((IntKind.i64.wrap (n4 + 1)) : Int) ∧ ((IntKind.i64.wrap (n4 + 1)) : Int) ≤ (B252n : Int) ∧
  r1.elim False fun a253 =>
  canStore ww245 ((a253.add 0).add 0) ∧
  thenW (ww245.setCell ((a253.add 0).add 0) (.slice (if B252c = Int.toNat (IntKind.i64.wrap (n4 + 1)) then B252a else Option.map (fun z : Addr => z.add ((Int.toNat (IntKind.i64.wrap (n4 + 1))) * 1)) B252a) (B252n - (Int.toNat (IntKind.i64.wrap (n4 + 1)))) (B252c - (Int.toNat (IntKind.i64.wrap (n4 + 1)))))) fun ww254 =>
  R (.int .u64 outv241) ww254)))))))

theorem rRNum.eq (r1 : Option Addr) (R : Value → World → Prop) (w : World) : mfunc Try.prog [(0, [0], [(3, (.one (.int .i64)))]), (2, [0, 3], [(4, (.one (.int .u64))), (5, (.one (.int .i64)))])] 51 [.pointer r1] R w = rRNum.M r1 R w := by kernel_rfl
theorem rRNum.ok (r1 : Option Addr) {R : Value → World → Prop} {w : World} (h : rRNum.M r1 R w) : Calls Try.prog 51 #[.pointer r1] w fun e w' => ∃ v, e = .returned v ∧ R v w' :=
  mfunc_ok follows (H := [(0, [0], [(3, (.one (.int .i64)))]), (2, [0, 3], [(4, (.one (.int .u64))), (5, (.one (.int .i64)))])]) (args := [.pointer r1]) (by rw [rRNum.eq]; exact h)

/-- (*cachetteref01.Reader).Count -/
def rRCount.M (r1 : Option Addr) (most2 : Int) (R : Value → World → Prop) (w : World) : Prop :=
  Calls Try.prog 51 #[.pointer r1] w fun ee4 ww5 => ∃ (num3 : Int), ee4 = .returned (.int .u64 num3) ∧
  r1.elim False fun a6 =>
  ∃ (Kv7 : Int), ww5.cell? (a6.add 1) = some (.int .i64 Kv7) ∧
  bif Kv7 == 0 then (
  bif decide (most2 < 0) then (
  Calls Try.prog 73 #[.pointer r1, .int .i64 3] ww5 fun ee8 ww9 => ee8 = .returned (.tuple #[]) ∧
  R (.int .i64 0) ww9) else (
  bif decide (num3 > (IntKind.u64.wrap most2)) then (
  Calls Try.prog 73 #[.pointer r1, .int .i64 3] ww5 fun ee10 ww11 => ee10 = .returned (.tuple #[]) ∧
  R (.int .i64 0) ww11) else (
  R (.int .i64 (IntKind.i64.wrap num3)) ww5))) else (
  R (.int .i64 (IntKind.i64.wrap num3)) ww5)

theorem rRCount.eq (r1 : Option Addr) (most2 : Int) (R : Value → World → Prop) (w : World) : mfunc Try.prog [] 50 [.pointer r1, .int .i64 most2] R w = rRCount.M r1 most2 R w := by kernel_rfl
theorem rRCount.ok (r1 : Option Addr) (most2 : Int) {R : Value → World → Prop} {w : World} (h : rRCount.M r1 most2 R w) : Calls Try.prog 50 #[.pointer r1, .int .i64 most2] w fun e w' => ∃ v, e = .returned v ∧ R v w' :=
  mfunc_ok follows (H := []) (args := [.pointer r1, .int .i64 most2]) (by rw [rRCount.eq]; exact h)

/-- (*cachetteref01.Reader).Done -/
def rRDone.M (r1 : Option Addr) (R : Value → World → Prop) (w : World) : Prop :=
  r1.elim False fun a2 =>
  ∃ (Kv3 : Int), w.cell? (a2.add 1) = some (.int .i64 Kv3) ∧
  bif Kv3 == 0 then (
  r1.elim False fun a4 =>
  ∃ (B5a : Option Addr) (B5n : Nat) (B5c : Nat), w.cell? (a4.add 0) = some (.slice B5a B5n B5c) ∧
  bif decide ((B5n : Int) > 0) then (
  R (.int .i64 4) w) else (
  r1.elim False fun a6 =>
  ∃ (Kv7 : Int), w.cell? (a6.add 1) = some (.int .i64 Kv7) ∧
  R (.int .i64 Kv7) w)) else (
  r1.elim False fun a8 =>
  ∃ (Kv9 : Int), w.cell? (a8.add 1) = some (.int .i64 Kv9) ∧
  R (.int .i64 Kv9) w)

theorem rRDone.eq (r1 : Option Addr) (R : Value → World → Prop) (w : World) : mfunc Try.prog [] 53 [.pointer r1] R w = rRDone.M r1 R w := by kernel_rfl
theorem rRDone.ok (r1 : Option Addr) {R : Value → World → Prop} {w : World} (h : rRDone.M r1 R w) : Calls Try.prog 53 #[.pointer r1] w fun e w' => ∃ v, e = .returned v ∧ R v w' :=
  mfunc_ok follows (H := []) (args := [.pointer r1]) (by rw [rRDone.eq]; exact h)

/-- (*cachetteref01.Reader).fail -/
def rRFail.M (r1 : Option Addr) (k2 : Int) (R : Value → World → Prop) (w : World) : Prop :=
  r1.elim False fun a3 =>
  canStore w ((a3.add 1).add 0) ∧
  thenW (w.setCell ((a3.add 1).add 0) (.int .i64 k2)) fun ww4 =>
  r1.elim False fun a5 =>
  canStore ww4 ((a5.add 0).add 0) ∧
  thenW (ww4.setCell ((a5.add 0).add 0) (.slice none 0 0)) fun ww6 =>
  R (.tuple #[]) ww6

theorem rRFail.eq (r1 : Option Addr) (k2 : Int) (R : Value → World → Prop) (w : World) : mfunc Try.prog [] 73 [.pointer r1, .int .i64 k2] R w = rRFail.M r1 k2 R w := by kernel_rfl
theorem rRFail.ok (r1 : Option Addr) (k2 : Int) {R : Value → World → Prop} {w : World} (h : rRFail.M r1 k2 R w) : Calls Try.prog 73 #[.pointer r1, .int .i64 k2] w fun e w' => ∃ v, e = .returned v ∧ R v w' :=
  mfunc_ok follows (H := []) (args := [.pointer r1, .int .i64 k2]) (by rw [rRFail.eq]; exact h)

theorem numL_le (n : Nat) : (numL n).length ≤ 10 := numF_le 10 n
theorem numF_more : ∀ (k m : Nat), m < 128 ^ k → 0 < k → numF (k + 1) m = numF k m
  | k + 1, m, h, _ => by
    by_cases h1 : m < 128
    · rw [numF, if_pos h1, numF, if_pos h1]
    · rw [numF, if_neg h1]
      conv => rhs; rw [numF, if_neg h1]
      have hk : 0 < k := Nat.pos_of_ne_zero fun e => by subst e; simp at h; omega
      rw [numF_more k (m / 128) (by rw [Nat.pow_succ] at h; omega) hk]
theorem numL_step {n : Nat} (h : n < 18446744073709551616) (h1 : ¬ n < 128) : numL n = UInt8.ofNat (n % 128 + 128) :: numL (n / 128) := by
  unfold numL
  rw [numF, if_neg h1, numF_more 9 (n / 128) (by omega) (by decide)]
theorem count_le (m : Int) (s : List UInt8 × Int) (hm : 0 ≤ m) : ((countR m s).1 : Int) ≤ m := by
  unfold countR
  split
  · split
    · exact hm
    · rename_i h; exact Decidable.byContradiction fun e => h (.inr (by omega))
  · exact hm

section
variable {w w' : World} {a : Option Addr} {c : Nat}
theorem sameB_spec {a b : Option Addr} {c d : Nat} {x y : List UInt8} (ha : RowAt w a (bytesV x)) (hb : RowAt w b (bytesV y)) (hx : x.length < 1000000) :
    Calls Try.prog 33 #[.slice a x.length c, .slice b y.length d] w (GivesW (.bool (decide (x = y))) fun w' => Ext no w w') := by
  refine (wSame.ok _ _ _ _ _ _ (R := fun v w' => v = .bool (decide (x = y)) ∧ Ext no w w') ?_).mono fun e w' ⟨v, he, hv, hw⟩ => ⟨by rw [he, hv], hw⟩
  unfold wSame.M
  by_cases hl : x.length = y.length
  · have hl' : ((x.length : Int) != (y.length : Int)) = false := by simp [hl]
    rw [hl', cond_false]
    refine ⟨fun k vs w1 => ∃ i : Nat, vs = [.int .i64 i] ∧ k = x.length - i ∧ i ≤ x.length ∧ x.take i = y.take i ∧ Ext no w w1, x.length, ⟨0, rfl, rfl, Nat.zero_le _, rfl, Ext.refl _ _⟩, ?_⟩
    rintro k w1 i3 ⟨i, hi, rfl, hle, ht, hw⟩
    simp only [List.cons.injEq, Value.int.injEq, true_and, and_true] at hi
    subst hi
    by_cases hlt : i < x.length
    · have hd : decide ((i : Int) < (x.length : Int)) = true := by simp [hlt]
      rw [hd, cond_true]
      refine thenW_in fun w7 h7 => ?_
      have hw7 : Ext no w w7 := hw.trans (by subst h7; exact (Ext.refl _ _).drew)
      have hi2 : i < y.length := hl ▸ hlt
      have hax := ha.ext hw7 (fun _ _ h => h)
      have hby := hb.ext hw7 (fun _ _ h => h)
      obtain ⟨ad, rfl⟩ := hax.addr (by intro e; rw [bytesV, List.map_eq_nil_iff] at e; subst e; simp at hlt)
      obtain ⟨bd, rfl⟩ := hby.addr (by intro e; rw [bytesV, List.map_eq_nil_iff] at e; subst e; simp at hi2)
      refine ⟨by omega, by omega, x[i].toNat, ?_, by omega, by omega, y[i].toNat, ?_, ?_⟩
      · rw [show Int.toNat (i : Int) * 1 = i by omega]; exact hax.at_ (bytesV_get hlt)
      · rw [show Int.toNat (i : Int) * 1 = i by omega]; exact hby.at_ (bytesV_get hi2)
      · by_cases he : x[i] = y[i]
        · have h1 : ((x[i].toNat : Int) != (y[i].toNat : Int)) = false := by simp [he]
          rw [h1, cond_false]
          refine ⟨x.length - (i + 1), by omega, i + 1, by rw [w64 (by omega) (by omega)]; rfl, rfl, by omega, ?_, hw7⟩
          rw [List.take_add_one, List.take_add_one, ht]; simp [hlt, hi2, he]
        · have h1 : ((x[i].toNat : Int) != (y[i].toNat : Int)) = true := by
            simp only [bne_iff_ne, ne_eq, Int.natCast_inj, UInt8.toNat_inj]; exact he
          rw [h1, cond_true]
          exact ⟨by rw [decide_eq_false]; rintro rfl; exact he rfl, hw7⟩
    · have hd : decide ((i : Int) < (x.length : Int)) = false := by simp; omega
      rw [hd, cond_false]
      obtain rfl : i = x.length := by omega
      refine ⟨?_, hw⟩
      have : x = y := by
        rw [List.take_length] at ht
        rw [hl, List.take_length] at ht
        exact ht
      simp [this]
  · have hl' : ((x.length : Int) != (y.length : Int)) = true := by simp; omega
    rw [hl', cond_true]
    exact ⟨by rw [decide_eq_false]; rintro rfl; exact hl rfl, Ext.refl _ _⟩
theorem rNum_spec : ∀ (n : Nat) (w : World), n < 18446744073709551616 → Calls Try.prog 44 #[.int .u64 n] w (fun e w' => ∃ a' c', e = .returned (.slice a' (numL n).length c') ∧ OwnB w.heap.size w' a' c' (numL n) ∧ Ext no w w') := by
  intro n
  induction n using Nat.strongRecOn with
  | _ n ih =>
    intro w hn
    refine (rNum.ok _ (R := fun v w' => ∃ a' c', v = (.slice a' (numL n).length c') ∧ OwnB w.heap.size w' a' c' (numL n) ∧ Ext no w w') ?_).mono fun e w' ⟨v, he, a', c', hv, hw⟩ => ⟨a', c', by rw [he, hv], hw⟩
    unfold rNum.M
    have one : ∀ (w2 : World) (x : UInt8), w2 = w.alloc (.cells #[.int .u8 (x.toNat : Int)] 5) → OwnB w.heap.size w2 (some (blk w.heap.size)) 1 [x] ∧ Ext no w w2 := fun w2 x h2 => by
      have hb : Blk w2 w.heap.size 5 (bytesV [x]) := by subst h2; exact Blk.new _ _ _
      exact ⟨⟨owns_of_blk hb rfl (by simp [maxLen]), fun ad ha => by cases ha; exact ⟨Nat.le_refl _, hb.lt⟩⟩, by subst h2; exact (Ext.refl _ _).alloc _⟩
    by_cases h1 : n < 128
    · rw [show decide ((n : Int) < 128) = true by simp; omega, cond_true]
      have hv : IntKind.u8.wrap (n : Int) = ((UInt8.ofNat n).toNat : Int) := by rw [wu8 (by omega) (by omega), ofNat_lt (by omega)]
      have hL : numL n = [UInt8.ofNat n] := by unfold numL; rw [numF, if_pos h1]
      rw [hv, hL]
      refine thenW_in fun w2 h2 => ?_
      obtain ⟨q1, q2⟩ := one w2 _ h2
      exact ⟨_, 1, rfl, q1, q2⟩
    · rw [show decide ((n : Int) < 128) = false by simp; omega, cond_false]
      have hm : Int.tmod (n : Int) 128 = ((n % 128 : Nat) : Int) := by rw [Int.tmod_eq_emod_of_nonneg (by omega)]; omega
      have hd : Int.tdiv (n : Int) 128 = ((n / 128 : Nat) : Int) := by rw [Int.tdiv_eq_ediv_of_nonneg (by omega)]; omega
      have hv : IntKind.u8.wrap ((IntKind.u8.wrap (Int.tmod (n : Int) 128)) + 128) = ((UInt8.ofNat (n % 128 + 128)).toNat : Int) := by
        rw [hm, wu8 (n := ((n % 128 : Nat) : Int)) (by omega) (by omega), wu8 (by omega) (by omega), ofNat_lt (by omega)]; omega
      rw [hv, hd, wu64 (by omega) (by omega), numL_step hn h1]
      refine ⟨by decide, thenW_in fun w3 h3 => ⟨by decide, ?_⟩⟩
      obtain ⟨q1, q2⟩ := one w3 _ h3
      refine (ih (n / 128) (by omega) w3 (by omega)).mono fun e w6 ⟨a6, c6, he, ho6, x6⟩ => ⟨a6, _, c6, he, ?_⟩
      obtain ⟨a', c', w8, hr, ho8, x8⟩ := (W.OwnB.no q1 x6).append (t := 34) (ty := 34) Try.underlying34 (Nat.le_trans q2.size x6.size) (xc := c6) (W.OwnB.row ho6) (by have := numL_le (n / 128); simp; omega)
      exact ⟨a', _, c', w8, hr, a', c', rfl, ho8, (q2.trans x6).then x8 fun b hb => .inr hb⟩

end
/-- what the reference's reader has. -/
def RdR (w : World) (p N : Nat) (bs : List UInt8) (k : Int) : Prop :=
  N ≤ p ∧ ∃ a c, Blk w p 106 [.slice a bs.length c, .int .i64 k] ∧ bs.length ≤ c ∧ RowAt w a (bytesV bs) ∧ (bytesV bs ≠ [] → ∀ ad, a = some ad → ad.block < N)
section
variable {w w' : World} {a : Option Addr} {c : Nat} {bs : List UInt8} {p N : Nat} {k : Int}
theorem RdR.no (h : RdR w p N bs k) (e : Ext no w w') : RdR w' p N bs k := by
  obtain ⟨hNp, a, c, h1, h2, h3, h4⟩ := h
  exact ⟨hNp, a, c, h1.ext e id, h2, h3.no e, h4⟩
theorem RdR.up {m : Nat → Prop} (h : RdR w p N bs k) (e : Ext m w w') (hm : ∀ b, m b → p < b) : RdR w' p N bs k := by
  obtain ⟨hNp, a, c, h1, h2, h3, h4⟩ := h
  exact ⟨hNp, a, c, h1.ext e (fun h => by have := hm _ h; omega), h2, h3.ext' e (fun h0 ad ha hb => by have := hm _ hb; have := h4 h0 ad ha; omega), h4⟩
theorem RdR.lt (h : RdR w p N bs k) : p < w.heap.size := by obtain ⟨hNp, a, c, h1, _⟩ := h; exact h1.lt
theorem rFail_spec (h : RdR w p N bs k) (j : Int) : Calls Try.prog 73 #[.pointer (some (blk p)), .int .i64 j] w (GivesW (.tuple #[]) fun w' => RdR w' p N [] j ∧ Ext (fun b => b = p) w w') := by
  refine (rRFail.ok _ _ (R := fun v w' => v = .tuple #[] ∧ RdR w' p N [] j ∧ Ext (fun b => b = p) w w') ?_).mono fun e w' ⟨v, he, hv, hw⟩ => ⟨by rw [he, hv], hw⟩
  unfold rRFail.M
  obtain ⟨hNp, a, c, h1, _⟩ := h
  refine ⟨h1.cana (i := 1) rfl, thenW_in fun w4 h4 => ?_⟩
  have hb4 := h1.seta 1 (.int .i64 j)
  rw [add_zero] at h4
  rw [← h4] at hb4
  have e4 : Ext (fun b => b = p) w w4 := by subst h4; exact (Ext.refl (fun b => b = p) w).setCell (a := (blk p).add 1) (.inl (by rw [add_blk])) _
  refine ⟨hb4.cana (i := 0) rfl, thenW_in fun w6 h6 => ?_⟩
  rw [add_zero] at h6
  have hb6 := hb4.seta 0 (.slice none 0 0)
  rw [← h6] at hb6
  have e6 : Ext (fun b => b = p) w4 w6 := by subst h6; exact (Ext.refl (fun b => b = p) w4).setCell (a := (blk p).add 0) (.inl rfl) _
  exact ⟨rfl, ⟨hNp, none, 0, hb6, Nat.le_refl _, RowAt.nil _ _, fun h0 => absurd rfl h0⟩, e4.trans e6⟩
theorem rDone_spec (h : RdR w p N bs k) : Calls Try.prog 53 #[.pointer (some (blk p))] w (GivesW (.int .i64 (doneR (bs, k))) fun w' => w' = w) := by
  refine (rRDone.ok _ (R := fun v w' => v = .int .i64 (doneR (bs, k)) ∧ w' = w) ?_).mono fun e w' ⟨v, he, hv, hw⟩ => ⟨by rw [he, hv], hw⟩
  unfold rRDone.M
  obtain ⟨hNp, a, c, h1, h2, h3, h4⟩ := h
  unfold doneR
  refine ⟨_, h1.cella (i := 1) rfl, ?_⟩
  by_cases hk : k = 0
  · subst hk
    rw [show ((0 : Int) == 0) = true from rfl, cond_true, if_pos rfl]
    refine ⟨_, _, _, h1.cella (i := 0) rfl, ?_⟩
    by_cases hb : bs.length > 0
    · rw [decide_eq_true (by omega : (bs.length : Int) > 0), cond_true, if_pos hb]; exact ⟨rfl, rfl⟩
    · rw [decide_eq_false (by omega : ¬ (bs.length : Int) > 0), cond_false, if_neg hb]
      exact ⟨_, h1.cella (i := 1) rfl, rfl, rfl⟩
  · rw [beq_eq_false_iff_ne.2 hk, cond_false, if_neg hk]
    exact ⟨_, h1.cella (i := 1) rfl, rfl, rfl⟩

/-! ### where the number ends -/
theorem width_skip : ∀ (n : Nat) (i : Nat) (bs : List UInt8), i + n ≤ 9 → n ≤ bs.length → (∀ c ∈ bs.take n, 128 ≤ c.toNat) → widthF i bs = widthF (i + n) (bs.drop n)
  | 0, i, bs, _, _, _ => rfl
  | n + 1, i, [], _, h, _ => by simp at h
  | n + 1, i, c :: r, h9, hl, hc => by
    have h1 := hc c (by simp)
    simp only [widthF, List.drop_succ_cons]
    rw [if_neg (by omega), if_neg (by omega), width_skip n (i + 1) r (by omega) (by simpa using hl) fun d hd => hc d (by simp [hd])]
    congr 1; omega
theorem width_over {bs : List UInt8} (hl : 10 ≤ bs.length) (hc : ∀ c ∈ bs.take 10, 128 ≤ c.toNat) : widthF 0 bs = 0 := by
  rw [width_skip 9 0 bs (by omega) (by omega) fun c h => hc c (List.mem_of_mem_take (l := bs.take 10) (i := 9) (by rw [List.take_take]; exact h))]
  rw [List.drop_eq_getElem_cons (by omega : 9 < bs.length)]
  simp only [widthF]
  have := hc bs[9] (List.mem_take_iff_getElem.2 ⟨9, by omega, rfl⟩)
  rw [if_pos (by first | exact ⟨rfl, by omega⟩ | exact ⟨trivial, by omega⟩)]
theorem valW_drop_le : ∀ (l : List UInt8) (j : Nat), valW (l.drop j) ≤ valW l
  | [], j => by simp
  | a :: r, 0 => Nat.le_refl _
  | a :: r, j + 1 => by
    have := valW_drop_le r j
    simp only [List.drop_succ_cons, valW]; omega

/-- the end of Num: the value, from the last byte on. -/
def loop2P (RR : Value → World → Prop) (w : World) (p : Nat) (n4 : Int) : Prop :=
  ∃ (I2 : Nat → List Value → World → Prop) (m35 : Nat), I2 m35 [.int .u64 0, .int .i64 n4] w ∧ ∀ (m36 : Nat) (ww37 : World) (outv33 : Int) (i34 : Int), I2 m36 [.int .u64 outv33, .int .i64 i34] ww37 →
  bif decide (i34 ≥ 0) then (
  (some (blk p)).elim False fun a38 =>
  ∃ (B39a : Option Addr) (B39n : Nat) (B39c : Nat), ww37.cell? (a38.add 0) = some (.slice B39a B39n B39c) ∧
  B39a.elim False fun a40 =>
  0 ≤ (i34 : Int) ∧ (i34 : Int) < (B39n : Int) ∧
  ∃ (x41 : Int), ww37.cell? (a40.add (Int.toNat i34 * 1)) = some (.int .u8 x41) ∧
  128 ≠ (0 : Int) ∧ ∃ m42, m42 < m36 ∧ I2 m42 [.int .u64 (IntKind.u64.wrap ((IntKind.u64.wrap (outv33 * 128)) + (IntKind.u64.wrap (Int.tmod x41 128)))), .int .i64 (IntKind.i64.wrap (i34 - 1))] ww37) else (
  (some (blk p)).elim False fun a43 =>
  ∃ (B44a : Option Addr) (B44n : Nat) (B44c : Nat), ww37.cell? (a43.add 0) = some (.slice B44a B44n B44c) ∧
  (0 : Int) ≤ ((IntKind.i64.wrap (n4 + 1)) : Int) ∧ ((IntKind.i64.wrap (n4 + 1)) : Int) ≤ (B44n : Int) ∧
  (some (blk p)).elim False fun a45 =>
  canStore ww37 ((a45.add 0).add 0) ∧
  thenW (ww37.setCell ((a45.add 0).add 0) (.slice (if B44c = Int.toNat (IntKind.i64.wrap (n4 + 1)) then B44a else Option.map (fun z : Addr => z.add ((Int.toNat (IntKind.i64.wrap (n4 + 1))) * 1)) B44a) (B44n - (Int.toNat (IntKind.i64.wrap (n4 + 1)))) (B44c - (Int.toNat (IntKind.i64.wrap (n4 + 1)))))) fun ww46 =>
  RR (.int .u64 outv33) ww46)
theorem loop2_ok (h : RdR w p N bs 0) (hl : bs.length < 1000000) {n : Nat} (hn : n < bs.length) (hw : widthF 0 bs = n + 1) :
    loop2P (fun v w' => v = .int .u64 (numR (bs, 0)).1 ∧ RdR w' p N (numR (bs, 0)).2.1 (numR (bs, 0)).2.2 ∧ Ext (fun b => b = p) w w') w p n := by
  have hz : widthF 0 bs ≠ 0 := by omega
  obtain ⟨q1, q2, q3, q4, _⟩ := width_back bs 0 (by omega) hz
  simp only [Nat.sub_zero] at q2 q3 q4
  rw [hw] at q2 q3 q4
  have hnum : numR (bs, 0) = (valW (bs.take (n + 1)), (bs.drop (n + 1), 0)) := by unfold numR rdNum; simp [hw]
  rw [hnum]
  obtain ⟨hNp, a, c, h1, h2, h3, h4⟩ := h
  generalize hL : bs.take (n + 1) = L at *
  have hLl : L.length = n + 1 := by rw [← hL, List.length_take]; omega
  unfold loop2P
  refine ⟨fun j vs w1 => ∃ t : Nat, vs = [.int .u64 (valW (L.drop t)), .int .i64 ((t : Int) - 1)] ∧ j = t ∧ t ≤ n + 1 ∧ w1 = w, n + 1, ⟨n + 1, ?_, rfl, Nat.le_refl _, rfl⟩, ?_⟩
  · rw [List.drop_eq_nil_of_le (by omega)]
    have : (((n + 1 : Nat) : Int) - 1) = n := by omega
    rw [this]; rfl
  rintro t w1 o0 i ⟨t', hi, rfl, htn, rfl⟩
  simp only [List.cons.injEq, Value.int.injEq, true_and, and_true] at hi
  obtain ⟨rfl, rfl⟩ := hi
  cases t with
  | zero =>
    rw [show decide (((0 : Nat) : Int) - 1 ≥ 0) = false from rfl, cond_false]
    have hw1 : IntKind.i64.wrap ((n : Int) + 1) = ((n + 1 : Nat) : Int) := by rw [w64 (by omega) (by omega)]; rfl
    rw [hw1, Int.toNat_natCast, Nat.mul_one]
    refine ⟨a, bs.length, c, h1.cella (i := 0) rfl, by omega, by omega, h1.cana (i := 0) rfl, thenW_in fun w23 h23 => ?_⟩
    rw [add_zero] at h23
    have hb := h1.seta 0 (.slice (if c = n + 1 then a else Option.map (fun z : Addr => z.add (n + 1)) a) (bs.length - (n + 1)) (c - (n + 1)))
    rw [← h23] at hb
    have hx : Ext (fun b => b = p) w1 w23 := by subst h23; exact (Ext.refl (fun b => b = p) w1).setCell (a := (blk p).add 0) (.inl rfl) _
    have hdl : (bs.drop (n + 1)).length = bs.length - (n + 1) := List.length_drop
    have hrow := h3.drop (n + 1) c (fun e => by rw [bytesV_length]; omega)
    have hne : bytesV (bs.drop (n + 1)) ≠ [] → bytesV bs ≠ [] := fun h0 e => h0 (by rw [bytesV, List.map_drop, show List.map u8V bs = [] from e]; simp)
    refine ⟨by rw [List.drop_zero], ⟨hNp, _, c - (n + 1), by rw [hdl]; exact hb, by rw [hdl]; omega, ?_, fun h0 ad ha => ?_⟩, hx⟩
    · rw [show bytesV (bs.drop (n + 1)) = (bytesV bs).drop (n + 1) by simp [bytesV]]
      refine hrow.ext' hx fun h0 ad ha hq => ?_
      have hne2 : bytesV bs ≠ [] := fun e => h0 (by rw [e]; simp)
      split at ha
      · have := h4 hne2 ad ha; omega
      · obtain ⟨b0, hb0, rfl⟩ := Option.map_eq_some_iff.1 ha
        rw [block_add] at hq
        have := h4 hne2 b0 hb0; omega
    · split at ha
      · exact h4 (hne h0) ad ha
      · obtain ⟨b0, hb0, rfl⟩ := Option.map_eq_some_iff.1 ha
        rw [block_add]; exact h4 (hne h0) b0 hb0
  | succ t =>
    have e1 : (((t + 1 : Nat) : Int) - 1) = (t : Int) := by omega
    rw [e1, show decide ((t : Int) ≥ 0) = true by simp, cond_true]
    have htl : t < bs.length := by omega
    have htL : t < L.length := by omega
    obtain ⟨ad, rfl⟩ := h3.addr (by intro e; rw [bytesV, List.map_eq_nil_iff] at e; subst e; simp at htl)
    have hx := u8_lt bs[t]
    have hLt : L[t] = bs[t] := by simp only [← hL]; rw [List.getElem_take]
    have hdr : L.drop t = bs[t] :: L.drop (t + 1) := by rw [List.drop_eq_getElem_cons htL, hLt]
    have hv : valW (L.drop t) = bs[t].toNat % 128 + 128 * valW (L.drop (t + 1)) := by rw [hdr]; rfl
    have hle := valW_drop_le L t
    have q4' : valW L < 18446744073709551616 := q4
    have hm : Int.tmod (bs[t].toNat : Int) 128 = ((bs[t].toNat % 128 : Nat) : Int) := by rw [Int.tmod_eq_emod_of_nonneg (by omega)]; omega
    refine ⟨_, _, _, h1.cella (i := 0) rfl, by omega, by omega, _, by rw [Int.toNat_natCast, Nat.mul_one]; exact h3.at_ (bytesV_get htl), by decide, t, by omega, t, ?_, rfl, by omega, rfl⟩
    rw [hm, wu64 (n := ((valW (L.drop (t + 1)) : Nat) : Int) * 128) (by omega) (by omega), wu64 (n := ((bs[t].toNat % 128 : Nat) : Int)) (by omega) (by omega), wu64 (by omega) (by omega), w64 (by omega) (by omega), hv]
    congr 2
    congr 1
    omega

/-- once the number's last byte is found. -/
def exitP (RR : Value → World → Prop) (ww7 : World) (p : Nat) (n4 : Int) : Prop :=
  (some (blk p)).elim False fun a15 =>
  ∃ (B16a : Option Addr) (B16n : Nat) (B16c : Nat), ww7.cell? (a15.add 0) = some (.slice B16a B16n B16c) ∧
  bif decide (n4 ≥ (B16n : Int)) then (
  Calls Try.prog 73 #[.pointer (some (blk p)), .int .i64 4] ww7 fun ee17 ww18 => ee17 = .returned (.tuple #[]) ∧
  RR (.int .u64 0) ww18) else (
  bif decide (n4 ≥ 10) then (
  Calls Try.prog 73 #[.pointer (some (blk p)), .int .i64 4] ww7 fun ee19 ww20 => ee19 = .returned (.tuple #[]) ∧
  RR (.int .u64 0) ww20) else (
  bif n4 == 9 then (
  (some (blk p)).elim False fun a21 =>
  ∃ (B22a : Option Addr) (B22n : Nat) (B22c : Nat), ww7.cell? (a21.add 0) = some (.slice B22a B22n B22c) ∧
  B22a.elim False fun a23 =>
  0 ≤ (n4 : Int) ∧ (n4 : Int) < (B22n : Int) ∧
  ∃ (x24 : Int), ww7.cell? (a23.add (Int.toNat n4 * 1)) = some (.int .u8 x24) ∧
  bif x24 != 1 then (
  Calls Try.prog 73 #[.pointer (some (blk p)), .int .i64 4] ww7 fun ee25 ww26 => ee25 = .returned (.tuple #[]) ∧
  RR (.int .u64 0) ww26) else (
  bif decide (n4 > 0) then (
  (some (blk p)).elim False fun a27 =>
  ∃ (B28a : Option Addr) (B28n : Nat) (B28c : Nat), ww7.cell? (a27.add 0) = some (.slice B28a B28n B28c) ∧
  B28a.elim False fun a29 =>
  0 ≤ (n4 : Int) ∧ (n4 : Int) < (B28n : Int) ∧
  ∃ (x30 : Int), ww7.cell? (a29.add (Int.toNat n4 * 1)) = some (.int .u8 x30) ∧
  bif x30 == 0 then (
  Calls Try.prog 73 #[.pointer (some (blk p)), .int .i64 4] ww7 fun ee31 ww32 => ee31 = .returned (.tuple #[]) ∧
  RR (.int .u64 0) ww32) else (
  loop2P RR ww7 p n4)) else (
  loop2P RR ww7 p n4))) else (
  bif decide (n4 > 0) then (
  (some (blk p)).elim False fun a61 =>
  ∃ (B62a : Option Addr) (B62n : Nat) (B62c : Nat), ww7.cell? (a61.add 0) = some (.slice B62a B62n B62c) ∧
  B62a.elim False fun a63 =>
  0 ≤ (n4 : Int) ∧ (n4 : Int) < (B62n : Int) ∧
  ∃ (x64 : Int), ww7.cell? (a63.add (Int.toNat n4 * 1)) = some (.int .u8 x64) ∧
  bif x64 == 0 then (
  Calls Try.prog 73 #[.pointer (some (blk p)), .int .i64 4] ww7 fun ee65 ww66 => ee65 = .returned (.tuple #[]) ∧
  RR (.int .u64 0) ww66) else (
  loop2P RR ww7 p n4)) else (
  loop2P RR ww7 p n4))))
theorem exit_ok (h : RdR w p N bs 0) (hl : bs.length < 1000000) {n : Nat} (hn : n ≤ bs.length) (h10 : n ≤ 10) (hc : ∀ c ∈ bs.take n, 128 ≤ c.toNat) (hs : n = bs.length ∨ n = 10 ∨ ∃ hn : n < bs.length, bs[n].toNat < 128) :
    exitP (fun v w' => v = .int .u64 (numR (bs, 0)).1 ∧ RdR w' p N (numR (bs, 0)).2.1 (numR (bs, 0)).2.2 ∧ Ext (fun b => b = p) w w') w p n := by
  obtain ⟨hNp, a, c, h1, h2, h3, h4⟩ := id h
  -- where there is no number
  have bad : widthF 0 bs = 0 → Calls Try.prog 73 #[.pointer (some (blk p)), .int .i64 4] w fun ee ww => ee = .returned (.tuple #[]) ∧ (fun v w' => v = Value.int .u64 (numR (bs, 0)).1 ∧ RdR w' p N (numR (bs, 0)).2.1 (numR (bs, 0)).2.2 ∧ Ext (fun b => b = p) w w') (.int .u64 0) ww := fun hz => by
    have hnum : numR (bs, 0) = (0, ([], 4)) := by unfold numR rdNum; simp [hz]
    rw [hnum]
    exact (rFail_spec h 4).mono fun e w9 ⟨he, hr, hx⟩ => ⟨he, rfl, hr, hx⟩
  unfold exitP
  refine ⟨a, bs.length, c, h1.cella (i := 0) rfl, ?_⟩
  by_cases c1 : n = bs.length
  · rw [decide_eq_true (by omega : (n : Int) ≥ (bs.length : Int)), cond_true]
    refine bad ?_
    by_cases c2 : n ≤ 9
    · rw [width_skip n 0 bs (by omega) (by omega) hc, List.drop_eq_nil_of_le (by omega)]; rfl
    · exact width_over (by omega) (by rw [show (10 : Nat) = n by omega]; exact hc)
  rw [decide_eq_false (by omega : ¬ (n : Int) ≥ (bs.length : Int)), cond_false]
  have hnl : n < bs.length := by omega
  by_cases c2 : n = 10
  · rw [decide_eq_true (by omega : (n : Int) ≥ 10), cond_true]
    exact bad (width_over (by omega) (by rw [show (10 : Nat) = n by omega]; exact hc))
  rw [decide_eq_false (by omega : ¬ (n : Int) ≥ 10), cond_false]
  have hlt : bs[n].toNat < 128 := by
    rcases hs with hs | hs | ⟨_, hs⟩
    · exact absurd hs c1
    · exact absurd hs c2
    · exact hs
  have hskip := width_skip n 0 bs (by omega) (by omega) hc
  rw [List.drop_eq_getElem_cons hnl, Nat.zero_add] at hskip
  simp only [widthF] at hskip
  obtain ⟨ad, rfl⟩ := h3.addr (by intro e; rw [bytesV, List.map_eq_nil_iff] at e; subst e; simp at hnl)
  have hcell : w.cell? (ad.add (Int.toNat (n : Int) * 1)) = some (.int .u8 (bs[n].toNat : Int)) := by rw [Int.toNat_natCast, Nat.mul_one]; exact h3.at_ (bytesV_get hnl)
  -- behind the test for the last byte of all
  have rest : ¬ (n = 9 ∧ bs[n].toNat ≠ 1) → (n > 0 → bs[n].toNat = 0 → widthF 0 bs = 0) ∧ ((n > 0 → bs[n].toNat ≠ 0) → widthF 0 bs = n + 1) := fun hq => by
    rw [if_neg hq, if_pos hlt] at hskip
    exact ⟨fun q1 q2 => by rw [hskip, if_pos ⟨q2, q1⟩], fun q => by rw [hskip, if_neg fun ⟨e1, e2⟩ => q e2 e1]⟩
  by_cases c9 : n = 9
  · rw [beq_iff_eq.2 (by omega : (n : Int) = 9), cond_true]
    refine ⟨_, _, _, h1.cella (i := 0) rfl, by omega, by omega, _, hcell, ?_⟩
    by_cases c8 : bs[n].toNat = 1
    · rw [show ((bs[n].toNat : Int) != 1) = false by simp; omega, cond_false, decide_eq_true (by omega : (n : Int) > 0), cond_true]
      refine ⟨_, _, _, h1.cella (i := 0) rfl, by omega, by omega, _, hcell, ?_⟩
      rw [beq_eq_false_iff_ne.2 (by omega : (bs[n].toNat : Int) ≠ 0), cond_false]
      exact loop2_ok h hl hnl ((rest fun q => q.2 c8).2 fun _ => by omega)
    · rw [show ((bs[n].toNat : Int) != 1) = true by simp; omega, cond_true]
      refine bad ?_
      rw [hskip, if_pos ⟨c9, c8⟩]
  · rw [beq_eq_false_iff_ne.2 (by omega : (n : Int) ≠ 9), cond_false]
    have hrest := rest fun q => c9 q.1
    by_cases c0 : n > 0
    · rw [decide_eq_true (by omega : (n : Int) > 0), cond_true]
      refine ⟨_, _, _, h1.cella (i := 0) rfl, by omega, by omega, _, hcell, ?_⟩
      by_cases cz : bs[n].toNat = 0
      · rw [beq_iff_eq.2 (by omega : (bs[n].toNat : Int) = 0), cond_true]
        exact bad (hrest.1 c0 cz)
      · rw [beq_eq_false_iff_ne.2 (by omega : (bs[n].toNat : Int) ≠ 0), cond_false]
        exact loop2_ok h hl hnl (hrest.2 fun _ => cz)
    · rw [decide_eq_false (by omega : ¬ (n : Int) > 0), cond_false]
      exact loop2_ok h hl hnl (hrest.2 fun q => absurd q c0)
theorem rRNum_spec (h : RdR w p N bs k) (hl : bs.length < 1000000) :
    Calls Try.prog 51 #[.pointer (some (blk p))] w (GivesW (.int .u64 (numR (bs, k)).1) fun w' => RdR w' p N (numR (bs, k)).2.1 (numR (bs, k)).2.2 ∧ Ext (fun b => b = p) w w') := by
  refine (rRNum.ok _ (R := fun v w' => v = .int .u64 (numR (bs, k)).1 ∧ RdR w' p N (numR (bs, k)).2.1 (numR (bs, k)).2.2 ∧ Ext (fun b => b = p) w w') ?_).mono fun e w' ⟨v, he, hv, hw⟩ => ⟨by rw [he, hv], hw⟩
  unfold rRNum.M
  obtain ⟨hNp, a, c, h1, h2, h3, h4⟩ := id h
  refine ⟨_, h1.cella (i := 1) rfl, ?_⟩
  by_cases hk : k = 0
  · subst hk
    rw [show ((0 : Int) != 0) = false from rfl, cond_false]
    refine ⟨fun j vs w1 => ∃ n : Nat, vs = [.int .i64 n] ∧ j + n = 10 ∧ n ≤ bs.length ∧ (∀ c ∈ bs.take n, 128 ≤ c.toNat) ∧ w1 = w, 10, ⟨0, rfl, rfl, Nat.zero_le _, by simp, rfl⟩, ?_⟩
    rintro j w1 i ⟨n, hi, hj, hn, hc, rfl⟩
    simp only [List.cons.injEq, Value.int.injEq, true_and, and_true] at hi
    subst hi
    refine ⟨_, _, _, h1.cella (i := 0) rfl, ?_⟩
    by_cases c1 : n < bs.length
    · rw [decide_eq_true (by omega : (n : Int) < (bs.length : Int)), cond_true]
      by_cases c2 : n < 10
      · rw [decide_eq_true (by omega : (n : Int) < 10), cond_true]
        obtain ⟨ad, rfl⟩ := h3.addr (by intro e; rw [bytesV, List.map_eq_nil_iff] at e; subst e; simp at c1)
        refine ⟨_, _, _, h1.cella (i := 0) rfl, by omega, by omega, _, by rw [Int.toNat_natCast, Nat.mul_one]; exact h3.at_ (bytesV_get c1), ?_⟩
        by_cases c3 : 128 ≤ bs[n].toNat
        · rw [decide_eq_true (by omega : (bs[n].toNat : Int) ≥ 128), cond_true]
          refine ⟨j - 1, by omega, n + 1, by rw [w64 (by omega) (by omega)]; rfl, by omega, by omega, fun d hd => ?_, rfl⟩
          rw [List.take_add_one, show bs[n]?.toList = [bs[n]] by simp [c1]] at hd
          rcases List.mem_append.1 hd with hd | hd
          · exact hc d hd
          · rw [List.mem_singleton] at hd; rw [hd]; exact c3
        · rw [decide_eq_false (by omega : ¬ (bs[n].toNat : Int) ≥ 128), cond_false]
          exact exit_ok h hl (by omega) (by omega) hc (.inr (.inr ⟨c1, by omega⟩))
      · rw [decide_eq_false (by omega : ¬ (n : Int) < 10), cond_false]
        exact exit_ok h hl (by omega) (by omega) hc (.inr (.inl (by omega)))
    · rw [decide_eq_false (by omega : ¬ (n : Int) < (bs.length : Int)), cond_false]
      exact exit_ok h hl (by omega) (by omega) hc (.inl (by omega))
  · rw [show (k != 0) = true by simpa using hk, cond_true]
    have hn : numR (bs, k) = (0, (bs, k)) := by unfold numR; rw [if_neg hk]
    rw [hn]
    exact ⟨rfl, h, Ext.refl _ _⟩
theorem rCount_spec (h : RdR w p N bs k) (hl : bs.length < 1000000) {m : Int} (hm0 : 0 ≤ m) (hm : m < 4611686018427387904) :
    Calls Try.prog 50 #[.pointer (some (blk p)), .int .i64 m] w (GivesW (.int .i64 (countR m (bs, k)).1) fun w' => RdR w' p N (countR m (bs, k)).2.1 (countR m (bs, k)).2.2 ∧ Ext (fun b => b = p) w w') := by
  refine (rRCount.ok _ _ (R := fun v w' => v = .int .i64 (countR m (bs, k)).1 ∧ RdR w' p N (countR m (bs, k)).2.1 (countR m (bs, k)).2.2 ∧ Ext (fun b => b = p) w w') ?_).mono fun e w' ⟨v, he, hv, hw⟩ => ⟨by rw [he, hv], hw⟩
  unfold rRCount.M
  have hlt := W.numR_lt (bs, k)
  have hbad : (numR (bs, k)).2.2 ≠ 0 → (numR (bs, k)).1 = 0 := fun hb => by
    unfold numR at hb ⊢
    by_cases h0 : k = 0
    · rw [if_pos h0] at hb ⊢
      cases hr : rdNum bs with
      | none => rfl
      | some q => rw [hr] at hb; exact absurd rfl hb
    · rw [if_neg h0]
  refine (rRNum_spec h hl).mono fun e w5 ⟨he, hr5, hx5⟩ => ⟨_, he, ?_⟩
  unfold countR
  generalize numR (bs, k) = s at *
  obtain ⟨n, bs', k'⟩ := s
  simp only at *
  obtain ⟨hNp, a, c, h1, _⟩ := id hr5
  refine ⟨_, h1.cella (i := 1) rfl, ?_⟩
  by_cases hk : k' = 0
  · subst hk
    rw [if_pos rfl, show ((0 : Int) == 0) = true from rfl, cond_true, decide_eq_false (by omega : ¬ m < 0), cond_false, wu64 (n := m) (by omega) (by omega)]
    by_cases c2 : (n : Int) > m
    · rw [decide_eq_true c2, cond_true, if_pos (.inr c2)]
      exact (rFail_spec hr5 3).mono fun e w9 ⟨he, hr, hx⟩ => ⟨he, rfl, hr, hx5.trans hx⟩
    · rw [decide_eq_false c2, cond_false, if_neg (fun h => h.elim (by omega) c2), w64 (by omega) (by omega)]
      exact ⟨rfl, hr5, hx5⟩
  · rw [if_neg hk, beq_eq_false_iff_ne.2 hk, cond_false, hbad hk]
    exact ⟨rfl, hr5, hx5⟩
end
end Go.Proofs.Ytmhfoieeldiecaa.W

/- The program's orders. -/
set_option maxRecDepth 20000
namespace Go.Proofs.Ytmhfoieeldiecaa
open Go Go.Mx Go.Proofs
theorem follows : Try.prog.follows .mixedOrders = true := by kernel_rfl
end Go.Proofs.Ytmhfoieeldiecaa

/- A struct of numbers: when two are the same. -/
set_option linter.unusedVariables false
set_option linter.unusedSimpArgs false
set_option maxRecDepth 20000
namespace Go.Proofs.Ytmhfoieeldiecaa
open Go Go.Mx Go.Proofs
end Go.Proofs.Ytmhfoieeldiecaa
