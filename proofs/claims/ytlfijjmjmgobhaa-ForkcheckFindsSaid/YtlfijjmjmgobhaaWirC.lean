/- Wire: whole numbers with a sign, bytes with their length. -/
import Derived.Test.YtlfijjmjmgobhaaWirB
set_option linter.unusedVariables false
set_option linter.unusedSimpArgs false
set_option maxRecDepth 20000
namespace Go.Proofs.Ytlfijjmjmgobhaa.W
open Go Go.Mx Go.Proofs
/-- wire.Int -/
def wInt.M (b1a : Option Addr) (b1n : Nat) (b1c : Nat) (n2 : Int) (R : Value → World → Prop) (w : World) : Prop :=
  0 ≤ (1 : Int) ∧
  0 ≤ (63 : Int) ∧
  Calls Try.prog 62 #[.slice b1a b1n b1c, .int .u64 (IntKind.u64.wrap ((BitVec.ofInt (IntKind.bits .u64) (IntKind.u64.wrap ((IntKind.u64.wrap n2) * 2 ^ (min (Int.toNat 1) (IntKind.bits .u64)))) ^^^ BitVec.ofInt (IntKind.bits .u64) (IntKind.u64.wrap (Int.fdiv n2 (2 ^ (min (Int.toNat 63) (IntKind.bits .i64)))))).toNat))] w fun ee4 ww5 => ∃ (num3a : Option Addr) (num3n : Nat) (num3c : Nat), ee4 = .returned (.slice num3a num3n num3c) ∧
  R (.slice num3a num3n num3c) ww5

theorem wInt.eq (b1a : Option Addr) (b1n : Nat) (b1c : Nat) (n2 : Int) (R : Value → World → Prop) (w : World) : mfunc Try.prog [] 102 [.slice b1a b1n b1c, .int .i64 n2] R w = wInt.M b1a b1n b1c n2 R w := by kernel_rfl
theorem wInt.ok (b1a : Option Addr) (b1n : Nat) (b1c : Nat) (n2 : Int) {R : Value → World → Prop} {w : World} (h : wInt.M b1a b1n b1c n2 R w) : Calls Try.prog 102 #[.slice b1a b1n b1c, .int .i64 n2] w fun e w' => ∃ v, e = .returned v ∧ R v w' :=
  mfunc_ok follows (H := []) (args := [.slice b1a b1n b1c, .int .i64 n2]) (by rw [wInt.eq]; exact h)

/-- wire.Bytes -/
def wBytes.M (b1a : Option Addr) (b1n : Nat) (b1c : Nat) (x2a : Option Addr) (x2n : Nat) (x2c : Nat) (R : Value → World → Prop) (w : World) : Prop :=
  Calls Try.prog 62 #[.slice b1a b1n b1c, .int .u64 (IntKind.u64.wrap (x2n : Int))] w fun ee4 ww5 => ∃ (num3a : Option Addr) (num3n : Nat) (num3c : Nat), ee4 = .returned (.slice num3a num3n num3c) ∧
  ∃ (a6a : Option Addr) (a6n : Nat) (a6c : Nat) (ww7 : World), (Builtin.append_ #[26, 26] 26 #[.slice num3a num3n num3c, .slice x2a x2n x2c]).run Try.prog ww5 = .ok (.slice a6a a6n a6c) ww7 ∧
  R (.slice a6a a6n a6c) ww7

theorem wBytes.eq (b1a : Option Addr) (b1n : Nat) (b1c : Nat) (x2a : Option Addr) (x2n : Nat) (x2c : Nat) (R : Value → World → Prop) (w : World) : mfunc Try.prog [] 104 [.slice b1a b1n b1c, .slice x2a x2n x2c] R w = wBytes.M b1a b1n b1c x2a x2n x2c R w := by kernel_rfl
theorem wBytes.ok (b1a : Option Addr) (b1n : Nat) (b1c : Nat) (x2a : Option Addr) (x2n : Nat) (x2c : Nat) {R : Value → World → Prop} {w : World} (h : wBytes.M b1a b1n b1c x2a x2n x2c R w) : Calls Try.prog 104 #[.slice b1a b1n b1c, .slice x2a x2n x2c] w fun e w' => ∃ v, e = .returned v ∧ R v w' :=
  mfunc_ok follows (H := []) (args := [.slice b1a b1n b1c, .slice x2a x2n x2c]) (by rw [wBytes.eq]; exact h)

/-- a number with a sign, as one without. -/
def zig (n : Int) : Nat := if 0 ≤ n then (2 * n).toNat else (-2 * n - 1).toNat
def unzig (m : Nat) : Int := if m % 2 = 0 then (m / 2 : Nat) else -((m / 2 : Nat) : Int) - 1
theorem unzig_zig (n : Int) : unzig (zig n) = n := by
  unfold unzig zig
  by_cases h : 0 ≤ n
  · rw [if_pos h, if_pos (by omega)]; omega
  · rw [if_neg h, if_neg (by omega)]; omega
theorem zig_unzig (m : Nat) : zig (unzig m) = m := by
  unfold unzig zig
  by_cases h : m % 2 = 0
  · rw [if_pos h, if_pos (by omega)]; omega
  · rw [if_neg h, if_neg (by omega)]; omega
theorem zig_bits {n : Int} (h0 : -9223372036854775808 ≤ n) (h1 : n < 9223372036854775808) :
    IntKind.u64.wrap ((BitVec.ofInt (IntKind.bits .u64) (IntKind.u64.wrap ((IntKind.u64.wrap n) * 2 ^ (min (Int.toNat 1) (IntKind.bits .u64)))) ^^^ BitVec.ofInt (IntKind.bits .u64) (IntKind.u64.wrap (Int.fdiv n (2 ^ (min (Int.toNat 63) (IntKind.bits .i64)))))).toNat : Int) = ((zig n : Nat) : Int) := by
  rw [show min (Int.toNat 1) (IntKind.bits .u64) = 1 from rfl, show min (Int.toNat 63) (IntKind.bits .i64) = 63 from rfl, show IntKind.bits .u64 = 64 from rfl, Int.fdiv_eq_ediv_of_nonneg _ (by decide)]
  unfold zig
  by_cases h : 0 ≤ n
  · rw [if_pos h, wu64 (n := n) h (by omega), show n / 2 ^ 63 = 0 by omega, wu64 (n := n * 2 ^ 1) (by omega) (by omega), wu64 (n := 0) (by decide) (by decide)]
    obtain ⟨m, rfl⟩ : ∃ m : Nat, n = m := ⟨n.toNat, by omega⟩
    rw [show ((m : Int) * 2 ^ 1) = ((m * 2 : Nat) : Int) by omega, BitVec.ofInt_natCast, show BitVec.ofInt 64 0 = 0#64 from rfl, BitVec.xor_zero, BitVec.toNat_ofNat, Nat.mod_eq_of_lt (by omega), wu64 (by omega) (by omega)]
    omega
  · rw [if_neg h, show n / 2 ^ 63 = -1 by omega]
    have e1 : IntKind.u64.wrap (-1) = ((18446744073709551615 : Nat) : Int) := by rw [IntKind.wrap_u64]; rfl
    have e2 : IntKind.u64.wrap (IntKind.u64.wrap n * 2 ^ 1) = (((18446744073709551616 + 2 * n).toNat : Nat) : Int) := by rw [IntKind.wrap_u64, IntKind.wrap_u64]; omega
    rw [e1, e2, BitVec.ofInt_natCast, BitVec.ofInt_natCast, show BitVec.ofNat 64 18446744073709551615 = BitVec.allOnes 64 from rfl, BitVec.xor_allOnes, BitVec.toNat_not, BitVec.toNat_ofNat, Nat.mod_eq_of_lt (by omega), wu64 (by omega) (by omega)]
    omega
theorem unzig_bits {m : Nat} (h : m < 18446744073709551616) :
    IntKind.i64.wrap ((BitVec.ofInt (IntKind.bits .i64) (IntKind.i64.wrap (Int.fdiv (m : Int) (2 ^ (min (Int.toNat 1) (IntKind.bits .u64))))) ^^^ BitVec.ofInt (IntKind.bits .i64) (IntKind.i64.wrap (0 - (IntKind.i64.wrap (IntKind.u64.wrap ((BitVec.ofInt (IntKind.bits .u64) (m : Int) &&& BitVec.ofInt (IntKind.bits .u64) 1).toNat)))))).toNat : Int) = unzig m := by
  rw [show min (Int.toNat 1) (IntKind.bits .u64) = 1 from rfl, show IntKind.bits .u64 = 64 from rfl, show IntKind.bits .i64 = 64 from rfl, Int.fdiv_eq_ediv_of_nonneg _ (by decide), BitVec.toNat_and, BitVec.ofInt_natCast, BitVec.toNat_ofNat, Nat.mod_eq_of_lt (by omega), show (BitVec.ofInt 64 1).toNat = 1 from rfl, Nat.and_one_is_mod,
    show ((m : Int) / 2 ^ 1) = ((m / 2 : Nat) : Int) by omega, w64 (n := ((m / 2 : Nat) : Int)) (by omega) (by omega), wu64 (n := ((m % 2 : Nat) : Int)) (by omega) (by omega), w64 (n := ((m % 2 : Nat) : Int)) (by omega) (by omega), w64 (n := 0 - ((m % 2 : Nat) : Int)) (by omega) (by omega)]
  unfold unzig
  by_cases h2 : m % 2 = 0
  · rw [if_pos h2, h2, show (0 : Int) - ((0 : Nat) : Int) = 0 from rfl, show BitVec.ofInt 64 0 = 0#64 from rfl, BitVec.xor_zero, BitVec.ofInt_natCast, BitVec.toNat_ofNat, Nat.mod_eq_of_lt (by omega), w64 (by omega) (by omega)]
  · rw [if_neg h2, show m % 2 = 1 by omega, show (0 : Int) - ((1 : Nat) : Int) = -1 from rfl, show BitVec.ofInt 64 (-1) = BitVec.allOnes 64 from rfl, BitVec.xor_allOnes, BitVec.toNat_not, BitVec.ofInt_natCast, BitVec.toNat_ofNat, Nat.mod_eq_of_lt (by omega), IntKind.wrap_i64]
    omega
theorem zig_lt {n : Int} (h0 : -9223372036854775808 ≤ n) (h1 : n < 9223372036854775808) : zig n < 18446744073709551616 := by
  unfold zig; split <;> omega
section
variable {w w' : World} {a : Option Addr} {c N p : Nat} {bs : List UInt8} {k : Int}
theorem Int_spec (h : RowAt w a (bytesV bs)) (hl : bs.length ≤ 1000000) {n : Int} (h0 : -9223372036854775808 ≤ n) (h1 : n < 9223372036854775808) :
    Calls Try.prog 102 #[.slice a bs.length c, .int .i64 n] w (fun e w' => ∃ a' c', e = .returned (.slice a' (bs ++ numL (zig n)).length c') ∧ OwnB w.heap.size w' a' c' (bs ++ numL (zig n)) ∧ Ext no w w') := by
  refine (wInt.ok _ _ _ _ (R := fun v w' => ∃ a' c', v = (.slice a' (bs ++ numL (zig n)).length c') ∧ OwnB w.heap.size w' a' c' (bs ++ numL (zig n)) ∧ Ext no w w') ?_).mono fun e w' ⟨v, he, a', c', hv, hw⟩ => ⟨a', c', by rw [he, hv], hw⟩
  unfold wInt.M
  refine ⟨by decide, by decide, ?_⟩
  rw [zig_bits h0 h1]
  exact (Num_spec h hl (zig_lt h0 h1)).mono fun e w5 ⟨a', c', he, hO, hx⟩ => ⟨a', _, c', he, a', c', rfl, hO, hx⟩
theorem Bytes_spec (h : RowAt w a (bytesV bs)) (hl : bs.length ≤ 1000000) {xa : Option Addr} {xc : Nat} {xs : List UInt8} (hx : RowAt w xa (bytesV xs)) (hxl : xs.length ≤ 1000000) :
    Calls Try.prog 104 #[.slice a bs.length c, .slice xa xs.length xc] w (fun e w' => ∃ a' c', e = .returned (.slice a' (bs ++ numL xs.length ++ xs).length c') ∧ OwnB w.heap.size w' a' c' (bs ++ numL xs.length ++ xs) ∧ Ext no w w') := by
  refine (wBytes.ok _ _ _ _ _ _ (R := fun v w' => ∃ a' c', v = (.slice a' (bs ++ numL xs.length ++ xs).length c') ∧ OwnB w.heap.size w' a' c' (bs ++ numL xs.length ++ xs) ∧ Ext no w w') ?_).mono fun e w' ⟨v, he, a', c', hv, hw⟩ => ⟨a', c', by rw [he, hv], hw⟩
  unfold wBytes.M
  rw [wu64 (n := (xs.length : Int)) (by omega) (by omega)]
  refine (Num_spec h hl (by omega)).mono fun e w5 ⟨a5, c5, he, hO, hx5⟩ => ⟨a5, _, c5, he, ?_⟩
  have hnl : (numL xs.length).length ≤ 10 := numF_le 10 _
  obtain ⟨a', c', w7, hr, hO7, hx7⟩ := hO.append (t := 26) (ty := 26) Try.underlying26 hx5.size (xc := xc) (hx.no hx5) (by rw [List.length_append]; omega)
  exact ⟨a', _, c', w7, hr, a', c', rfl, hO7, hx5.then hx7 fun b hb => .inr hb⟩
def intR (s : List UInt8 × Int) : Int × (List UInt8 × Int) := (unzig (numR s).1, (numR s).2)
end
end Go.Proofs.Ytlfijjmjmgobhaa.W
