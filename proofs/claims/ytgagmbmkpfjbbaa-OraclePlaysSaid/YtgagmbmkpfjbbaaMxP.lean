/- Plain laws on numbers and bytes. -/
import Derived.Test.YtgagmbmkpfjbbaaMxK
import Derived.Laws.Bits64
import Derived.Laws.BitsLemmas
import Derived.Laws.OwnMore
set_option linter.unusedSimpArgs false
set_option linter.unusedVariables false
set_option linter.unnecessarySimpa false
namespace Go.Mx
theorem w64 {n : Int} (h0 : -9223372036854775808 ≤ n) (h1 : n < 9223372036854775808) : IntKind.i64.wrap n = n := by rw [IntKind.wrap_i64]; omega
theorem wu64 {n : Int} (h0 : 0 ≤ n) (h1 : n < 18446744073709551616) : IntKind.u64.wrap n = n := by rw [IntKind.wrap_u64]; omega
theorem wu8 {n : Int} (h0 : 0 ≤ n) (h1 : n < 256) : IntKind.u8.wrap n = n := by rw [IntKind.wrap_u8]; omega

/-! ### a number in eight bytes -/
def byteAt (h i : Nat) : UInt8 := UInt8.ofNat (h / 2 ^ (56 - 8 * i))
def boxT (h more t : Nat) : List UInt8 := ((List.range 8).map fun i => if i < t then byteAt h i else 0) ++ List.replicate more 0
def boxL (h more : Nat) : List UInt8 := boxT h more 8
theorem boxT_length (h more t : Nat) : (boxT h more t).length = 8 + more := by simp [boxT]
theorem boxL_length (h more : Nat) : (boxL h more).length = 8 + more := boxT_length _ _ _
def valOf (bs : List UInt8) : Nat := bs.foldl (fun n c => n * 256 + c.toNat) 0
def handL (bs : List UInt8) : Nat := if bs.length < 8 then 0 else if (bs.drop 8).any (fun c => c != 0) then 0 else valOf (bs.take 8)
theorem valOf_snoc (l : List UInt8) (c : UInt8) : valOf (l ++ [c]) = valOf l * 256 + c.toNat := by simp [valOf]
theorem u8_lt (c : UInt8) : c.toNat < 256 := UInt8.toNat_lt c
theorem valOf_lt : ∀ (n : Nat) (l : List UInt8), l.length = n → valOf l < 256 ^ n
  | 0, l, h => by
    have : l = [] := List.eq_nil_of_length_eq_zero h
    subst this; simp [valOf]
  | n + 1, l, h => by
    have hne : l ≠ [] := fun e => by subst e; simp at h
    rw [← List.dropLast_concat_getLast hne, valOf_snoc]
    have := valOf_lt n l.dropLast (by simp [h])
    have h2 := u8_lt (l.getLast hne)
    rw [Nat.pow_succ]
    omega
theorem or_byte {n x : Nat} (hn : n < 2 ^ 56) (hx : x < 256) :
    (BitVec.ofInt (IntKind.bits .u64) (IntKind.u64.wrap ((n : Int) * 2 ^ (min (Int.toNat 8) (IntKind.bits .u64)))) ||| BitVec.ofInt (IntKind.bits .u64) (IntKind.u64.wrap (x : Int))).toNat = n * 256 + x := by
  have e1 : IntKind.u64.wrap ((n : Int) * 2 ^ (min (Int.toNat 8) (IntKind.bits .u64))) = ((n * 256 : Nat) : Int) := by
    rw [show ((2 : Int) ^ (min (Int.toNat 8) (IntKind.bits .u64))) = 256 from rfl, wu64 (by omega) (by omega)]; omega
  rw [e1, wu64 (by omega) (by omega), show IntKind.bits .u64 = 64 from rfl, BitVec.toNat_or, BitVec.ofInt_natCast, BitVec.ofInt_natCast, BitVec.toNat_ofNat, BitVec.toNat_ofNat,
    Nat.mod_eq_of_lt (by omega), Nat.mod_eq_of_lt (by omega)]
  have := Nat.shiftLeft_add_eq_or_of_lt (i := 8) (b := x) hx n
  rw [Nat.shiftLeft_eq] at this
  exact this.symm
theorem byteAt_toNat (h i : Nat) : (byteAt h i).toNat = h / 2 ^ (56 - 8 * i) % 256 := by simp [byteAt]
theorem boxL_eq (h more : Nat) : boxL h more = [byteAt h 0, byteAt h 1, byteAt h 2, byteAt h 3, byteAt h 4, byteAt h 5, byteAt h 6, byteAt h 7] ++ List.replicate more 0 := rfl
theorem handL_box {h : Nat} (hh : h < 18446744073709551616) (more : Nat) : handL (boxL h more) = h := by
  unfold handL
  rw [if_neg (by rw [boxL_length]; omega), boxL_eq, List.drop_left' (by rfl), List.take_left' (by rfl), if_neg (by simp)]
  simp only [valOf, List.foldl_cons, List.foldl_nil, byteAt_toNat]
  simp only [Nat.mul_zero, Nat.sub_zero, Nat.mul_one, Nat.reduceMul, Nat.reduceSub, Nat.reducePow, Nat.zero_mul, Nat.zero_add, Nat.div_one]
  omega
theorem handL_lt (bs : List UInt8) : handL bs < 18446744073709551616 := by
  unfold handL
  split
  · decide
  · split
    · decide
    · have := valOf_lt 8 (bs.take 8) (by simp; omega)
      exact this
theorem handL_back {bs : List UInt8} {h : Nat} (hb : handL bs = h) (h0 : h ≠ 0) : 8 ≤ bs.length ∧ bs = boxL h (bs.length - 8) := by
  unfold handL at hb
  split at hb
  · exact absurd hb.symm h0
  · split at hb
    · exact absurd hb.symm h0
    · rename_i hl ha
      refine ⟨by omega, ?_⟩
      match bs, hl with
      | [], hl => exact absurd (by simp) hl
      | [_], hl => exact absurd (by simp) hl
      | [_, _], hl => exact absurd (by simp) hl
      | [_, _, _], hl => exact absurd (by simp) hl
      | [_, _, _, _], hl => exact absurd (by simp) hl
      | [_, _, _, _, _], hl => exact absurd (by simp) hl
      | [_, _, _, _, _, _], hl => exact absurd (by simp) hl
      | [_, _, _, _, _, _, _], hl => exact absurd (by simp) hl
      | c0 :: c1 :: c2 :: c3 :: c4 :: c5 :: c6 :: c7 :: r, _ =>
        simp only [List.drop_succ_cons, List.drop_zero, List.take_succ_cons, List.take_zero, valOf, List.foldl_cons, List.foldl_nil] at hb ha
        have hr : r = List.replicate r.length 0 := by
          rw [List.eq_replicate_iff]
          refine ⟨rfl, fun b hbm => ?_⟩
          simp only [List.any_eq_true, not_exists, not_and, bne_iff_ne, ne_eq, Decidable.not_not] at ha
          exact ha b hbm
        have k0 := u8_lt c0; have k1 := u8_lt c1; have k2 := u8_lt c2; have k3 := u8_lt c3
        have k4 := u8_lt c4; have k5 := u8_lt c5; have k6 := u8_lt c6; have k7 := u8_lt c7
        have e : ∀ i (c : UInt8), h / 2 ^ (56 - 8 * i) % 256 = c.toNat → c = byteAt h i := fun i c hc => by
          apply UInt8.toNat_inj.1; rw [byteAt_toNat]; exact hc.symm
        rw [boxL_eq]
        simp only [List.length_cons, Nat.add_sub_cancel, List.cons_append, List.nil_append]
        rw [show r.length + 1 + 1 + 1 + 1 + 1 + 1 + 1 + 1 - 8 = r.length by omega]
        rw [← e 0 c0 (by simp only [Nat.mul_zero, Nat.sub_zero, Nat.reducePow]; omega), ← e 1 c1 (by simp only [Nat.mul_one, Nat.reduceSub, Nat.reducePow]; omega), ← e 2 c2 (by simp only [Nat.reduceMul, Nat.reduceSub, Nat.reducePow]; omega),
          ← e 3 c3 (by simp only [Nat.reduceMul, Nat.reduceSub, Nat.reducePow]; omega), ← e 4 c4 (by simp only [Nat.reduceMul, Nat.reduceSub, Nat.reducePow]; omega), ← e 5 c5 (by simp only [Nat.reduceMul, Nat.reduceSub, Nat.reducePow]; omega),
          ← e 6 c6 (by simp only [Nat.reduceMul, Nat.reduceSub, Nat.reducePow]; omega), ← e 7 c7 (by simp only [Nat.reduceMul, Nat.reduceSub, Nat.reducePow, Nat.div_one]; omega), ← hr]
theorem xor_byte {x y : Int} (hx0 : 0 ≤ x) (hx : x < 256) (hy0 : 0 ≤ y) (hy : y < 256) (hne : y ≠ 0) :
    ∃ b : UInt8, IntKind.u8.wrap ((BitVec.ofInt (IntKind.bits .u8) x ^^^ BitVec.ofInt (IntKind.bits .u8) y).toNat : Int) = (b.toNat : Int) ∧ (b.toNat : Int) ≠ x := by
  rw [show IntKind.bits .u8 = 8 from rfl]
  generalize hN : (BitVec.ofInt 8 x ^^^ BitVec.ofInt 8 y) = N
  have hlt : N.toNat < 256 := N.isLt
  refine ⟨UInt8.ofNat N.toNat, ?_, ?_⟩
  · rw [wu8 (by omega) (by omega)]; simp <;> omega
  · have e1 : ((UInt8.ofNat N.toNat).toNat : Int) = N.toNat := by simp <;> omega
    rw [e1]
    intro e
    have e2 : BitVec.ofInt 8 x = N := by
      rw [← e, BitVec.ofInt_natCast]; simp
    rw [e2] at hN
    have e3 : BitVec.ofInt 8 y = 0#8 := by
      have := congrArg (fun z => N ^^^ z) hN
      simpa [← BitVec.xor_assoc] using this
    obtain ⟨n, rfl⟩ : ∃ n : Nat, y = n := ⟨y.toNat, by omega⟩
    rw [BitVec.ofInt_natCast] at e3
    have := congrArg BitVec.toNat e3
    simp at this
    omega
end Go.Mx
