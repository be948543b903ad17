/- Numbers in as few bytes as they need: what they are written as, and how they are read. -/
import Derived.Test.YtgagmbmkpfjbbaaMxP
set_option linter.unusedSimpArgs false
set_option linter.unusedVariables false
set_option linter.unnecessarySimpa false
namespace Go.Mx
def numF : Nat → Nat → List UInt8
  | 0, _ => []
  | k + 1, n => if n < 128 then [UInt8.ofNat n] else UInt8.ofNat (n % 128 + 128) :: numF k (n / 128)
def numL (n : Nat) : List UInt8 := numF 10 n
def widthF : Nat → List UInt8 → Nat
  | _, [] => 0
  | i, c :: r => if i = 9 ∧ c.toNat ≠ 1 then 0 else if c.toNat < 128 then (if c.toNat = 0 ∧ 0 < i then 0 else i + 1) else widthF (i + 1) r
def valW : List UInt8 → Nat
  | [] => 0
  | c :: r => c.toNat % 128 + 128 * valW r
def rdNum (bs : List UInt8) : Option (Nat × List UInt8) := if widthF 0 bs = 0 then none else some (valW (bs.take (widthF 0 bs)), bs.drop (widthF 0 bs))
theorem ofNat_lt {n : Nat} (h : n < 256) : (UInt8.ofNat n).toNat = n := by simp; omega
theorem numF_len : ∀ k n, 0 < k → 0 < (numF k n).length
  | k + 1, n, _ => by
    simp only [numF]
    split <;> simp
theorem numF_le : ∀ k n, (numF k n).length ≤ k
  | 0, n => Nat.le_refl _
  | k + 1, n => by
    simp only [numF]
    have := numF_le k (n / 128)
    split <;> simp <;> omega
theorem valW_num : ∀ k n, n < 128 ^ k → valW (numF k n) = n
  | 0, n, h => by simp at h; subst h; rfl
  | k + 1, n, h => by
    simp only [numF]
    by_cases hn : n < 128
    · rw [if_pos hn]
      simp only [valW]
      rw [ofNat_lt (by omega)]; omega
    · rw [if_neg hn]
      simp only [valW]
      rw [ofNat_lt (by omega), valW_num k (n / 128) (by rw [Nat.pow_succ] at h; omega)]
      omega
theorem width_num : ∀ (k i n : Nat) (rest : List UInt8), k + i = 10 → 0 < k → n < 2 ^ (64 - 7 * i) → (0 < i → 0 < n) → widthF i (numF k n ++ rest) = i + (numF k n).length
  | 0, i, n, rest, h, h0, _, _ => absurd h0 (by omega)
  | k + 1, i, n, rest, h, _, hn, hp => by
    simp only [numF]
    by_cases h1 : n < 128
    · rw [if_pos h1]
      simp only [List.cons_append, List.nil_append, widthF]
      rw [ofNat_lt (by omega)]
      have hi9 : ¬ (i = 9 ∧ n ≠ 1) := fun ⟨e, e2⟩ => by
        subst e
        have := hp (by omega)
        have : n < 2 := by simpa using hn
        omega
      rw [if_neg hi9, if_pos h1, if_neg (fun ⟨e, e2⟩ => by have := hp e2; omega)]
      rfl
    · rw [if_neg h1]
      simp only [List.cons_append, widthF]
      rw [ofNat_lt (by omega)]
      have hi9 : i ≠ 9 := fun e => by
        subst e
        have : n < 2 := by simpa using hn
        omega
      rw [if_neg (fun h => hi9 h.1), if_neg (by omega)]
      have hb : n / 128 < 2 ^ (64 - 7 * (i + 1)) := by
        rw [Nat.div_lt_iff_lt_mul (by decide)]
        have : 2 ^ (64 - 7 * i) = 2 ^ (64 - 7 * (i + 1)) * 128 := by
          rw [show (128 : Nat) = 2 ^ 7 from rfl, ← Nat.pow_add]
          congr 1; omega
        omega
      rw [width_num k (i + 1) (n / 128) rest (by omega) (by omega) hb (fun _ => by omega)]
      simp; omega
theorem rd_num {n : Nat} (h : n < 18446744073709551616) (rest : List UInt8) : rdNum (numL n ++ rest) = some (n, rest) := by
  have hw := width_num 10 0 n rest rfl (by decide) h (fun h => absurd h (by omega))
  rw [Nat.zero_add] at hw
  unfold rdNum numL
  rw [hw, if_neg (by have := numF_len 10 n (by decide); omega), List.take_left' rfl, List.drop_left' rfl, valW_num 10 n (by omega)]
theorem width_back : ∀ (bs : List UInt8) (i : Nat), i ≤ 9 → widthF i bs ≠ 0 → i < widthF i bs ∧ widthF i bs - i ≤ bs.length ∧ numF (10 - i) (valW (bs.take (widthF i bs - i))) = bs.take (widthF i bs - i) ∧ valW (bs.take (widthF i bs - i)) < 2 ^ (64 - 7 * i) ∧ (0 < i → 0 < valW (bs.take (widthF i bs - i)))
  | [], i, hi, h => absurd rfl h
  | c :: r, i, hi, h => by
    have hc := u8_lt c
    simp only [widthF] at h ⊢
    by_cases h9 : i = 9 ∧ c.toNat ≠ 1
    · rw [if_pos h9] at h; exact absurd rfl h
    rw [if_neg h9] at h ⊢
    by_cases h1 : c.toNat < 128
    · rw [if_pos h1] at h ⊢
      by_cases h2 : c.toNat = 0 ∧ 0 < i
      · rw [if_pos h2] at h; exact absurd rfl h
      rw [if_neg h2]
      rw [show i + 1 - i = 1 by omega, List.take_succ_cons, List.take_zero]
      have hv : valW [c] = c.toNat := by simp only [valW]; omega
      rw [hv]
      refine ⟨by omega, by simp, ?_, ?_, fun hp => Nat.pos_of_ne_zero fun e => h2 ⟨e, hp⟩⟩
      · obtain ⟨k, hk⟩ : ∃ k, 10 - i = k + 1 := ⟨9 - i, by omega⟩
        rw [hk]
        simp only [numF]
        rw [if_pos h1]
        congr 1
        apply UInt8.toNat_inj.1
        rw [ofNat_lt (by omega)]
      · by_cases e9 : i = 9
        · subst e9
          have : c.toNat = 1 := Decidable.byContradiction fun e => h9 ⟨rfl, e⟩
          rw [this]; decide
        · have : 2 ^ 7 ≤ 2 ^ (64 - 7 * i) := Nat.pow_le_pow_right (by decide) (by omega)
          omega
    · rw [if_neg h1] at h ⊢
      have hi9 : i ≠ 9 := fun e => h9 ⟨e, by omega⟩
      obtain ⟨q1, q2, q3, q4, q5⟩ := width_back r (i + 1) (by omega) h
      have q5 := q5 (by omega)
      generalize hw : widthF (i + 1) r = w at *
      obtain ⟨m, hm⟩ : ∃ m, w - i = m + 1 := ⟨w - (i + 1), by omega⟩
      have hm' : w - (i + 1) = m := by omega
      rw [hm'] at q2 q3 q4 q5
      rw [hm, List.take_succ_cons]
      simp only [valW, List.length_cons]
      generalize valW (r.take m) = V at *
      have hp : 2 ^ (64 - 7 * i) = 2 ^ (64 - 7 * (i + 1)) * 128 := by
        rw [show (128 : Nat) = 2 ^ 7 from rfl, ← Nat.pow_add]
        congr 1; omega
      refine ⟨by omega, by omega, ?_, by omega, fun _ => by omega⟩
      obtain ⟨k, hk⟩ : ∃ k, 10 - i = k + 1 := ⟨9 - i, by omega⟩
      rw [hk]
      simp only [numF]
      rw [if_neg (by omega), show (c.toNat % 128 + 128 * V) / 128 = V by omega, show (c.toNat % 128 + 128 * V) % 128 + 128 = c.toNat by omega, show k = 10 - (i + 1) by omega, q3]
      congr 1
      apply UInt8.toNat_inj.1
      rw [ofNat_lt hc]
theorem rd_back {bs r : List UInt8} {n : Nat} (h : rdNum bs = some (n, r)) : bs = numL n ++ r ∧ n < 18446744073709551616 := by
  unfold rdNum at h
  by_cases h0 : widthF 0 bs = 0
  · rw [if_pos h0] at h; cases h
  rw [if_neg h0] at h
  simp only [Option.some.injEq, Prod.mk.injEq] at h
  obtain ⟨q1, q2, q3, q4, _⟩ := width_back bs 0 (by omega) h0
  simp only [Nat.sub_zero] at q2 q3 q4
  obtain ⟨h1, h2⟩ := h
  rw [h1] at q3 q4
  refine ⟨?_, by simpa using q4⟩
  unfold numL
  rw [q3, ← h2, List.take_append_drop]

theorem or128 (n : Nat) : IntKind.u8.wrap ((BitVec.ofInt (IntKind.bits .u8) (IntKind.u8.wrap (n : Int)) ||| BitVec.ofInt (IntKind.bits .u8) 128).toNat : Int) = ((UInt8.ofNat (n % 128 + 128)).toNat : Int) := by
  have key : ∀ m : Fin 256, (m.val ||| 128) = m.val % 128 + 128 := by decide +kernel
  have kk : (n % 256 ||| 128) = n % 256 % 128 + 128 := key ⟨n % 256, by omega⟩
  have h1 : IntKind.u8.wrap (n : Int) = ((n % 256 : Nat) : Int) := by rw [IntKind.wrap_u8]; omega
  rw [h1, show IntKind.bits .u8 = 8 from rfl, BitVec.toNat_or, BitVec.ofInt_natCast, BitVec.toNat_ofNat, show (BitVec.ofInt 8 128).toNat = 128 from rfl, Nat.mod_eq_of_lt (by omega), kk, ofNat_lt (by omega), wu8 (by omega) (by omega)]
  omega
theorem and127 {x : Nat} (hx : x < 256) : IntKind.u8.wrap ((BitVec.ofInt (IntKind.bits .u8) (x : Int) &&& BitVec.ofInt (IntKind.bits .u8) 127).toNat : Int) = ((x % 128 : Nat) : Int) := by
  rw [show IntKind.bits .u8 = 8 from rfl, BitVec.toNat_and, BitVec.ofInt_natCast, BitVec.toNat_ofNat, show (BitVec.ofInt 8 127).toNat = 127 from rfl, Nat.mod_eq_of_lt (by omega), show (127 : Nat) = 2 ^ 7 - 1 from rfl, Nat.and_two_pow_sub_one_eq_mod, wu8 (by omega) (by omega)]
theorem or_shift {n x i : Nat} (hn : n < 128 ^ i) (hx : x * 128 ^ i < 18446744073709551616) (hn2 : n + x * 128 ^ i < 18446744073709551616) (hi : i ≤ 9) :
    IntKind.u64.wrap ((BitVec.ofInt (IntKind.bits .u64) (n : Int) ||| BitVec.ofInt (IntKind.bits .u64) (IntKind.u64.wrap ((x : Int) * 2 ^ (min (7 * i) (IntKind.bits .u64))))).toNat : Int) = ((n + x * 128 ^ i : Nat) : Int) := by
  have hp : (128 : Nat) ^ i = 2 ^ (7 * i) := by rw [show (128 : Nat) = 2 ^ 7 from rfl, ← Nat.pow_mul]
  rw [hp] at hn hx hn2 ⊢
  have e1 : IntKind.u64.wrap ((x : Int) * 2 ^ (min (7 * i) (IntKind.bits .u64))) = ((x * 2 ^ (7 * i) : Nat) : Int) := by
    rw [show min (7 * i) (IntKind.bits .u64) = 7 * i by rw [show IntKind.bits .u64 = 64 from rfl]; omega]
    have : (x : Int) * 2 ^ (7 * i) = ((x * 2 ^ (7 * i) : Nat) : Int) := by rw [Int.natCast_mul, Int.natCast_pow]; rfl
    rw [this, wu64 (by omega) (by omega)]
  rw [e1, show IntKind.bits .u64 = 64 from rfl, BitVec.toNat_or, BitVec.ofInt_natCast, BitVec.ofInt_natCast, BitVec.toNat_ofNat, BitVec.toNat_ofNat, Nat.mod_eq_of_lt (by omega), Nat.mod_eq_of_lt (by omega)]
  have h2 := Nat.shiftLeft_add_eq_or_of_lt (i := 7 * i) (b := n) hn x
  rw [Nat.shiftLeft_eq] at h2
  rw [Nat.or_comm, ← h2, wu64 (by omega) (by omega)]
  omega
theorem valW_snoc : ∀ (l : List UInt8) (c : UInt8), valW (l ++ [c]) = valW l + c.toNat % 128 * 128 ^ l.length
  | [], c => by simp [valW]
  | a :: r, c => by
    simp only [List.cons_append, valW, valW_snoc r c, List.length_cons, Nat.pow_succ]
    rw [Nat.mul_add, ← Nat.mul_assoc 128, Nat.mul_comm 128 (c.toNat % 128), Nat.mul_assoc (c.toNat % 128), Nat.mul_comm 128 (128 ^ r.length)]
    omega
theorem valW_lt : ∀ (l : List UInt8), valW l < 128 ^ l.length
  | [] => by simp [valW]
  | a :: r => by
    have := valW_lt r
    simp only [valW, List.length_cons, Nat.pow_succ]
    omega
theorem valW_append_le : ∀ (l r : List UInt8), valW l ≤ valW (l ++ r)
  | [], r => Nat.zero_le _
  | a :: l, r => by
    have := valW_append_le l r
    simp only [List.cons_append, valW]
    omega
end Go.Mx
