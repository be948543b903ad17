/- Wire: the numbers of a reader. -/
import Derived.Test.YtgagmbmkpfjbbaaWirA
set_option linter.unusedVariables false
set_option linter.unusedSimpArgs false
set_option maxRecDepth 20000
namespace Go.Proofs.Ytgagmbmkpfjbbaa.W
open Go Go.Mx Go.Proofs
def tab8 : ByteArray := ByteArray.mk #[0, 1, 2, 2, 3, 3, 3, 3, 4, 4, 4, 4, 4, 4, 4, 4, 5, 5, 5, 5, 5, 5, 5, 5, 5, 5, 5, 5, 5, 5, 5, 5, 6, 6, 6, 6, 6, 6, 6, 6, 6, 6, 6, 6, 6, 6, 6, 6, 6, 6, 6, 6, 6, 6, 6, 6, 6, 6, 6, 6, 6, 6, 6, 6, 7, 7, 7, 7, 7, 7, 7, 7, 7, 7, 7, 7, 7, 7, 7, 7, 7, 7, 7, 7, 7, 7, 7, 7, 7, 7, 7, 7, 7, 7, 7, 7, 7, 7, 7, 7, 7, 7, 7, 7, 7, 7, 7, 7, 7, 7, 7, 7, 7, 7, 7, 7, 7, 7, 7, 7, 7, 7, 7, 7, 7, 7, 7, 7, 8, 8, 8, 8, 8, 8, 8, 8, 8, 8, 8, 8, 8, 8, 8, 8, 8, 8, 8, 8, 8, 8, 8, 8, 8, 8, 8, 8, 8, 8, 8, 8, 8, 8, 8, 8, 8, 8, 8, 8, 8, 8, 8, 8, 8, 8, 8, 8, 8, 8, 8, 8, 8, 8, 8, 8, 8, 8, 8, 8, 8, 8, 8, 8, 8, 8, 8, 8, 8, 8, 8, 8, 8, 8, 8, 8, 8, 8, 8, 8, 8, 8, 8, 8, 8, 8, 8, 8, 8, 8, 8, 8, 8, 8, 8, 8, 8, 8, 8, 8, 8, 8, 8, 8, 8, 8, 8, 8, 8, 8, 8, 8, 8, 8, 8, 8, 8, 8, 8, 8, 8, 8, 8, 8, 8, 8, 8, 8]
theorem tab8_at {b : Nat} (hb : b < 256) : ∃ v, tab8[b]? = some v ∧ v.toNat ≤ 8 ∧ (6 < v.toNat ↔ 64 ≤ b) := by
  have key : ∀ m : Fin 256, (tab8[m.val]?).isSome = true ∧ ((tab8[m.val]?).getD 0).toNat ≤ 8 ∧ (6 < ((tab8[m.val]?).getD 0).toNat ↔ 64 ≤ m.val) := by decide +kernel
  obtain ⟨k1, k2, k3⟩ := key ⟨b, hb⟩
  simp only at k1 k2 k3
  obtain ⟨v, hv⟩ := Option.isSome_iff_exists.1 k1
  rw [hv] at k2 k3
  exact ⟨v, hv, k2, k3⟩
theorem shr_nat (n k : Nat) (hk : k ≤ 64) : Int.fdiv (n : Int) (2 ^ (min k (IntKind.bits .u64))) = ((n / 2 ^ k : Nat) : Int) := by
  rw [show min k (IntKind.bits .u64) = k by rw [show IntKind.bits .u64 = 64 from rfl]; omega, Int.fdiv_eq_ediv_of_nonneg _ (Int.le_of_lt (Int.pow_pos (by decide))), Int.natCast_ediv, Int.natCast_pow]
  rfl
section
variable {w w' : World} {p : Nat} {bs : List UInt8} {k : Int}
/-- Num of a reader: the number, and what the reader then has. -/
def numR (s : List UInt8 × Int) : Nat × (List UInt8 × Int) :=
  if s.2 = 0 then (match rdNum s.1 with | some (n, r) => (n, (r, 0)) | none => (0, ([], 4))) else (0, s)
theorem numR_lt (s : List UInt8 × Int) : (numR s).1 < 18446744073709551616 := by
  unfold numR
  split
  · cases h : rdNum s.1 with
    | none => exact (by decide : 0 < 18446744073709551616)
    | some q => obtain ⟨n, r⟩ := q; exact (rd_back h).2
  · exact (by decide : 0 < 18446744073709551616)
theorem rdNum_len {bs r : List UInt8} {n : Nat} (h : rdNum bs = some (n, r)) : r.length ≤ bs.length := by
  obtain ⟨h1, _⟩ := rd_back h
  rw [h1]; simp
theorem numR_len (s : List UInt8 × Int) : (numR s).2.1.length ≤ s.1.length := by
  unfold numR
  split
  · cases h : rdNum s.1 with
    | none => simp
    | some q => obtain ⟨n, r⟩ := q; exact rdNum_len h
  · exact Nat.le_refl _
/-- Count: a number that is not above so much. -/
def countR (m : Int) (s : List UInt8 × Int) : Nat × (List UInt8 × Int) :=
  if (numR s).2.2 = 0 then (if m < 0 ∨ ((numR s).1 : Int) > m then (0, ([], 3)) else numR s) else (0, (numR s).2)
theorem countR_len (m : Int) (s : List UInt8 × Int) : (countR m s).2.1.length ≤ s.1.length := by
  have := numR_len s
  unfold countR
  split
  · split
    · simp
    · exact this
  · exact this
def doneR (s : List UInt8 × Int) : Int := if s.2 = 0 then (if s.1.length > 0 then 4 else 0) else s.2
end
end Go.Proofs.Ytgagmbmkpfjbbaa.W
