/- The oracle, as an owner of blocks. -/
import Derived.Test.YtgagmbmkpfjbbaaOraD
set_option linter.unusedVariables false
set_option linter.unusedSimpArgs false
set_option maxRecDepth 20000
namespace Go.Proofs.Ytgagmbmkpfjbbaa
open Go Go.Mx Go.Proofs
/-- the oracle of an owner. -/
def POrc (w : World) (o : Own) (k : Nat) (S : OS) : Prop := ∃ g : OG, g.p = k ∧ Orc w g S ∧ (∀ b, g.m b → o b = some k) ∧ (∀ b, b < w.heap.size → ∀ j, o b = some j → j ≠ k → g.x b)
/-- what a call hands back, whom it lets turn, and what then is. -/
def Gs (K : Nat → Prop) (w : World) (o : Own) (v : Value) (Q : World → Own → Prop) (e : Ending) (w' : World) : Prop := ∃ o', e = .returned v ∧ Step K w o w' o' ∧ Q w' o'
section
variable {w w' : World} {o o' : Own} {k : Nat} {S : OS} {K : Nat → Prop}
theorem POrc.lt (h : POrc w o k S) : k < w.heap.size := by obtain ⟨g, rfl, h1, _⟩ := h; exact h1.mlt _ m_p
theorem POrc.own (h : POrc w o k S) : o k = some k := by obtain ⟨g, rfl, _, h2, _⟩ := h; exact h2 _ m_p
theorem POrc.step (h : POrc w o k S) (s : Step K w o w' o') (hk : ¬ K k) : POrc w' o' k S := by
  obtain ⟨g, h0, h1, h2, h3⟩ := h
  refine ⟨g.more w w', h0, h1.foreign s.ext fun b hb ⟨j, hj, hK⟩ => h3 b hb j hj fun e => hk (e ▸ hK), fun b hb => ?_, fun b hb j hj hne => ?_⟩
  · rw [s.same b (h1.mlt b hb)]; exact h2 b hb
  · by_cases hl : b < w.heap.size
    · rw [s.same b hl] at hj; exact .inl (h3 b hl j hj hne)
    · exact .inr ⟨by omega, hb⟩
theorem own_out {g : OG} {a : Option Addr} {cs : List Value} (h2 : ∀ b, g.m b → o b = some k) (hr : Row w o a cs) : cs ≠ [] → Out g.m a := fun h0 ad ha hm => by
  have := h2 _ hm
  rw [hr.2 h0 ad ha] at this; cases this
theorem POrc.turn {g : OG} {S' : OS} (h2 : ∀ b, g.m b → o b = some g.p) (h3 : ∀ b, b < w.heap.size → ∀ j, o b = some j → j ≠ g.p → g.x b) (hl : ∀ b, g.m b → b < w.heap.size) (ok : Tags w o) (h : Orc w' g S') (X : Ext g.m w w') :
    Step (fun j => j = g.p) w o w' (grow w o) ∧ POrc w' (grow w o) g.p S' := by
  refine ⟨Step.of_ext X ok fun b hb _ => h2 b hb, g, rfl, h, fun b hb => ?_, fun b hb j hj hne => ?_⟩
  · rw [grow_lt (hl b hb)]; exact h2 b hb
  · by_cases hlt : b < w.heap.size
    · rw [grow_lt hlt] at hj; exact h3 b hlt j hj hne
    · rw [grow_ge (by omega)] at hj; cases hj
open Classical in
theorem NewO (ok : Tags w o) {a : Option Addr} {c : Nat} {l : List Int} (h : RowAt w a (l.map u64V)) (hl : l.length ≤ 1000000) :
    Calls Try.prog 7 #[.slice a l.length c] w (fun e w' => ∃ k o', e = .returned (.pointer (some (blk k))) ∧ w.heap.size ≤ k ∧ Step no w o w' o' ∧ POrc w' o' k (OS.init l)) := by
  refine (New_specX (fun b => b < w.heap.size ∧ o b ≠ none) (fun b hb => hb.1) h hl).mono fun e w' ⟨g, he, hO, hx, hg, hgx⟩ => ?_
  have hp := hg _ m_p
  refine ⟨g.p, fun b => if b < w.heap.size then o b else if g.m b then some g.p else none, he, hp.1, ⟨hx.mono fun _ h _ => h.elim, fun b hb => if_pos hb, ok, fun b j hb hj => ?_⟩, g, rfl, hO, fun b hb => ?_, fun b hb j hj hne => ?_⟩
  · by_cases hlt : b < w.heap.size
    · simp only [if_pos hlt] at hj; exact Nat.lt_of_lt_of_le (ok b j hlt hj) hx.size
    · simp only [if_neg hlt] at hj
      split at hj
      · cases hj; exact hp.2
      · cases hj
  · have := (hg b hb).1
    simp only [if_neg (by omega : ¬ b < w.heap.size), if_pos hb]
  · by_cases hlt : b < w.heap.size
    · simp only [if_pos hlt] at hj
      rw [hgx]
      exact ⟨hlt, by rw [hj]; simp⟩
    · simp only [if_neg hlt] at hj
      split at hj
      · cases hj; exact absurd rfl hne
      · cases hj
theorem HashO (h : POrc w o k S) (ok : Tags w o) (hok : S.ok) (hlen : S.used.length < 1000000) {a : Option Addr} {c : Nat} {bs : List UInt8} (hr : Row w o a (bytesV bs)) :
    Calls Try.prog 8 #[.pointer (some (blk k)), .slice a bs.length c] w (Gs (fun j => j = k) w o (u64V (hashOf S bs).1) fun w' o' => POrc w' o' k (hashOf S bs).2) := by
  obtain ⟨g, rfl, h1, h2, h3⟩ := h
  refine (Hash_spec h1 hok hlen hr.1 (own_out h2 hr)).mono fun e w' ⟨he, hO, hx⟩ => ?_
  obtain ⟨s, p⟩ := POrc.turn h2 h3 h1.mlt ok hO hx
  exact ⟨_, he, s, p⟩
theorem PairO (h : POrc w o k S) (ok : Tags w o) (hok : S.ok) (hlen : S.used.length + 1 < 1000000) :
    Calls Try.prog 10 #[.pointer (some (blk k))] w (Gs (fun j => j = k) w o (.tuple #[u64V (pairOf S).1.1, u64V (pairOf S).1.2]) fun w' o' => POrc w' o' k (pairOf S).2) := by
  obtain ⟨g, rfl, h1, h2, h3⟩ := h
  refine (Pair_spec h1 hok hlen).mono fun e w' ⟨he, hO, hx⟩ => ?_
  obtain ⟨s, p⟩ := POrc.turn h2 h3 h1.mlt ok hO hx
  exact ⟨_, he, s, p⟩
theorem SignO (h : POrc w o k S) (ok : Tags w o) (hok : S.ok) (hlen : S.used.length < 1000000) (s : Int) {a : Option Addr} {c : Nat} {bs : List UInt8} (hr : Row w o a (bytesV bs)) :
    Calls Try.prog 11 #[.pointer (some (blk k)), .int .u64 s, .slice a bs.length c] w (Gs (fun j => j = k) w o (.tuple #[u64V (signOf S s bs).1.1, .int .i64 (if (signOf S s bs).1.2 then 0 else 11)]) fun w' o' => POrc w' o' k (signOf S s bs).2) := by
  obtain ⟨g, rfl, h1, h2, h3⟩ := h
  refine (Sign_spec h1 hok hlen s hr.1 (own_out h2 hr)).mono fun e w' ⟨he, hO, hx⟩ => ?_
  obtain ⟨s, p⟩ := POrc.turn h2 h3 h1.mlt ok hO hx
  exact ⟨_, he, s, p⟩
theorem VerifyO (h : POrc w o k S) (ok : Tags w o) (p x : Int) {a : Option Addr} {c : Nat} {bs : List UInt8} (hr : Row w o a (bytesV bs)) :
    Calls Try.prog 12 #[.pointer (some (blk k)), .int .u64 p, .slice a bs.length c, .int .u64 x] w (Ret (.bool (verifyOf S p bs x)) fun w' => Ext no w w') := by
  obtain ⟨g, rfl, h1, h2, h3⟩ := h
  exact (Verify_spec h1 p x hr.1).mono fun e w' ⟨he, hx⟩ => ⟨he, hx⟩
end
end Go.Proofs.Ytgagmbmkpfjbbaa
