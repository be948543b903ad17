/- The two oracles side by side: what is sealed, and wrapped. -/
import Derived.Test.YtgagmbmkpfjbbaaRefF
set_option linter.unusedVariables false
set_option linter.unusedSimpArgs false
namespace Go.Proofs.Ytgagmbmkpfjbbaa
open Go Go.Mx Go.Proofs
section
variable {S : OS} {d : List Int} {L : List RRow}
theorem key_is (h : Sim S d L) (k : Int) : (∃ r, isR L k 2 = some r) ↔ k ∈ S.keys := by
  rw [h.ky]
  constructor
  · rintro ⟨r, hr⟩; obtain ⟨a, b, c⟩ := (isR_some h.nd).1 hr; exact ⟨r, a, c, b⟩
  · rintro ⟨r, a, c, b⟩; exact ⟨r, (isR_some h.nd).2 ⟨a, b, c⟩⟩
theorem key_not (h : Sim S d L) {k : Int} (hk : k ∉ S.keys) : isR L k 2 = none := by
  cases hi : isR L k 2 with
  | none => rfl
  | some r => exact absurd ((key_is h k).1 ⟨r, hi⟩) hk
theorem seal_sim (h : Sim S d L) (k : Int) (b p : List UInt8) : (sealR d L k b p).1 = (sealOf S k b p).1 ∧ Sim (sealOf S k b p).2 (sealR d L k b p).2.1 (sealR d L k b p).2.2 := by
  unfold sealR sealOf
  by_cases hk : k ∈ S.keys
  · obtain ⟨r0, hr0⟩ := (key_is h k).2 hk
    rw [if_pos hk, hr0]
    simp only []
    by_cases hc : classOf p.length < 0
    · rw [if_pos hc, if_pos hc]; exact ⟨rfl, h⟩
    · rw [if_neg hc, if_neg hc]
      obtain ⟨a1, a2, a3, a4, a5, a6, a7⟩ := h.put ⟨0, 6, b, p, k, 0⟩
      obtain ⟨c1, c2, c3, c4, c5, c6, c7, c8⟩ := freshOf_frame S
      refine ⟨by simp [(h.fresh _).1], ⟨a1, a2, a3, a4, a5, fun c x => ?_, fun k => ?_, fun s => ?_, fun p s => ?_, fun q x => ?_, fun x q => ?_, fun x q => ?_, fun x q => ?_⟩⟩ <;> simp only [a6]
      · rw [c1, h.hs, ex_no (by simp)]
      · rw [c2, h.ky, ex_no (by simp)]
      · rw [c3, h.sc, ex_no (by simp)]
      · rw [c4, h.pb, ex_no (by simp)]
      · rw [c5, h.sg, ex_no (by simp)]
      · rw [c6, h.sd, ex_no (by simp)]
      · rw [alook_new (new_none fun y hy => ?_), h.se, ex_add]
        · simp [eq_comm]
        · obtain ⟨r, q1, q2, q3, q4⟩ := (h.se _ _).1 hy
          exact a7 r q1 q3
      · rw [c8, h.wr, ex_no (by simp)]
  · rw [if_neg hk, key_not h hk]; exact ⟨rfl, h⟩
theorem sea_is (h : Sim S d L) (x : Int) : (isR L x 6).map (fun r => (⟨r.n, r.A, r.B⟩ : Sealed)) = alook S.sealed x := by
  cases hi : isR L x 6 with
  | none =>
    cases hk : alook S.sealed x with
    | none => rfl
    | some s => obtain ⟨r, a, b, c, _⟩ := (h.se x s).1 hk; exact absurd ⟨r, a, b, c⟩ ((isR_none h.nd).1 hi)
  | some r => obtain ⟨a, b, c⟩ := (isR_some h.nd).1 hi; exact ((h.se x ⟨r.n, r.A, r.B⟩).2 ⟨r, a, c, b, rfl⟩).symm
theorem open_sim (h : Sim S d L) (k : Int) (b x : List UInt8) : openR L k b x = openOf S k b x := by
  unfold openR openOf
  rw [← sea_is h]
  cases isR L (handL x) 6 <;> rfl
theorem wra_is (h : Sim S d L) (x : Int) : (isR L x 7).map (fun r => (r.n, r.m)) = alook S.wrapped x := by
  cases hi : isR L x 7 with
  | none =>
    cases hk : alook S.wrapped x with
    | none => rfl
    | some s => obtain ⟨r, a, b, c, _⟩ := (h.wr x s).1 hk; exact absurd ⟨r, a, b, c⟩ ((isR_none h.nd).1 hi)
  | some r => obtain ⟨a, b, c⟩ := (isR_some h.nd).1 hi; exact ((h.wr x (r.n, r.m)).2 ⟨r, a, c, b, rfl⟩).symm
theorem unwrap_sim (h : Sim S d L) (s : Int) (x : List UInt8) : unwrapR L s x = unwrapOf S s x := by
  unfold unwrapR unwrapOf
  rw [← wra_is h]
  cases isR L (handL x) 7 with
  | none => rfl
  | some r => simp only [Option.map_some]; rw [← pub_is h]
theorem wrap_sim (h : Sim S d L) (p k : Int) : (wrapR d L p k).1 = (wrapOf S p k).1 ∧ Sim (wrapOf S p k).2 (wrapR d L p k).2.1 (wrapR d L p k).2.2 := by
  unfold wrapR wrapOf
  rw [← pub_is h]
  cases hp : isR L p 4 with
  | none => exact ⟨rfl, h⟩
  | some r1 =>
    simp only [Option.map_some, Option.isSome_some, if_true]
    by_cases hk : k ∈ S.keys
    · obtain ⟨r0, hr0⟩ := (key_is h k).2 hk
      rw [if_pos hk, hr0]
      simp only []
      obtain ⟨a1, a2, a3, a4, a5, a6, a7⟩ := h.put ⟨0, 7, [], [], p, k⟩
      obtain ⟨c1, c2, c3, c4, c5, c6, c7, c8⟩ := freshOf_frame S
      refine ⟨by simp [(h.fresh _).1], ⟨a1, a2, a3, a4, a5, fun c x => ?_, fun k => ?_, fun s => ?_, fun p s => ?_, fun q x => ?_, fun x q => ?_, fun x q => ?_, fun x q => ?_⟩⟩ <;> simp only [a6]
      · rw [c1, h.hs, ex_no (by simp)]
      · rw [c2, h.ky, ex_no (by simp)]
      · rw [c3, h.sc, ex_no (by simp)]
      · rw [c4, h.pb, ex_no (by simp)]
      · rw [c5, h.sg, ex_no (by simp)]
      · rw [c6, h.sd, ex_no (by simp)]
      · rw [c7, h.se, ex_no (by simp)]
      · rw [alook_new (new_none fun y hy => ?_), h.wr, ex_add]
        · simp
        · obtain ⟨r, q1, q2, q3, q4⟩ := (h.wr _ _).1 hy
          exact a7 r q1 q3
    · rw [if_neg hk, key_not h hk]; exact ⟨rfl, h⟩
end
end Go.Proofs.Ytgagmbmkpfjbbaa
