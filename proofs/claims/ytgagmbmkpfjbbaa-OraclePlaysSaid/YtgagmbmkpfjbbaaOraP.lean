/- The oracle's tables, plainly: what stays true through all calls. -/
import Derived.Test.YtgagmbmkpfjbbaaOraS
set_option linter.unusedVariables false
set_option linter.unusedSimpArgs false
namespace Go.Proofs.Ytgagmbmkpfjbbaa
open Go Go.Mx Go.Proofs
structure OInv (S : OS) : Prop where
  ok : S.ok
  rng : ∀ x ∈ S.used, 0 < x ∧ (x < 18446744073709551616 ∨ x ≤ 2 * S.used.length)
  hu : ∀ b h, alook S.hashes b = some h → h ∈ S.used
  hi : ∀ b c h, alook S.hashes b = some h → alook S.hashes c = some h → b = c
  sg : ∀ q x, alook S.signs q = some x → alook S.signed x = some q
  gs : ∀ x q, alook S.signed x = some q → alook S.signs q = some x
  su : ∀ x q, alook S.signed x = some q → x ∈ S.used
  pu : ∀ p s, alook S.publics p = some s → p ∈ S.used
  ps : ∀ p s, alook S.publics p = some s → s ∈ S.secrets
  eu : ∀ s ∈ S.secrets, s ∈ S.used
theorem OInv.nz {S : OS} (h : OInv S) : ∀ x ∈ S.used, x ≠ 0 := fun x hx => by have := (h.rng x hx).1; omega
theorem OInv.fit {S : OS} (h : OInv S) (hl : S.used.length < 1000000000) {x : Int} (hx : x ∈ S.used) : 0 ≤ x ∧ x < 18446744073709551616 := by
  have := h.rng x hx
  omega
theorem fresh_rng {S : OS} (h : S.ok) : 0 < (freshOf S).1 ∧ ((freshOf S).1 < 18446744073709551616 ∨ (freshOf S).1 ≤ 2 * ((S.used.length : Int) + 1)) := by
  obtain ⟨h1, h2, h3, h4⟩ := h
  unfold freshOf
  cases hp : pickD S.draws S.used with
  | some q =>
    obtain ⟨x, r⟩ := q
    obtain ⟨a, b, c⟩ := pickD_spec hp
    have := h4 x c
    exact ⟨by show 0 < x; omega, .inl this.2⟩
  | none =>
    obtain ⟨a, b, c, d, e⟩ := pickN_spec S.used (S.used.length + 1) S.next h1 (gap S.used _ _ (by omega))
    exact ⟨by show 0 < pickN _ _ _; omega, .inr (by show pickN _ _ _ ≤ _; omega)⟩
/-- nothing is lost. -/
structure OS.le (S S' : OS) : Prop where
  hashes : ∀ b h, alook S.hashes b = some h → alook S'.hashes b = some h
  signs : ∀ q x, alook S.signs q = some x → alook S'.signs q = some x
  signed : ∀ x q, alook S.signed x = some q → alook S'.signed x = some q
  publics : ∀ p s, alook S.publics p = some s → alook S'.publics p = some s
  secrets : ∀ s ∈ S.secrets, s ∈ S'.secrets
  used : ∀ x ∈ S.used, x ∈ S'.used
theorem OS.le.refl (S : OS) : OS.le S S := ⟨fun _ _ h => h, fun _ _ h => h, fun _ _ h => h, fun _ _ h => h, fun _ h => h, fun _ h => h⟩
theorem OS.le.trans {S T U : OS} (a : OS.le S T) (b : OS.le T U) : OS.le S U :=
  ⟨fun x y h => b.hashes x y (a.hashes x y h), fun x y h => b.signs x y (a.signs x y h), fun x y h => b.signed x y (a.signed x y h), fun x y h => b.publics x y (a.publics x y h), fun x h => b.secrets x (a.secrets x h), fun x h => b.used x (a.used x h)⟩
theorem OInv.init {l : List Int} (hl : ∀ d ∈ l, 0 ≤ d ∧ d < 18446744073709551616) : OInv (OS.init l) :=
  ⟨OS.init_ok l hl, fun x h => by simp [OS.init] at h, fun b h e => by simp [OS.init, alook] at e, fun b c h e => by simp [OS.init, alook] at e, fun q x e => by simp [OS.init, alook] at e, fun x q e => by simp [OS.init, alook] at e,
    fun x q e => by simp [OS.init, alook] at e, fun p s e => by simp [OS.init, alook] at e, fun p s e => by simp [OS.init, alook] at e, fun s h => by simp [OS.init] at h⟩
/-- after a fresh handle, the tables as they were. -/
theorem fresh_inv {S : OS} (h : OInv S) : OInv (freshOf S).2 ∧ OS.le S (freshOf S).2 ∧ (freshOf S).1 ∉ S.used ∧ (freshOf S).1 ∈ (freshOf S).2.used ∧ (freshOf S).1 ≠ 0 := by
  obtain ⟨a1, a2, a3, a4⟩ := freshOf_spec h.ok
  obtain ⟨c1, c2, c3, c4, c5, c6, c7, c8⟩ := freshOf_frame S
  have hsub : ∀ x ∈ S.used, x ∈ (freshOf S).2.used := fun x hx => by rw [a3]; simp [hx]
  refine ⟨⟨a4, fun x hx => ?_, fun b k e => hsub _ (h.hu b k (by rw [← c1]; exact e)), fun b c k e1 e2 => h.hi b c k (by rw [← c1]; exact e1) (by rw [← c1]; exact e2), fun q x e => ?_, fun x q e => ?_, fun x q e => ?_, fun p s e => ?_, fun p s e => ?_, fun s hs => ?_⟩,
    ⟨fun b k e => by rw [c1]; exact e, fun q x e => by rw [c5]; exact e, fun x q e => by rw [c6]; exact e, fun p s e => by rw [c4]; exact e, fun s hs => by rw [c3]; exact hs, hsub⟩, a2, by rw [a3]; simp, a1⟩
  · have hl : (freshOf S).2.used.length = S.used.length + 1 := by rw [a3]; simp
    rw [hl]
    rw [a3] at hx
    rcases List.mem_append.1 hx with hx | hx
    · have := h.rng x hx; omega
    · simp at hx; rw [hx]; have := fresh_rng h.ok; omega
  · rw [c5] at e; rw [c6]; exact h.sg q x e
  · rw [c6] at e; rw [c5]; exact h.gs x q e
  · rw [c6] at e; exact hsub _ (h.su x q e)
  · rw [c4] at e; exact hsub _ (h.pu p s e)
  · rw [c4] at e; rw [c3]; exact h.ps p s e
  · rw [c3] at hs; exact hsub _ (h.eu s hs)
theorem hash_inv {S : OS} (h : OInv S) (b : List UInt8) : OInv (hashOf S b).2 ∧ OS.le S (hashOf S b).2 ∧ alook (hashOf S b).2.hashes b = some (hashOf S b).1 ∧ (hashOf S b).1 ≠ 0 ∧
    (hashOf S b).2.signs = S.signs ∧ (hashOf S b).2.signed = S.signed ∧ (hashOf S b).2.publics = S.publics ∧ (hashOf S b).2.secrets = S.secrets := by
  obtain ⟨c1, c2, c3, c4, c5, c6, c7, c8⟩ := freshOf_frame S
  obtain ⟨f1, f2, f3, f4, f5⟩ := fresh_inv h
  unfold hashOf
  cases hk : alook S.hashes b with
  | some x => exact ⟨h, OS.le.refl _, hk, h.nz _ (h.hu b x hk), rfl, rfl, rfl, rfl⟩
  | none =>
    have hl : ∀ c k, alook (aput S.hashes b (freshOf S).1) c = some k → (b = c ∧ k = (freshOf S).1) ∨ alook S.hashes c = some k := fun c k e => by
      rw [alook_put] at e
      split at e
      · rename_i hbc; cases e; exact .inl ⟨hbc, rfl⟩
      · exact .inr e
    refine ⟨⟨f1.ok, f1.rng, fun c k e => ?_, fun c d k e1 e2 => ?_, f1.sg, f1.gs, f1.su, f1.pu, f1.ps, f1.eu⟩, ⟨fun c k e => ?_, f2.signs, f2.signed, f2.publics, f2.secrets, f2.used⟩, ?_, f5, c5, c6, c4, c3⟩
    · rcases hl c k e with ⟨_, rfl⟩ | e
      · exact f4
      · exact f2.used _ (h.hu c k e)
    · rcases hl c k e1 with ⟨rfl, rfl⟩ | e1 <;> rcases hl d _ e2 with ⟨rfl, _⟩ | e2
      · rfl
      · exact absurd (h.hu d _ e2) f3
      · rename_i hk2; subst hk2; exact absurd (h.hu c _ e1) f3
      · exact h.hi c d k e1 e2
    · show alook (aput S.hashes b (freshOf S).1) c = some k
      rw [alook_put, if_neg (fun e' => by subst e'; rw [hk] at e; cases e)]; exact e
    · show alook (aput S.hashes b (freshOf S).1) b = _
      rw [alook_put, if_pos rfl]
theorem hash_eq {S : OS} {b : List UInt8} {x : Int} (h : alook S.hashes b = some x) : hashOf S b = (x, S) := by unfold hashOf; rw [h]
theorem badd_mem {l : List Int} {x y : Int} : y ∈ badd l x ↔ y ∈ l ∨ y = x := by
  unfold badd
  split
  · constructor
    · exact .inl
    · rintro (h | rfl)
      · exact h
      · assumption
  · simp
theorem pair_inv {S : OS} (h : OInv S) : OInv (pairOf S).2 ∧ OS.le S (pairOf S).2 ∧ alook (pairOf S).2.publics (pairOf S).1.2 = some (pairOf S).1.1 ∧ (pairOf S).1.1 ∈ (pairOf S).2.secrets ∧ (pairOf S).1.2 ∉ (pairOf S).2.secrets ∧ (pairOf S).1.1 ∉ S.secrets ∧
    (pairOf S).2.hashes = S.hashes ∧ (pairOf S).2.signs = S.signs ∧ (pairOf S).2.signed = S.signed := by
  obtain ⟨a1, a2, a3, a4, a5, a6, a7, a8, a9, a10, a11, a12, a13, a14⟩ := pairOf_spec h.ok
  obtain ⟨k1, _⟩ := pairOf_ok h.ok
  have hsub : ∀ x ∈ S.used, x ∈ (pairOf S).2.used := fun x hx => by rw [a6]; simp [hx]
  have hl : ∀ c k, alook (pairOf S).2.publics c = some k → ((pairOf S).1.2 = c ∧ k = (pairOf S).1.1) ∨ alook S.publics c = some k := fun c k e => by
    rw [a8, alook_put] at e
    split at e
    · rename_i hbc; cases e; exact .inl ⟨hbc, rfl⟩
    · exact .inr e
  have hall : ∀ x ∈ (pairOf S).2.used, 0 < x ∧ (x < 18446744073709551616 ∨ x ≤ 2 * ((pairOf S).2.used.length : Int)) := fun x hx => by
    have h5 : OS.ok { (freshOf S).2 with secrets := badd S.secrets (freshOf S).1 } := (freshOf_spec h.ok).2.2.2
    have r1 := fresh_rng h.ok
    have r2 : 0 < (pairOf S).1.2 ∧ ((pairOf S).1.2 < 18446744073709551616 ∨ (pairOf S).1.2 ≤ 2 * (((freshOf S).2.used.length : Int) + 1)) := fresh_rng h5
    have r3 : (freshOf S).2.used.length = S.used.length + 1 := by rw [(freshOf_spec h.ok).2.2.1]; simp
    have r4 : (pairOf S).2.used.length = S.used.length + 2 := by rw [a6]; simp
    rw [r4]
    rw [a6] at hx
    rcases List.mem_append.1 hx with hx | hx
    · rcases List.mem_append.1 hx with hx | hx
      · have := h.rng x hx; omega
      · simp at hx; rw [hx]; show 0 < (freshOf S).1 ∧ ((freshOf S).1 < _ ∨ (freshOf S).1 ≤ _); omega
    · simp at hx; rw [hx]; omega
  refine ⟨⟨k1, hall, fun b k e => hsub _ (h.hu b k (by rw [← a9]; exact e)), fun b c k e1 e2 => h.hi b c k (by rw [← a9]; exact e1) (by rw [← a9]; exact e2), fun q x e => by rw [a11] at e; rw [a12]; exact h.sg q x e, fun x q e => by rw [a12] at e; rw [a11]; exact h.gs x q e,
    fun x q e => by rw [a12] at e; exact hsub _ (h.su x q e), fun p s e => ?_, fun p s e => ?_, fun s hs => ?_⟩, ⟨fun b k e => by rw [a9]; exact e, fun q x e => by rw [a11]; exact e, fun x q e => by rw [a12]; exact e, fun p s e => ?_, fun s hs => by rw [a7, badd_mem]; exact .inl hs, hsub⟩, ?_, by rw [a7, badd_mem]; exact .inr rfl, fun hs => ?_, fun hs => a3 (h.eu _ hs), a9, a11, a12⟩
  · rcases hl p s e with ⟨rfl, _⟩ | e
    · rw [a6]; simp
    · exact hsub _ (h.pu p s e)
  · rw [a7, badd_mem]
    rcases hl p s e with ⟨_, rfl⟩ | e
    · exact .inr rfl
    · exact .inl (h.ps p s e)
  · rw [a7, badd_mem] at hs
    rcases hs with hs | rfl
    · exact hsub _ (h.eu s hs)
    · rw [a6]; simp
  · rw [a8, alook_put, if_neg (fun e' => a4 (by rw [e']; exact h.pu p s e))]; exact e
  · rw [a8, alook_put, if_pos rfl]
  · rw [a7, badd_mem] at hs
    rcases hs with hs | hs
    · exact a4 (h.eu _ hs)
    · exact a5 hs.symm
theorem sign_inv {S : OS} (h : OInv S) {k : Int} (hk : k ∈ S.secrets) (b : List UInt8) : OInv (signOf S k b).2 ∧ OS.le S (signOf S k b).2 ∧ (signOf S k b).1.2 = true ∧ alook (signOf S k b).2.signed (signOf S k b).1.1 = some (k, b) ∧ alook (signOf S k b).2.signs (k, b) = some (signOf S k b).1.1 ∧
    (signOf S k b).2.hashes = S.hashes ∧ (signOf S k b).2.publics = S.publics ∧ (signOf S k b).2.secrets = S.secrets := by
  obtain ⟨c1, c2, c3, c4, c5, c6, c7, c8⟩ := freshOf_frame S
  obtain ⟨f1, f2, f3, f4, f5⟩ := fresh_inv h
  unfold signOf
  rw [if_pos hk]
  cases hs : alook S.signs (k, b) with
  | some x => exact ⟨h, OS.le.refl _, rfl, h.sg _ _ hs, hs, rfl, rfl, rfl⟩
  | none =>
    have hl : ∀ c z, alook (aput S.signs (k, b) (freshOf S).1) c = some z → ((k, b) = c ∧ z = (freshOf S).1) ∨ alook S.signs c = some z := fun c z e => by
      rw [alook_put] at e
      split at e
      · rename_i hbc; cases e; exact .inl ⟨hbc, rfl⟩
      · exact .inr e
    have hg : ∀ c z, alook (aput S.signed (freshOf S).1 (k, b)) c = some z → ((freshOf S).1 = c ∧ z = (k, b)) ∨ alook S.signed c = some z := fun c z e => by
      rw [alook_put] at e
      split at e
      · rename_i hbc; cases e; exact .inl ⟨hbc, rfl⟩
      · exact .inr e
    have hn : ∀ x q, alook S.signed x = some q → (freshOf S).1 ≠ x := fun x q e e' => f3 (by rw [e']; exact h.su x q e)
    refine ⟨⟨f1.ok, f1.rng, f1.hu, f1.hi, fun q x e => ?_, fun x q e => ?_, fun x q e => ?_, f1.pu, f1.ps, f1.eu⟩, ⟨f2.hashes, fun q x e => ?_, fun x q e => ?_, f2.publics, f2.secrets, f2.used⟩, rfl, ?_, ?_, c1, c4, c3⟩
    · show alook (aput S.signed (freshOf S).1 (k, b)) x = some q
      rcases hl q x e with ⟨rfl, rfl⟩ | e
      · rw [alook_put, if_pos rfl]
      · rw [alook_put, if_neg (hn x q (h.sg q x e))]; exact h.sg q x e
    · show alook (aput S.signs (k, b) (freshOf S).1) q = some x
      rcases hg x q e with ⟨rfl, rfl⟩ | e
      · rw [alook_put, if_pos rfl]
      · rw [alook_put, if_neg (fun e' => by subst e'; have := h.gs x _ e; rw [hs] at this; cases this)]; exact h.gs x q e
    · rcases hg x q e with ⟨rfl, rfl⟩ | e
      · exact f4
      · exact f2.used _ (h.su x q e)
    · show alook (aput S.signs (k, b) (freshOf S).1) q = some x
      rw [alook_put, if_neg (fun e' => by subst e'; rw [hs] at e; cases e)]; exact e
    · show alook (aput S.signed (freshOf S).1 (k, b)) x = some q
      rw [alook_put, if_neg (hn x q e)]; exact e
    · show alook (aput S.signed (freshOf S).1 (k, b)) (freshOf S).1 = _
      rw [alook_put, if_pos rfl]
    · show alook (aput S.signs (k, b) (freshOf S).1) (k, b) = _
      rw [alook_put, if_pos rfl]
theorem sign_no {S : OS} {k : Int} (hk : k ∉ S.secrets) (b : List UInt8) : signOf S k b = ((0, false), S) := by unfold signOf; rw [if_neg hk]
theorem sign_eq {S : OS} {k : Int} {b : List UInt8} {x : Int} (hk : k ∈ S.secrets) (h : alook S.signs (k, b) = some x) : signOf S k b = ((x, true), S) := by unfold signOf; rw [if_pos hk, h]
theorem verify_at {S : OS} {p s : Int} (hp : alook S.publics p = some s) (b : List UInt8) (x : Int) : verifyOf S p b x = decide (alook S.signed x = some (s, b)) := by
  unfold verifyOf
  rw [hp]
  cases alook S.signed x with
  | none => simp
  | some q => simp
theorem sign_inv' {S : OS} (h : OInv S) (k : Int) (b : List UInt8) : OInv (signOf S k b).2 ∧ OS.le S (signOf S k b).2 ∧ (signOf S k b).2.hashes = S.hashes ∧ (signOf S k b).2.publics = S.publics ∧ (signOf S k b).2.secrets = S.secrets := by
  by_cases hk : k ∈ S.secrets
  · obtain ⟨a1, a2, a3, a4, a5, a6, a7, a8⟩ := sign_inv h hk b; exact ⟨a1, a2, a6, a7, a8⟩
  · rw [sign_no hk]; exact ⟨h, OS.le.refl _, rfl, rfl, rfl⟩
end Go.Proofs.Ytgagmbmkpfjbbaa
