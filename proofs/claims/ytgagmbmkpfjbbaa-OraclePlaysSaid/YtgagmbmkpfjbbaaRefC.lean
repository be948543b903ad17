/- The two oracles side by side: tables against rows. -/
import Derived.Test.YtgagmbmkpfjbbaaRefB
import Derived.Test.YtgagmbmkpfjbbaaOraP
set_option linter.unusedVariables false
set_option linter.unusedSimpArgs false
namespace Go.Proofs.Ytgagmbmkpfjbbaa
open Go Go.Mx Go.Proofs
theorem ex_add {L : List RRow} {r0 : RRow} {f : RRow → Prop} : (∃ r ∈ L ++ [r0], f r) ↔ (∃ r ∈ L, f r) ∨ f r0 := by
  constructor
  · rintro ⟨r, hr, h⟩
    rcases List.mem_append.1 hr with hr | hr
    · exact .inl ⟨r, hr, h⟩
    · simp at hr; subst hr; exact .inr h
  · rintro (⟨r, hr, h⟩ | h)
    · exact ⟨r, List.mem_append_left _ hr, h⟩
    · exact ⟨r0, by simp, h⟩
theorem ex_no {L : List RRow} {r0 : RRow} {f : RRow → Prop} (h : ¬ f r0) : (∃ r ∈ L ++ [r0], f r) ↔ ∃ r ∈ L, f r := by
  rw [ex_add]; exact ⟨fun h' => h'.resolve_right h, .inl⟩
theorem alook_new {κ β : Type} [DecidableEq κ] {T : List (κ × β)} {k c : κ} {v y : β} (h : alook T k = none) : alook (aput T k v) c = some y ↔ alook T c = some y ∨ (k = c ∧ v = y) := by
  rw [alook_put]
  by_cases hc : k = c
  · subst hc; rw [if_pos rfl, h]; simp
  · rw [if_neg hc]; simp [hc]
structure Sim (S : OS) (d : List Int) (L : List RRow) : Prop where
  ok : S.ok
  dr : S.draws = d
  us : S.used = L.map RRow.h
  nd : (L.map RRow.h).Nodup
  nz : ∀ r ∈ L, r.h ≠ 0
  hs : ∀ b x, alook S.hashes b = some x ↔ ∃ r ∈ L, r.kind = 1 ∧ r.A = b ∧ r.h = x
  ky : ∀ k, k ∈ S.keys ↔ ∃ r ∈ L, r.kind = 2 ∧ r.h = k
  sc : ∀ s, s ∈ S.secrets ↔ ∃ r ∈ L, r.kind = 3 ∧ r.h = s
  pb : ∀ p s, alook S.publics p = some s ↔ ∃ r ∈ L, r.kind = 4 ∧ r.h = p ∧ r.n = s
  sg : ∀ q x, alook S.signs q = some x ↔ ∃ r ∈ L, r.kind = 5 ∧ (r.n, r.A) = q ∧ r.h = x
  sd : ∀ x q, alook S.signed x = some q ↔ ∃ r ∈ L, r.kind = 5 ∧ (r.n, r.A) = q ∧ r.h = x
  se : ∀ x q, alook S.sealed x = some q ↔ ∃ r ∈ L, r.kind = 6 ∧ r.h = x ∧ q = ⟨r.n, r.A, r.B⟩
  wr : ∀ x q, alook S.wrapped x = some q ↔ ∃ r ∈ L, r.kind = 7 ∧ r.h = x ∧ (r.n, r.m) = q
theorem Sim.init {l : List Int} (hl : ∀ d ∈ l, 0 ≤ d ∧ d < 18446744073709551616) : Sim (OS.init l) l [] := by
  refine ⟨OS.init_ok l hl, rfl, rfl, by simp, by simp, ?_, ?_, ?_, ?_, ?_, ?_, ?_, ?_⟩ <;> simp [OS.init, alook]
section
variable {S : OS} {d : List Int} {L : List RRow}
theorem Sim.mem_used (h : Sim S d L) {r : RRow} (hr : r ∈ L) : r.h ∈ S.used := by rw [h.us]; exact List.mem_map_of_mem hr
theorem uniq : ∀ {L : List RRow}, (L.map RRow.h).Nodup → ∀ {r s : RRow}, r ∈ L → s ∈ L → r.h = s.h → r = s
  | [], _, r, s, hr, _, _ => by cases hr
  | a :: l, hn, r, s, hr, hs, he => by
    simp only [List.map_cons, List.nodup_cons] at hn
    rcases List.mem_cons.1 hr with rfl | hr' <;> rcases List.mem_cons.1 hs with rfl | hs'
    · rfl
    · exact (hn.1 (List.mem_map.2 ⟨s, hs', he.symm⟩)).elim
    · exact (hn.1 (List.mem_map.2 ⟨r, hr', he⟩)).elim
    · exact uniq hn.2 hr' hs' he
theorem isR_some (hn : (L.map RRow.h).Nodup) {x k : Int} {r : RRow} : isR L x k = some r ↔ r ∈ L ∧ r.h = x ∧ r.kind = k := by
  unfold isR
  constructor
  · intro h
    rw [Option.bind_eq_some_iff] at h
    obtain ⟨a, h1, h2⟩ := h
    have m := List.mem_of_find?_eq_some h1
    have e := List.find?_some h1
    split at h2
    · rename_i hk; cases h2; exact ⟨m, by simpa using e, hk⟩
    · cases h2
  · rintro ⟨h1, h2, h3⟩
    cases hf : L.find? (fun r => r.h == x) with
    | none =>
      rw [List.find?_eq_none] at hf
      exact absurd (by simpa using h2) (hf r h1)
    | some a =>
      have m := List.mem_of_find?_eq_some hf
      have e := List.find?_some hf
      obtain rfl : a = r := uniq hn m h1 (by rw [h2]; simpa using e)
      show (if a.kind = k then some a else none) = some a
      rw [if_pos h3]
theorem isR_none (hn : (L.map RRow.h).Nodup) {x k : Int} : isR L x k = none ↔ ¬ ∃ r ∈ L, r.kind = k ∧ r.h = x := by
  constructor
  · rintro h ⟨r, h1, h2, h3⟩
    rw [(isR_some hn).2 ⟨h1, h3, h2⟩] at h; cases h
  · intro h
    cases hi : isR L x k with
    | none => rfl
    | some r => obtain ⟨a, b, c⟩ := (isR_some hn).1 hi; exact absurd ⟨r, a, c, b⟩ h
/-- the same handle. -/
theorem Sim.fresh (h : Sim S d L) (r : RRow) : (putR d L r).1 = (freshOf S).1 ∧ (putR d L r).2.1 = (freshOf S).2.draws := by
  obtain ⟨h1, h2, h3, h4⟩ := h.ok
  unfold putR freshOf freshR
  rw [← h.us, ← h.dr]
  cases hp : pickD S.draws S.used with
  | some q => exact ⟨rfl, rfl⟩
  | none =>
    refine ⟨?_, rfl⟩
    obtain ⟨a1, a2, a3, a4, a5⟩ := pickN_spec S.used (S.used.length + 1) S.next h1 (gap S.used _ _ (by omega))
    obtain ⟨b1, b2, b3, b4, b5⟩ := pickN_spec S.used (S.used.length + 1) 1 (Int.le_refl _) (gap S.used _ _ (by omega))
    show pickN S.used (S.used.length + 1) 1 = pickN S.used (S.used.length + 1) S.next
    generalize pickN S.used (S.used.length + 1) 1 = x at *
    generalize pickN S.used (S.used.length + 1) S.next = y at *
    rcases Int.lt_trichotomy x y with c | c | c
    · exfalso
      by_cases hx : x < S.next
      · exact b3 (h2 x b1 hx)
      · exact b3 (a5 x (by omega) c)
    · exact c
    · exact absurd (b5 y (by omega) c) a3
/-- a row more: all but the tables. -/
theorem Sim.put (h : Sim S d L) (r : RRow) : (freshOf S).2.ok ∧ (freshOf S).2.draws = (putR d L r).2.1 ∧ (freshOf S).2.used = (putR d L r).2.2.map RRow.h ∧ ((putR d L r).2.2.map RRow.h).Nodup ∧ (∀ z ∈ (putR d L r).2.2, z.h ≠ 0) ∧
    (putR d L r).2.2 = L ++ [{ r with h := (freshOf S).1 }] ∧ (∀ z ∈ L, z.h ≠ (freshOf S).1) := by
  obtain ⟨a1, a2, a3, a4⟩ := freshOf_spec h.ok
  obtain ⟨b1, b2⟩ := h.fresh r
  have e : (putR d L r).2.2 = L ++ [{ r with h := (freshOf S).1 }] := by rw [← b1]; rfl
  have hne : ∀ z ∈ L, z.h ≠ (freshOf S).1 := fun z hz he => a2 (he ▸ h.mem_used hz)
  refine ⟨a4, b2.symm, by rw [a3, e, h.us]; simp, ?_, ?_, e, hne⟩
  · rw [e, List.map_append, List.nodup_append]
    refine ⟨h.nd, by simp, fun a ha b hb => ?_⟩
    obtain ⟨z, hz, rfl⟩ := List.mem_map.1 ha
    simp at hb; subst hb; exact hne z hz
  · rw [e]
    intro z hz
    rcases List.mem_append.1 hz with hz | hz
    · exact h.nz z hz
    · simp at hz; subst hz; exact a1
theorem new_none {κ β : Type} [DecidableEq κ] {T : List (κ × β)} {k : κ} (h : ∀ y, ¬ alook T k = some y) : alook T k = none := by
  cases hk : alook T k with
  | none => rfl
  | some y => exact absurd hk (h y)
theorem Sim.find (h : Sim S d L) {p : RRow → Bool} {x : Int} (hx : ∃ r ∈ L, p r = true ∧ r.h = x) (hu : ∀ r ∈ L, p r = true → r.h = x) : ∃ r, L.find? p = some r ∧ r.h = x := by
  cases hf : L.find? p with
  | none => obtain ⟨r, a, b, _⟩ := hx; rw [List.find?_eq_none] at hf; exact absurd b (hf r a)
  | some r => exact ⟨r, rfl, hu r (List.mem_of_find?_eq_some hf) (List.find?_some hf)⟩
theorem hash_sim (h : Sim S d L) (b : List UInt8) : (hashR d L b).1 = (hashOf S b).1 ∧ Sim (hashOf S b).2 (hashR d L b).2.1 (hashR d L b).2.2 := by
  unfold hashR hashOf
  cases hk : alook S.hashes b with
  | some x =>
    obtain ⟨r, h1, h2, h3, h4⟩ := (h.hs b x).1 hk
    obtain ⟨z, hz, hx⟩ := h.find (p := fun r => r.kind == 1 && decide (r.A = b)) ⟨r, h1, by simp [h2, h3], h4⟩ fun r hr hp => by
      simp at hp
      have := (h.hs b r.h).2 ⟨r, hr, hp.1, hp.2, rfl⟩
      rw [hk] at this; exact (Option.some.inj this).symm
    rw [hz]
    exact ⟨hx, h⟩
  | none =>
    have hf : L.find? (fun r => r.kind == 1 && decide (r.A = b)) = none := by
      rw [List.find?_eq_none]
      intro r hr hp
      simp at hp
      rw [(h.hs b r.h).2 ⟨r, hr, hp.1, hp.2, rfl⟩] at hk; cases hk
    rw [hf]
    obtain ⟨a1, a2, a3, a4, a5, a6, a7⟩ := h.put ⟨0, 1, b, [], 0, 0⟩
    obtain ⟨c1, c2, c3, c4, c5, c6, c7, c8⟩ := freshOf_frame S
    refine ⟨(h.fresh _).1, ⟨a1, a2, a3, a4, a5, fun c x => ?_, fun k => ?_, fun s => ?_, fun p s => ?_, fun q x => ?_, fun x q => ?_, fun x q => ?_, fun x q => ?_⟩⟩ <;> simp only [a6]
    · rw [alook_new hk, h.hs, ex_add]; simp
    · rw [c2, h.ky, ex_no (by simp)]
    · rw [c3, h.sc, ex_no (by simp)]
    · rw [c4, h.pb, ex_no (by simp)]
    · rw [c5, h.sg, ex_no (by simp)]
    · rw [c6, h.sd, ex_no (by simp)]
    · rw [c7, h.se, ex_no (by simp)]
    · rw [c8, h.wr, ex_no (by simp)]
theorem key_sim (h : Sim S d L) : (keyR d L).1 = (keyOf S).1 ∧ Sim (keyOf S).2 (keyR d L).2.1 (keyR d L).2.2 := by
  unfold keyR keyOf
  obtain ⟨a1, a2, a3, a4, a5, a6, a7⟩ := h.put ⟨0, 2, [], [], 0, 0⟩
  obtain ⟨c1, c2, c3, c4, c5, c6, c7, c8⟩ := freshOf_frame S
  refine ⟨(h.fresh _).1, ⟨a1, a2, a3, a4, a5, fun c x => ?_, fun k => ?_, fun s => ?_, fun p s => ?_, fun q x => ?_, fun x q => ?_, fun x q => ?_, fun x q => ?_⟩⟩ <;> simp only [a6]
  · rw [c1, h.hs, ex_no (by simp)]
  · rw [badd_mem, h.ky, ex_add]; simp [eq_comm]
  · rw [c3, h.sc, ex_no (by simp)]
  · rw [c4, h.pb, ex_no (by simp)]
  · rw [c5, h.sg, ex_no (by simp)]
  · rw [c6, h.sd, ex_no (by simp)]
  · rw [c7, h.se, ex_no (by simp)]
  · rw [c8, h.wr, ex_no (by simp)]
theorem sec_sim (h : Sim S d L) : (putR d L ⟨0, 3, [], [], 0, 0⟩).1 = (freshOf S).1 ∧ Sim { (freshOf S).2 with secrets := badd S.secrets (freshOf S).1 } (putR d L ⟨0, 3, [], [], 0, 0⟩).2.1 (putR d L ⟨0, 3, [], [], 0, 0⟩).2.2 := by
  obtain ⟨a1, a2, a3, a4, a5, a6, a7⟩ := h.put ⟨0, 3, [], [], 0, 0⟩
  obtain ⟨c1, c2, c3, c4, c5, c6, c7, c8⟩ := freshOf_frame S
  refine ⟨(h.fresh _).1, ⟨a1, a2, a3, a4, a5, fun c x => ?_, fun k => ?_, fun s => ?_, fun p s => ?_, fun q x => ?_, fun x q => ?_, fun x q => ?_, fun x q => ?_⟩⟩ <;> simp only [a6]
  · rw [c1, h.hs, ex_no (by simp)]
  · rw [c2, h.ky, ex_no (by simp)]
  · rw [badd_mem, h.sc, ex_add]; simp [eq_comm]
  · rw [c4, h.pb, ex_no (by simp)]
  · rw [c5, h.sg, ex_no (by simp)]
  · rw [c6, h.sd, ex_no (by simp)]
  · rw [c7, h.se, ex_no (by simp)]
  · rw [c8, h.wr, ex_no (by simp)]
theorem pair_sim (h : Sim S d L) : (pairR d L).1 = (pairOf S).1 ∧ Sim (pairOf S).2 (pairR d L).2.1 (pairR d L).2.2 := by
  obtain ⟨e1, h1⟩ := sec_sim h
  unfold pairR pairOf
  simp only []
  rw [e1]
  generalize putR d L ⟨0, 3, [], [], 0, 0⟩ = P at *
  obtain ⟨a1, a2, a3, a4, a5, a6, a7⟩ := h1.put ⟨0, 4, [], [], (freshOf S).1, 0⟩
  obtain ⟨c1, c2, c3, c4, c5, c6, c7, c8⟩ := freshOf_frame S
  obtain ⟨d1, d2, d3, d4, d5, d6, d7, d8⟩ := freshOf_frame { (freshOf S).2 with secrets := badd S.secrets (freshOf S).1 }
  have e2 := (h1.fresh ⟨0, 4, [], [], (freshOf S).1, 0⟩).1
  refine ⟨by rw [e2], ⟨a1, a2, a3, a4, a5, fun c x => ?_, fun k => ?_, fun s => ?_, fun p s => ?_, fun q x => ?_, fun x q => ?_, fun x q => ?_, fun x q => ?_⟩⟩ <;> simp only [a6]
  · rw [d1, h1.hs, ex_no (by simp)]
  · rw [d2, h1.ky, ex_no (by simp)]
  · rw [d3, h1.sc, ex_no (by simp)]
  · have hpb : alook S.publics p = some s ↔ _ := (by rw [congrArg (fun t => alook t p) c4.symm] : alook S.publics p = some s ↔ alook (freshOf S).2.publics p = some s).trans (h1.pb p s)
    rw [alook_new (new_none fun y hy => ?_), hpb, ex_add]
    · simp
    · have hy := (congrArg (fun t => alook t _) c4).trans hy
      obtain ⟨r, q1, q2, q3, q4⟩ := (h1.pb _ _).1 hy
      exact a7 r q1 q3
  · rw [d5, h1.sg, ex_no (by simp)]
  · rw [d6, h1.sd, ex_no (by simp)]
  · rw [d7, h1.se, ex_no (by simp)]
  · rw [d8, h1.wr, ex_no (by simp)]
theorem sec_is (h : Sim S d L) (s : Int) : (∃ r, isR L s 3 = some r) ↔ s ∈ S.secrets := by
  rw [h.sc]
  constructor
  · rintro ⟨r, hr⟩; obtain ⟨a, b, c⟩ := (isR_some h.nd).1 hr; exact ⟨r, a, c, b⟩
  · rintro ⟨r, a, c, b⟩; exact ⟨r, (isR_some h.nd).2 ⟨a, b, c⟩⟩
theorem sign_sim (h : Sim S d L) (s : Int) (b : List UInt8) : (signR d L s b).1 = ((signOf S s b).1.1, if (signOf S s b).1.2 then 0 else 11) ∧ Sim (signOf S s b).2 (signR d L s b).2.1 (signR d L s b).2.2 := by
  unfold signR signOf
  by_cases hs : s ∈ S.secrets
  · obtain ⟨r0, hr0⟩ := (sec_is h s).2 hs
    rw [if_pos hs, hr0]
    simp only []
    cases hk : alook S.signs (s, b) with
    | some x =>
      obtain ⟨r, h1, h2, h3, h4⟩ := (h.sg _ x).1 hk
      obtain ⟨z, hz, hx⟩ := h.find (p := fun r => r.kind == 5 && (r.n == s && decide (r.A = b))) ⟨r, h1, by cases h3; simp [h2], h4⟩ fun r hr hp => by
        simp at hp
        have := (h.sg (s, b) r.h).2 ⟨r, hr, hp.1, by rw [hp.2.1, hp.2.2], rfl⟩
        rw [hk] at this; exact (Option.some.inj this).symm
      rw [hz]
      exact ⟨by simp [hx], h⟩
    | none =>
      have hf : L.find? (fun r => r.kind == 5 && (r.n == s && decide (r.A = b))) = none := by
        rw [List.find?_eq_none]
        intro r hr hp
        simp at hp
        rw [(h.sg (s, b) r.h).2 ⟨r, hr, hp.1, by rw [hp.2.1, hp.2.2], rfl⟩] at hk; cases hk
      rw [hf]
      obtain ⟨a1, a2, a3, a4, a5, a6, a7⟩ := h.put ⟨0, 5, b, [], s, 0⟩
      obtain ⟨c1, c2, c3, c4, c5, c6, c7, c8⟩ := freshOf_frame S
      refine ⟨by simp [(h.fresh _).1], ⟨a1, a2, a3, a4, a5, fun c x => ?_, fun k => ?_, fun s => ?_, fun p s => ?_, fun q x => ?_, fun x q => ?_, fun x q => ?_, fun x q => ?_⟩⟩ <;> simp only [a6]
      · rw [c1, h.hs, ex_no (by simp)]
      · rw [c2, h.ky, ex_no (by simp)]
      · rw [c3, h.sc, ex_no (by simp)]
      · rw [c4, h.pb, ex_no (by simp)]
      · rw [alook_new hk, h.sg, ex_add]; simp
      · rw [alook_new (new_none fun y hy => ?_), h.sd, ex_add]
        · simp [and_comm]
        · obtain ⟨r, q1, q2, q3, q4⟩ := (h.sd _ _).1 hy
          exact a7 r q1 q4
      · rw [c7, h.se, ex_no (by simp)]
      · rw [c8, h.wr, ex_no (by simp)]
  · have hi : isR L s 3 = none := by
      cases hi : isR L s 3 with
      | none => rfl
      | some r => exact absurd ((sec_is h s).1 ⟨r, hi⟩) hs
    rw [if_neg hs, hi]
    exact ⟨rfl, h⟩
theorem pub_is (h : Sim S d L) (p : Int) : (isR L p 4).map RRow.n = alook S.publics p := by
  cases hi : isR L p 4 with
  | none =>
    cases hk : alook S.publics p with
    | none => rfl
    | some s => obtain ⟨r, a, b, c, _⟩ := (h.pb p s).1 hk; exact absurd ⟨r, a, b, c⟩ ((isR_none h.nd).1 hi)
  | some r => obtain ⟨a, b, c⟩ := (isR_some h.nd).1 hi; exact ((h.pb p r.n).2 ⟨r, a, c, b, rfl⟩).symm
theorem sig_is (h : Sim S d L) (x : Int) : (isR L x 5).map (fun r => (r.n, r.A)) = alook S.signed x := by
  cases hi : isR L x 5 with
  | none =>
    cases hk : alook S.signed x with
    | none => rfl
    | some s => obtain ⟨r, a, b, _, c⟩ := (h.sd x s).1 hk; exact absurd ⟨r, a, b, c⟩ ((isR_none h.nd).1 hi)
  | some r => obtain ⟨a, b, c⟩ := (isR_some h.nd).1 hi; exact ((h.sd x (r.n, r.A)).2 ⟨r, a, c, rfl, b⟩).symm
theorem verify_sim (h : Sim S d L) (p : Int) (b : List UInt8) (x : Int) : verifyR L p b x = verifyOf S p b x := by
  unfold verifyR verifyOf
  rw [← pub_is h p, ← sig_is h x]
  cases isR L p 4 with
  | none => rfl
  | some y =>
    cases isR L x 5 with
    | none => rfl
    | some z => show decide (z.n = y.n ∧ z.A = b) = decide ((z.n, z.A) = (y.n, b)); congr 1; simp
end
end Go.Proofs.Ytgagmbmkpfjbbaa
