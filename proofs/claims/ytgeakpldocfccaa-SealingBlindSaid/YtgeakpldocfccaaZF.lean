/- Epochs, plainly: what Begin tells, and what a ring learns of it. -/
import Derived.Test.YtgeakpldocfccaaZE
import Derived.Test.YtgeakpldocfccaaZA
set_option linter.unusedVariables false
set_option linter.unusedSimpArgs false
set_option maxRecDepth 20000
set_option maxHeartbeats 4000000
namespace Go.Proofs.Ytgeakpldocfccaa
open Go Go.Mx Go.Proofs
structure KI (S : OS) : Prop where
  inv : OInv S
  su : ∀ x s, alook S.sealed x = some s → x ∈ S.used
  wu : ∀ x s, alook S.wrapped x = some s → x ∈ S.used
  sh : Short S
structure KLe (S S' : OS) : Prop where
  pb : S'.publics = S.publics
  sl : ∀ x s, alook S.sealed x = some s → alook S'.sealed x = some s
  wr : ∀ x s, alook S.wrapped x = some s → alook S'.wrapped x = some s
  us : ∀ x ∈ S.used, x ∈ S'.used
theorem KLe.refl (S : OS) : KLe S S := ⟨rfl, fun _ _ h => h, fun _ _ h => h, fun _ h => h⟩
theorem KLe.trans {S T U : OS} (a : KLe S T) (b : KLe T U) : KLe S U := ⟨b.pb.trans a.pb, fun x s h => b.sl x s (a.sl x s h), fun x s h => b.wr x s (a.wr x s h), fun x h => b.us x (a.us x h)⟩
theorem KLe.open {S S' : OS} (h : KLe S S') {k : Int} {b x p : List UInt8} (ho : openOf S k b x = (p, 0)) : openOf S' k b x = (p, 0) := by
  unfold openOf at ho ⊢
  cases hs : alook S.sealed (handL x) with
  | none => rw [hs] at ho; cases ho
  | some s => rw [hs] at ho; rw [h.sl _ _ hs]; exact ho
theorem Q2h {S : OS} (h : S.ok) : (freshOf S).2.used.length = S.used.length + 1 := by
  obtain ⟨_, _, a3, _⟩ := Q1f h
  rw [a3]; simp
theorem KI.key {S : OS} (h : KI S) : KI (keyOf S).2 ∧ KLe S (keyOf S).2 ∧ (keyOf S).1 ∉ S.used ∧ (keyOf S).1 ≠ 0 ∧ (keyOf S).1 ∈ (keyOf S).2.used ∧ (keyOf S).2.used.length = S.used.length + 1 := by
  obtain ⟨c1, c2, c3, c4, c5, c6, c7, c8⟩ := Q0R S
  obtain ⟨f1, f2, f3, f4, f5⟩ := Q1F h.inv
  have e7 : (keyOf S).2.sealed = S.sealed := c7
  have e8 : (keyOf S).2.wrapped = S.wrapped := c8
  exact ⟨⟨keyInv h.inv, fun x s e => f2.used _ (h.su x s (by rw [← e7]; exact e)), fun x s e => f2.used _ (h.wu x s (by rw [← e8]; exact e)), fun x s e => h.sh x s (by rw [← e7]; exact e)⟩,
    ⟨c4, fun x s e => by rw [e7]; exact e, fun x s e => by rw [e8]; exact e, f2.used⟩, f3, f5, f4, Q2h h.inv.ok⟩
theorem KI.wrap {S : OS} (h : KI S) {p key : Int} (hp : (alook S.publics p).isSome) (hk : key ∈ S.keys) (hl : S.used.length < 100000000) :
    KI (wrapOf S p key).2 ∧ KLe S (wrapOf S p key).2 ∧ (wrapOf S p key).1.1.length = 16 ∧ alook (wrapOf S p key).2.wrapped (handL (wrapOf S p key).1.1) = some (p, key) ∧ (wrapOf S p key).2.keys = S.keys ∧ (wrapOf S p key).2.used.length = S.used.length + 1 := by
  obtain ⟨c1, c2, c3, c4, c5, c6, c7, c8⟩ := Q0R S
  obtain ⟨f1, f2, f3, f4, f5⟩ := Q1F h.inv
  have hsz := Q2h h.inv.ok
  have hfit := f1.fit (by omega) f4
  have hi := wrapInv h.inv p key
  rw [Q3b hp hk] at hi ⊢
  have hle : ∀ x v, alook S.wrapped x = some v → alook (aput S.wrapped (freshOf S).1 (p, key)) x = some v := fun x v e => by
    rw [Q1k, if_neg (fun e' => f3 (by rw [e']; exact h.wu x v e))]; exact e
  refine ⟨⟨hi, fun x s e => f2.used _ (h.su x s (by rw [← c7]; exact e)), fun x s e => ?_, fun x s e => h.sh x s (by rw [← c7]; exact e)⟩, ⟨c4, fun x s e => by show alook (freshOf S).2.sealed x = _; rw [c7]; exact e, hle, f2.used⟩, by rw [Q13], ?_, c2, hsz⟩
  · have e : alook (aput S.wrapped (freshOf S).1 (p, key)) x = some s := e
    rw [Q1k] at e
    split at e
    · rename_i hx; subst hx; exact f4
    · exact f2.used _ (h.wu x s e)
  · show alook (aput S.wrapped (freshOf S).1 (p, key)) ((handL (boxL (freshOf S).1.toNat 8) : Nat) : Int) = _
    rw [Q2w (by omega), Q1k, if_pos (by omega)]
theorem KI.sealK {S : OS} (h : KI S) {key : Int} {b p : List UInt8} (hk : key ∈ S.keys) (hp : p.length = 8) (hl : S.used.length < 100000000) :
    KI (sealOf S key b p).2 ∧ KLe S (sealOf S key b p).2 ∧ (sealOf S key b p).1.1.length = 24 ∧ openOf (sealOf S key b p).2 key b (sealOf S key b p).1.1 = (p, 0) ∧ (sealOf S key b p).2.used.length = S.used.length + 1 := by
  obtain ⟨c1, c2, c3, c4, c5, c6, c7, c8⟩ := Q0R S
  obtain ⟨f1, f2, f3, f4, f5⟩ := Q1F h.inv
  have hsz := Q2h h.inv.ok
  have hfit := f1.fit (by omega) f4
  have hi := sealInv h.inv key b p
  have hc : classOf p.length = 0 := by rw [hp]; decide
  have hE : sealOf S key b p = ((boxL (freshOf S).1.toNat (sizeN (classOf p.length)), 0), { (freshOf S).2 with sealed := aput S.sealed (freshOf S).1 ⟨key, b, p⟩ }) := by
    unfold sealOf; rw [if_pos hk, if_neg (by omega)]
  rw [hE] at hi ⊢
  have hz : sizeN (classOf p.length) = 16 := by rw [hc]; decide
  have hle : ∀ x v, alook S.sealed x = some v → alook (aput S.sealed (freshOf S).1 (⟨key, b, p⟩ : Sealed)) x = some v := fun x v e => by
    rw [Q1k, if_neg (fun e' => f3 (by rw [e']; exact h.su x v e))]; exact e
  refine ⟨⟨hi, fun x s e => ?_, fun x s e => f2.used _ (h.wu x s (by rw [← c8]; exact e)), fun x s e => ?_⟩, ⟨c4, hle, fun x s e => by show alook (freshOf S).2.wrapped x = _; rw [c8]; exact e, f2.used⟩, by rw [Q13, hz], ?_, hsz⟩
  · have e : alook (aput S.sealed (freshOf S).1 (⟨key, b, p⟩ : Sealed)) x = some s := e
    rw [Q1k] at e
    split at e
    · rename_i hx; subst hx; exact f4
    · exact f2.used _ (h.su x s e)
  · have e : alook (aput S.sealed (freshOf S).1 (⟨key, b, p⟩ : Sealed)) x = some s := e
    rw [Q1k] at e
    split at e
    · cases e; show p.length ≤ _; omega
    · exact h.sh x s e
  · have hL : alook (aput S.sealed (freshOf S).1 (⟨key, b, p⟩ : Sealed)) ((handL (boxL (freshOf S).1.toNat (sizeN (classOf p.length))) : Nat) : Int) = some ⟨key, b, p⟩ := by
      rw [Q2w (by omega), Q1k, if_pos (by omega)]
    unfold openOf
    rw [hL]
    show (if _ then _ else if _ then _ else if _ then _ else _) = _
    rw [if_neg (by rw [Q13]; exact fun h => h rfl), if_neg (fun h => h rfl), if_neg (fun h => h rfl)]
theorem Q2N (key : Int) : ∀ (l : List Mem) (S : OS), KI S → key ∈ S.keys → (∀ m ∈ l, (alook S.publics m.pub).isSome) → S.used.length + l.length < 100000000 →
    KI (wrapsL S key l).1 ∧ KLe S (wrapsL S key l).1 ∧ (wrapsL S key l).2.map Prod.fst = l.map Mem.who ∧ (wrapsL S key l).1.keys = S.keys ∧ (wrapsL S key l).1.used.length = S.used.length + l.length ∧
    ∀ p ∈ (wrapsL S key l).2, ∃ m ∈ l, p.1 = m.who ∧ p.2.length = 16 ∧ alook (wrapsL S key l).1.wrapped (handL p.2) = some (m.pub, key)
  | [], S, h, hk, hp, hl => ⟨h, KLe.refl _, rfl, rfl, rfl, fun p hp => by cases hp⟩
  | m :: r, S, h, hk, hp, hl => by
    simp only [List.length_cons] at hl
    obtain ⟨a1, a2, a3, a4, a5, a6⟩ := h.wrap (hp m (by simp)) hk (by omega)
    obtain ⟨b1, b2, b3, b4, b5, b6⟩ := Q2N key r (wrapOf S m.pub key).2 a1 (by rw [a5]; exact hk) (fun x hx => by rw [a2.pb]; exact hp x (by simp [hx])) (by omega)
    refine ⟨b1, a2.trans b2, ?_, b4.trans a5, ?_, ?_⟩
    · show m.who :: (wrapsL (wrapOf S m.pub key).2 key r).2.map Prod.fst = _
      rw [b3]; rfl
    · show (wrapsL (wrapOf S m.pub key).2 key r).1.used.length = S.used.length + (r.length + 1); omega
    · intro p hp'
      rcases List.mem_cons.1 (show p ∈ (m.who, (wrapOf S m.pub key).1.1) :: (wrapsL (wrapOf S m.pub key).2 key r).2 from hp') with rfl | hp'
      · exact ⟨m, by simp, rfl, a3, b2.wr _ _ a4⟩
      · obtain ⟨m', hm, e1, e2, e3⟩ := b6 p hp'
        exact ⟨m', by simp [hm], e1, e2, e3⟩
structure BK (S : OS) (s : MS) (last : Int) : Prop where
  ki : KI (beginK S s last).2.2
  le : KLe S (beginK S s last).2.2
  len : (beginK S s last).2.2.used.length ≤ S.used.length + 10
  nz : (beginK S s last).2.1 ≠ 0
  new : (beginK S s last).2.1 ∉ S.used
  us : (beginK S s last).2.1 ∈ (beginK S s last).2.2.used
  kd : (beginK S s last).1.kd = 3
  right : rightM (beginK S s last).1 = true
  app : applyM s (beginK S s last).1 = if s.ep + 1 ≥ 20 then (MS.z, 2) else (⟨s.ml, s.ep + 1⟩, 0)
  opens : 0 ≤ s.ep → openOf (beginK S s last).2.2 (beginK S s last).2.1 (boundE (s.ep + 1)) (beginK S s last).1.old = (boxL last.toNat 0, 0)
  box : ∀ p ∈ (beginK S s last).1.ws, ∃ m ∈ nowM s.ml, p.1 = m.who ∧ p.2.length = 16 ∧ alook (beginK S s last).2.2.wrapped (handL p.2) = some (m.pub, (beginK S s last).2.1)
  whos : (beginK S s last).1.ws.map Prod.fst = (nowM s.ml).map Mem.who
theorem Q3E : ∀ {l : List (Int × List UInt8)} {last : Int}, l.Pairwise (fun a b => a.1 < b.1) → (∀ x ∈ l, last < x.1) → (∀ x ∈ l, x.2.length = 16 ∧ 0 ≤ x.1 ∧ x.1 < 8) → boxesGo last l = true
  | [], last, _, _, _ => rfl
  | x :: r, last, hp, h1, h2 => by
    have h3 := List.pairwise_cons.1 hp
    have hx := h2 x (by simp)
    have := Q3E h3.2 (last := x.1) h3.1 fun y hy => h2 y (by simp [hy])
    unfold boxesGo
    rw [this]
    simp [hx, h1 x (by simp)]
theorem Q4d {l : List Mem} {m : Mem} (h : m ∈ nowM l) : m ∈ l ∧ m.to_ = -1 := by
  unfold nowM at h
  simpa using h
theorem Q4w {S : OS} {s : MS} {last : Int} (h : KI S) (hs : s.ok) (hp : ∀ m ∈ nowM s.ml, (alook S.publics m.pub).isSome) (hne : nowM s.ml ≠ []) (hl : S.used.length < 10000000) : BK S s last := by
  obtain ⟨a1, a2, a3, a4, a5, a6⟩ := h.key
  have h8 := hs.le
  have hnl : (nowM s.ml).length ≤ 8 := Nat.le_trans (List.length_filter_le _ _) h8
  have hki := key_in S
  obtain ⟨b1, b2, b3, b4, b5, b6⟩ := Q2N (keyOf S).1 (nowM s.ml) (keyOf S).2 a1 hki (fun m hm => by rw [a2.pb]; exact hp m hm) (by omega)
  obtain ⟨d1, d2, d3, d4, d5⟩ := b1.sealK (key := (keyOf S).1) (b := boundE (s.ep + 1)) (p := boxL last.toNat 0) (by rw [b4]; exact hki) (by rw [Q13]) (by omega)
  have hpw : ((wrapsL (keyOf S).2 (keyOf S).1 (nowM s.ml)).2.map Prod.fst).Pairwise (· < ·) := by
    rw [b3, List.pairwise_map]
    exact hs.sorted.filter _
  have hws : boxesP (wrapsL (keyOf S).2 (keyOf S).1 (nowM s.ml)).2 = true := by
    unfold boxesP
    have hne2 : (wrapsL (keyOf S).2 (keyOf S).1 (nowM s.ml)).2 ≠ [] := fun e => by
      rw [e] at b3
      exact hne (List.map_eq_nil_iff.1 b3.symm)
    have hr : ∀ x ∈ (wrapsL (keyOf S).2 (keyOf S).1 (nowM s.ml)).2, x.2.length = 16 ∧ 0 ≤ x.1 ∧ x.1 < 8 := fun x hx => by
      obtain ⟨m, hm, e1, e2, _⟩ := b6 x hx
      have := hs.who m (Q4d hm).1
      rw [e1]; exact ⟨e2, this⟩
    rw [Q3E (List.pairwise_map.1 hpw) (fun x hx => by have := (hr x hx).2; omega) hr]
    simp [hne2]
  have hright : ∀ old : List UInt8, old.length = 0 ∨ old.length = 24 → rightM ⟨3, 0, 0, 0, (wrapsL (keyOf S).2 (keyOf S).1 (nowM s.ml)).2, old⟩ = true := fun old ho => by
    unfold rightM
    show (if (0 : Int) ≤ 0 ∧ (0 : Int) < 8 then (if ((3 : Int) == 3) = boxesP (wrapsL (keyOf S).2 (keyOf S).1 (nowM s.ml)).2 then _ else false) else false) = true
    rw [if_pos (by decide), hws, if_pos rfl]
    show (if (3 : Int) ≠ 3 ∧ ¬ ((wrapsL (keyOf S).2 (keyOf S).1 (nowM s.ml)).2 = [] ∧ old = []) then false else if (3 : Int) = 1 then decide ((0 : Int) ≠ 0 ∧ (0 : Int) = 0) else if (3 : Int) = 2 then decide ((0 : Int) ≠ 0 ∧ (0 : Int) = 0 ∧ 0 ≤ (0 : Int) ∧ (0 : Int) ≤ 200) else if (3 : Int) = 3 then decide ((0 : Int) = 0 ∧ (0 : Int) = 0 ∧ (0 : Int) = 0 ∧ (old.length = 0 ∨ old.length = 24)) else false) = true
    rw [if_neg (fun h => h.1 rfl), if_neg (by decide), if_neg (by decide), if_pos rfl]
    exact decide_eq_true ⟨rfl, rfl, rfl, ho⟩
  have happ : ∀ old : List UInt8, (old.length = 0 ∨ old.length = 24) → ((old.length : Int) == 0) = decide (s.ep < 0) → applyM s ⟨3, 0, 0, 0, (wrapsL (keyOf S).2 (keyOf S).1 (nowM s.ml)).2, old⟩ = if s.ep + 1 ≥ 20 then (MS.z, 2) else (⟨s.ml, s.ep + 1⟩, 0) := fun old ho he => by
    unfold applyM
    rw [if_pos (hright old ho)]
    show (if (3 : Int) = 1 then _ else if (3 : Int) = 2 then _ else beginM s ⟨3, 0, 0, 0, (wrapsL (keyOf S).2 (keyOf S).1 (nowM s.ml)).2, old⟩) = _
    rw [if_neg (by decide), if_neg (by decide)]
    unfold beginM
    by_cases h20 : s.ep + 1 ≥ 20
    · rw [if_pos h20, if_pos h20]
    · rw [if_neg h20, if_neg h20]
      show (if ((old.length : Int) == 0) = decide (s.ep < 0) then (if (nowM s.ml).map Mem.who = (wrapsL (keyOf S).2 (keyOf S).1 (nowM s.ml)).2.map Prod.fst then _ else _) else _) = _
      rw [if_pos he, if_pos b3.symm]
  by_cases hep : 0 ≤ s.ep
  · have hE : beginK S s last = (⟨3, 0, 0, 0, (wrapsL (keyOf S).2 (keyOf S).1 (nowM s.ml)).2, (sealOf (wrapsL (keyOf S).2 (keyOf S).1 (nowM s.ml)).1 (keyOf S).1 (boundE (s.ep + 1)) (boxL last.toNat 0)).1.1⟩, (keyOf S).1, (sealOf (wrapsL (keyOf S).2 (keyOf S).1 (nowM s.ml)).1 (keyOf S).1 (boundE (s.ep + 1)) (boxL last.toNat 0)).2) := by
      unfold beginK; exact if_pos hep
    have hold : ((((sealOf (wrapsL (keyOf S).2 (keyOf S).1 (nowM s.ml)).1 (keyOf S).1 (boundE (s.ep + 1)) (boxL last.toNat 0)).1.1.length : Nat) : Int) == 0) = decide (s.ep < 0) := by
      rw [d3, decide_eq_false (by omega)]; rfl
    constructor <;> rw [hE]
    · exact d1
    · exact (a2.trans b2).trans d2
    · show (sealOf _ _ _ _).2.used.length ≤ _; omega
    · exact a4
    · exact a3
    · exact d2.us _ (b2.us _ a5)
    · exact hright _ (.inr d3)
    · exact happ _ (.inr d3) hold
    · exact fun _ => d4
    · intro p hp'
      obtain ⟨m, hm, e1, e2, e3⟩ := b6 p hp'
      exact ⟨m, hm, e1, e2, d2.wr _ _ e3⟩
    · exact b3
  · have hE : beginK S s last = (⟨3, 0, 0, 0, (wrapsL (keyOf S).2 (keyOf S).1 (nowM s.ml)).2, []⟩, (keyOf S).1, (wrapsL (keyOf S).2 (keyOf S).1 (nowM s.ml)).1) := by
      unfold beginK; exact if_neg hep
    have hold : (((([] : List UInt8).length : Nat) : Int) == 0) = decide (s.ep < 0) := by
      rw [decide_eq_true (by omega)]; rfl
    constructor <;> rw [hE]
    · exact b1
    · exact a2.trans b2
    · show (wrapsL _ _ _).1.used.length ≤ _; omega
    · exact a4
    · exact a3
    · exact b2.us _ a5
    · exact hright _ (.inl rfl)
    · exact happ _ (.inl rfl) hold
    · exact fun h => absurd h hep
    · exact b6
    · exact b3
theorem BK.told {S : OS} {s : MS} {last : Int} (h : BK S s last) {R : Rng} (h1 : ∃ m ∈ nowM s.ml, m.who = R.who) (h2 : ∀ m ∈ nowM s.ml, m.who = R.who → alook S.publics m.pub = some R.secret) : toldBy (beginK S s last).2.2 R (beginK S s last).1 = ((beginK S s last).2.1, 0) := by
  obtain ⟨m, hm, hw⟩ := h1
  unfold toldBy
  cases hf : (beginK S s last).1.ws.find? (fun p => p.1 == R.who) with
  | none =>
    have hmem : m.who ∈ (beginK S s last).1.ws.map Prod.fst := by rw [h.whos]; exact List.mem_map_of_mem hm
    obtain ⟨p, hp, e⟩ := List.mem_map.1 hmem
    have := List.find?_eq_none.1 hf p hp
    simp [e, hw] at this
  | some p =>
    have hp := List.mem_of_find?_eq_some hf
    have he : p.1 = R.who := by have := List.find?_some hf; simpa using this
    obtain ⟨m', hm', e1, e2, e3⟩ := h.box p hp
    show Q11 _ _ _ = _
    unfold Q11
    rw [e3]
    show (if _ then _ else if _ then _ else _) = _
    rw [if_neg (by rw [e2]; exact fun h => h rfl), if_neg (by
      rw [h.le.pb]
      show ¬ (alook S.publics m'.pub).getD 0 ≠ _
      rw [h2 m' hm' (by rw [← e1]; exact he)]
      exact fun h => h rfl)]
theorem BK.other {S : OS} {s : MS} {last : Int} (h : BK S s last) {R : Rng} (h1 : ∀ m ∈ nowM s.ml, m.who ≠ R.who) : toldBy (beginK S s last).2.2 R (beginK S s last).1 = (0, 11) := by
  unfold toldBy
  cases hf : (beginK S s last).1.ws.find? (fun p => p.1 == R.who) with
  | none => rfl
  | some p =>
    have hp := List.mem_of_find?_eq_some hf
    have he : p.1 = R.who := by have := List.find?_some hf; simpa using this
    obtain ⟨m', hm', e1, _⟩ := h.box p hp
    exact absurd (by rw [← e1]; exact he) (h1 m' hm')
def mkK (K : List Int) (m e : Nat) : List Int := (List.range K.length).map fun d => if d < m ∨ e ≤ d then K[d]?.getD 0 else 0
theorem Q1U (K : List Int) (m e : Nat) : (mkK K m e).length = K.length := by simp [mkK]
theorem mkK_get {K : List Int} {m e d : Nat} (hd : d < K.length) : (mkK K m e)[d]?.getD 0 = if d < m ∨ e ≤ d then K[d]?.getD 0 else 0 := by
  unfold mkK
  rw [List.getElem?_map, List.getElem?_range hd]; rfl
theorem Q45 {K : List Int} {m e : Nat} (h : e ≤ m) : mkK K m e = K := by
  refine List.ext_getElem? fun d => ?_
  unfold mkK
  rw [List.getElem?_map]
  by_cases hd : d < K.length
  · rw [List.getElem?_range hd]
    show some (if d < m ∨ e ≤ d then K[d]?.getD 0 else 0) = _
    rw [if_pos (by omega), List.getElem?_eq_getElem hd]; rfl
  · rw [List.getElem?_eq_none (by simp; omega), List.getElem?_eq_none (by omega)]; rfl
theorem Q6u (K : List Int) (m : Nat) (hm : m ≤ K.length) (x : Int) : mkK K m K.length ++ [x] = mkK (K ++ [x]) m K.length := by
  unfold mkK
  rw [List.length_append, List.length_singleton, List.range_succ, List.map_append]
  congr 1
  · refine List.map_congr_left fun d hd => ?_
    have hd := List.mem_range.1 hd
    rw [List.getElem?_append_left hd]
  · show [x] = [if K.length < m ∨ K.length ≤ K.length then (K ++ [x])[K.length]?.getD 0 else 0]
    rw [if_pos (.inr (Nat.le_refl _))]; simp
theorem Q52 (K : List Int) (m : Nat) (hm : m ≤ K.length) (x : Int) : mkK K m K.length ++ [0] = mkK (K ++ [x]) m (K.length + 1) := by
  unfold mkK
  rw [List.length_append, List.length_singleton, List.range_succ, List.map_append]
  congr 1
  · refine List.map_congr_left fun d hd => ?_
    have hd := List.mem_range.1 hd
    rw [List.getElem?_append_left hd]
    by_cases h : d < m
    · rw [if_pos (.inl h), if_pos (.inl h)]
    · rw [if_neg (by omega), if_neg (by omega)]
  · show [(0 : Int)] = [if K.length < m ∨ K.length + 1 ≤ K.length then (K ++ [x])[K.length]?.getD 0 else 0]
    rw [if_neg (by omega)]
structure Chain (S : OS) (K : List Int) (O : List (List UInt8)) : Prop where
  len : O.length = K.length
  nz : ∀ x ∈ K, 0 < x ∧ x < 18446744073709551616
  link : ∀ e, e + 1 < K.length → openOf S (K[e + 1]?.getD 0) (boundE ((e + 1 : Nat) : Int)) (O[e + 1]?.getD []) = (boxL (K[e]?.getD 0).toNat 0, 0)
  short : ∀ b ∈ O, b.length < 1000000
theorem Chain.pos {S : OS} {K : List Int} {O : List (List UInt8)} (h : Chain S K O) {d : Nat} (hd : d < K.length) : 0 < K[d]?.getD 0 ∧ K[d]?.getD 0 < 18446744073709551616 := by
  rw [List.getElem?_eq_getElem hd]; exact h.nz _ (List.getElem_mem hd)
theorem Q5Y {h : Nat} (hh : h < 18446744073709551616) : valOf (boxL h 0) = h := by
  have := Q2w hh 0
  unfold handL at this
  rw [if_neg (by rw [Q13]; omega), boxL_eq, List.drop_left' (by rfl), List.take_left' (by rfl), if_neg (by simp)] at this
  rw [boxL_eq, List.replicate_zero, List.append_nil]; exact this
theorem Q4s {S : OS} {K : List Int} {O : List (List UInt8)} (h : Chain S K O) (m : Nat) : ∀ (e : Nat), e < K.length → backK S O e (mkK K m e) = K
  | 0, _ => Q45 (Nat.zero_le _)
  | e + 1, he => by
    unfold backK
    by_cases hem : e < m
    · rw [if_neg, Q45 hem]
      rintro ⟨⟨_, h2⟩, _⟩
      rw [mkK_get (by omega), if_pos (.inl hem)] at h2
      have := (h.pos (d := e) (by omega)).1
      omega
    · have h1 : (mkK K m (e + 1))[e + 1]?.getD 0 = K[e + 1]?.getD 0 := by rw [mkK_get he, if_pos (.inr (Nat.le_refl _))]
      have h0 : (mkK K m (e + 1))[e]?.getD 0 = 0 := by rw [mkK_get (by omega), if_neg (by omega)]
      have hp := h.pos (d := e + 1) he
      have hp0 := h.pos (d := e) (by omega)
      have hl := h.link e he
      rw [if_pos]
      · rw [h1, hl]
        have : ((valOf (boxL (K[e]?.getD 0).toNat 0) : Nat) : Int) = K[e]?.getD 0 := by rw [Q5Y (by omega)]; omega
        show backK S O e ((mkK K m (e + 1)).set e ((valOf (boxL (K[e]?.getD 0).toNat 0) : Nat) : Int)) = K
        rw [this]
        have hset : (mkK K m (e + 1)).set e (K[e]?.getD 0) = mkK K m e := by
          refine List.ext_getElem? fun d => ?_
          rw [List.getElem?_set]
          split
          · rename_i hde; subst hde
            rw [if_pos (by rw [Q1U]; omega)]
            unfold mkK
            rw [List.getElem?_map, List.getElem?_range (by omega)]
            show _ = some (if _ then _ else _)
            rw [if_pos (.inr (Nat.le_refl _))]
          · rename_i hde
            unfold mkK
            rw [List.getElem?_map, List.getElem?_map]
            by_cases hd : d < K.length
            · rw [List.getElem?_range hd]
              show some (if d < m ∨ e + 1 ≤ d then _ else _) = some (if d < m ∨ e ≤ d then _ else _)
              have hiff : (d < m ∨ e + 1 ≤ d) ↔ (d < m ∨ e ≤ d) := by omega
              simp only [hiff]
            · rw [List.getElem?_eq_none (by simp; omega)]; rfl
        rw [hset]
        exact Q4s h m e (by omega)
      · unfold tells
        rw [h1, h0, hl]
        exact ⟨⟨by omega, rfl⟩, rfl, by rw [Q13]⟩
set_option maxRecDepth 100000
set_option maxRecDepth 20000
structure WD where
  k : Nat
  j : Nat
  pub : Nat → Int
  rq : Nat → Option Nat
  mq : Nat → Option Nat
  sm : MS
  tm : MS
  sec : Nat → Int
  last : Int
section
variable {w w' w1 w2 : World} {o o' o1 : Own} {q k p N m i : Nat} {K : Nat → Prop} {X : WD} {a : Option Addr} {c : Nat}
theorem Blk.apart {t t' : TypeId} {cs cs' : List Value} (h : Blk w p t cs) (k : Blk w q t' cs') (hn : t ≠ t') : p ≠ q := fun e => by
  subst e
  have : some (Obj.cells cs.toArray t) = some (Obj.cells cs'.toArray t') := h.symm.trans k
  cases this; exact hn rfl
theorem POrc.typ {S : OS} (h : POrc w o k S) : ∃ cs, Blk w k 102 cs := by
  obtain ⟨g, rfl, h1, _⟩ := h
  obtain ⟨da, dc, hb, _⟩ := h1.st
  exact ⟨_, hb⟩
theorem Rof.typ {S : OS} {n : Nat} (h : Rof w o k S n) : ∃ cs, Blk w k 54 cs := by
  obtain ⟨d, R, ⟨R', _, h1⟩, _⟩ := h.ex
  obtain ⟨da, dc, la, lc, hb, _⟩ := h1.at_
  exact ⟨_, hb⟩
theorem EG.typ {R : Rng} (h : EG w o q k R) : ∃ cs, Blk w q 108 cs := by
  obtain ⟨ka, kc, oa, oc, ol, hb, _⟩ := h.mem
  exact ⟨_, hb⟩
theorem MG.typ {R : Rng} (h : MG w o q R) : ∃ cs, Blk w q 61 cs := by
  obtain ⟨ka, kc, oa, oc, ol, hb, _⟩ := h.mem
  exact ⟨_, hb⟩
theorem EG.diff {R R' : Rng} {k' q' : Nat} (h : EG w o q k R) (h' : EG w o q' k' R') (hn : R.who ≠ R'.who) : q ≠ q' := fun e => by
  subst e
  have e2 := h.who.symm.trans h'.who
  simp at e2
  exact hn e2
end
section
variable {w w' w1 w2 : World} {o o' o1 : Own} {q k p N m n i : Nat} {K : Nat → Prop} {X : WD} {S T : OS} {R M : Nat → Rng}
end
theorem Q3p (S : OS) : (pairOf S).2.sealed = S.sealed := by
  obtain ⟨c1, c2, c3, c4, c5, c6, c7, c8⟩ := Q0R S
  obtain ⟨d1, d2, d3, d4, d5, d6, d7, d8⟩ := Q0R { (freshOf S).2 with secrets := badd S.secrets (freshOf S).1 }
  show (freshOf { (freshOf S).2 with secrets := badd S.secrets (freshOf S).1 }).2.sealed = _
  rw [d7]; exact c7
theorem Q2R (S : OS) : (pairOf S).2.wrapped = S.wrapped := by
  obtain ⟨c1, c2, c3, c4, c5, c6, c7, c8⟩ := Q0R S
  obtain ⟨d1, d2, d3, d4, d5, d6, d7, d8⟩ := Q0R { (freshOf S).2 with secrets := badd S.secrets (freshOf S).1 }
  show (freshOf { (freshOf S).2 with secrets := badd S.secrets (freshOf S).1 }).2.wrapped = _
  rw [d8]; exact c8
section
variable {w w' : World} {o o' : Own}
end
section
variable {w w' w1 w2 : World} {o o' o1 : Own} {q k p N m n i : Nat} {K : Nat → Prop} {X : WD} {S T : OS} {R M : Nat → Rng}
end
structure PI (X : WD) (S : OS) (R : Nat → Rng) (K : List Int) (O : List (List UInt8)) : Prop where
  ki : KI S
  pub : ∀ i, i < 4 → alook S.publics (X.pub i) = some (X.sec i)
  st : X.tm = X.sm
  ok : X.sm.ok
  mem : ∀ m ∈ X.sm.ml, ∃ i : Nat, i < 4 ∧ m.who = i ∧ m.pub = X.pub i
  fr : ∀ m ∈ X.sm.ml, m.fr ≤ X.sm.ep + 1
  zero : ∃ m ∈ X.sm.ml, m.who = 0 ∧ m.to_ = -1
  ep : (K.length : Int) = X.sm.ep + 1
  ch : Chain S K O
  last : X.last = K.getLast?.getD 0
  ring : ∀ i : Nat, i < 4 → (R i).who = i ∧ (R i).secret = X.sec i ∧ (R i).olds = O ∧ ∃ m, m ≤ K.length ∧ (R i).keys = mkK K m K.length
theorem PI.ne {X : WD} {S : OS} {R : Nat → Rng} {K : List Int} {O : List (List UInt8)} (h : PI X S R K O) : nowM X.sm.ml ≠ [] := fun e => by
  obtain ⟨m, hm, _, ht⟩ := h.zero
  have : m ∈ nowM X.sm.ml := by unfold nowM; simp [hm, ht]
  rw [e] at this; cases this
theorem PI.known {X : WD} {S : OS} {R : Nat → Rng} {K : List Int} {O : List (List UInt8)} (h : PI X S R K O) : ∀ m ∈ nowM X.sm.ml, (alook S.publics m.pub).isSome := fun m hm => by
  obtain ⟨i, hi, _, e⟩ := h.mem m (Q4d hm).1
  rw [e, h.pub i hi]; rfl
theorem PI.begin {X : WD} {S : OS} {R : Nat → Rng} {K : List Int} {O : List (List UInt8)} (h : PI X S R K O) (hl : S.used.length < 10000000) : BK S X.sm X.last := Q4w h.ki h.ok h.known h.ne hl
theorem PI.last_rng {X : WD} {S : OS} {R : Nat → Rng} {K : List Int} {O : List (List UInt8)} (h : PI X S R K O) : 0 ≤ X.last ∧ X.last < 18446744073709551616 := by
  rw [h.last]
  cases hk : K.getLast? with
  | none => exact ⟨by decide, by decide⟩
  | some x => have := h.ch.nz x (List.mem_of_getLast? hk); exact ⟨by show 0 ≤ x; omega, by show x < _; omega⟩
theorem PI.chain {X : WD} {S : OS} {R : Nat → Rng} {K : List Int} {O : List (List UInt8)} (h : PI X S R K O) (hl : S.used.length < 10000000) (hold : (beginK S X.sm X.last).1.old.length < 1000000) :
    Chain (beginK S X.sm X.last).2.2 (K ++ [(beginK S X.sm X.last).2.1]) (O ++ [(beginK S X.sm X.last).1.old]) := by
  have B := h.begin hl
  have hlen := h.ch.len
  have hfit := B.ki.inv.fit (by have := B.len; omega) B.us
  refine ⟨by simp [hlen], fun x hx => ?_, fun e he => ?_, fun b hb => ?_⟩
  · rcases List.mem_append.1 hx with hx | hx
    · exact h.ch.nz x hx
    · have := B.nz
      simp at hx; subst hx
      omega
  · have he : e + 1 < K.length + 1 := by simpa using he
    by_cases hee : e + 1 < K.length
    · rw [List.getElem?_append_left hee, List.getElem?_append_left (by omega), List.getElem?_append_left (by omega)]
      exact B.le.open (h.ch.link e hee)
    · have hee : e + 1 = K.length := by omega
      have hep : 0 ≤ X.sm.ep := by have := h.ep; omega
      have hop := B.opens hep
      have e1 : (K ++ [(beginK S X.sm X.last).2.1])[e + 1]?.getD 0 = (beginK S X.sm X.last).2.1 := by rw [hee]; simp
      have e2 : (O ++ [(beginK S X.sm X.last).1.old])[e + 1]?.getD [] = (beginK S X.sm X.last).1.old := by rw [hee, ← hlen]; simp
      have e3 : (K ++ [(beginK S X.sm X.last).2.1])[e]?.getD 0 = X.last := by
        rw [List.getElem?_append_left (by omega), h.last, List.getLast?_eq_getElem?, show K.length - 1 = e by omega]
      rw [e1, e2, e3, show ((e + 1 : Nat) : Int) = X.sm.ep + 1 by have := h.ep; omega]
      exact hop
  · rcases List.mem_append.1 hb with hb | hb
    · exact h.ch.short b hb
    · simp at hb; subst hb; exact hold
theorem PI.in_ {X : WD} {S : OS} {R : Nat → Rng} {K : List Int} {O : List (List UInt8)} (h : PI X S R K O) (hl : S.used.length < 10000000) (hold : (beginK S X.sm X.last).1.old.length < 1000000) (hep : X.sm.ep + 1 < 20) {i : Nat} (hi : i < 4) (hm : ∃ m ∈ nowM X.sm.ml, m.who = i) :
    learnK (beginK S X.sm X.last).2.2 (R i) (beginK S X.sm X.last).1 = ({ R i with keys := K ++ [(beginK S X.sm X.last).2.1], olds := O ++ [(beginK S X.sm X.last).1.old] }, 0) := by
  have B := h.begin hl
  have C := h.chain hl hold
  obtain ⟨r1, r2, r3, m, hm', r4⟩ := h.ring i hi
  have hkl : (R i).keys.length = K.length := by rw [r4, Q1U]
  have ht := B.told (R := R i) (by rw [r1]; exact hm) fun m' hm2 hw => by
    obtain ⟨d, hd, e1, e2⟩ := h.mem m' (Q4d hm2).1
    have : d = i := by rw [r1, e1] at hw; omega
    subst this
    rw [e2, r2]; exact h.pub d hd
  unfold learnK
  rw [if_neg (by rw [B.kd, B.right]; simp), if_neg (by have := h.ep; omega), ht, hkl, r3, r4]
  dsimp only
  rw [Q6u K m hm', Q4s C m K.length (by simp)]
theorem PI.out_ {X : WD} {S : OS} {R : Nat → Rng} {K : List Int} {O : List (List UInt8)} (h : PI X S R K O) (hl : S.used.length < 10000000) (hep : X.sm.ep + 1 < 20) {i : Nat} (hi : i < 4) (hm : ∀ m ∈ nowM X.sm.ml, m.who ≠ i) :
    ∃ m, m ≤ K.length ∧ learnK (beginK S X.sm X.last).2.2 (R i) (beginK S X.sm X.last).1 = ({ R i with keys := mkK (K ++ [(beginK S X.sm X.last).2.1]) m (K.length + 1), olds := O ++ [(beginK S X.sm X.last).1.old] }, 11) := by
  have B := h.begin hl
  obtain ⟨r1, r2, r3, m, hm', r4⟩ := h.ring i hi
  have hkl : (R i).keys.length = K.length := by rw [r4, Q1U]
  have ht := B.other (R := R i) (by rw [r1]; exact hm)
  refine ⟨m, hm', ?_⟩
  unfold learnK
  rw [if_neg (by rw [B.kd, B.right]; simp), if_neg (by have := h.ep; omega), ht, hkl, r3, r4]
  dsimp only
  rw [Q52 K m hm' (beginK S X.sm X.last).2.1]
  have hb : backK (beginK S X.sm X.last).2.2 (O ++ [(beginK S X.sm X.last).1.old]) K.length (mkK (K ++ [(beginK S X.sm X.last).2.1]) m (K.length + 1)) = mkK (K ++ [(beginK S X.sm X.last).2.1]) m (K.length + 1) := by
    cases hK : K.length with
    | zero => rfl
    | succ e =>
      unfold backK
      rw [if_neg]
      rintro ⟨⟨h1, _⟩, _⟩
      rw [mkK_get (by simp; omega), if_neg (by omega)] at h1
      exact h1 rfl
  rw [hb]
theorem PI.next {X : WD} {S : OS} {R R' : Nat → Rng} {K : List Int} {O : List (List UInt8)} (h : PI X S R K O) (hl : S.used.length < 10000000) (hold : (beginK S X.sm X.last).1.old.length < 1000000) (hep : X.sm.ep + 1 < 20)
    (hR : ∀ i, i < 4 → R' i = (learnK (beginK S X.sm X.last).2.2 (R i) (beginK S X.sm X.last).1).1) :
    PI { X with last := (beginK S X.sm X.last).2.1, sm := ⟨X.sm.ml, X.sm.ep + 1⟩, tm := ⟨X.sm.ml, X.sm.ep + 1⟩ } (beginK S X.sm X.last).2.2 R' (K ++ [(beginK S X.sm X.last).2.1]) (O ++ [(beginK S X.sm X.last).1.old]) := by
  have B := h.begin hl
  have he := h.ep
  have h0 := h.ok.ep0
  refine ⟨B.ki, fun i hi => by rw [B.le.pb]; exact h.pub i hi, rfl, ⟨h.ok.sorted, h.ok.who, by show -1 ≤ X.sm.ep + 1; omega, hep⟩, h.mem, fun m hm => by have := h.fr m hm; show m.fr ≤ X.sm.ep + 1 + 1; omega, h.zero, by simp; omega, h.chain hl hold, by simp, fun i hi => ?_⟩
  rw [hR i hi]
  obtain ⟨r1, r2, r3, _⟩ := h.ring i hi
  by_cases hm : ∃ m ∈ nowM X.sm.ml, m.who = i
  · rw [h.in_ hl hold hep hi hm]
    exact ⟨r1, r2, rfl, K.length + 1, by simp, by simp [Q45]⟩
  · obtain ⟨m, hm', e⟩ := h.out_ hl hep hi fun m hm1 hm2 => hm ⟨m, hm1, hm2⟩
    rw [e]
    exact ⟨r1, r2, rfl, m, by simp; omega, by simp⟩
theorem Q6n {R : Rng} {K : List Int} {e : Nat} (hk : R.keys = K) (he : e < K.length) (hz : ∀ x ∈ K, 0 < x ∧ x < 18446744073709551616) : keyK R e = (K[e]?.getD 0, 0) := by
  unfold keyK
  have := hz _ (List.getElem_mem he)
  rw [hk, if_neg (by omega), Int.toNat_natCast, if_neg (by rw [List.getElem?_eq_getElem he]; show ¬ (K[e] = 0); omega)]
open W (OwnB GivesW numR countR doneR zig unzig intR)
section
variable {w w' : World} {a : Option Addr} {c N p : Nat} {bs : List UInt8} {k : Int}
/-! ### the reference's -/
end
open W (OwnB GivesW numR countR doneR zig unzig intR)
def Q0s.M (n1 a1 a0 : Int) (R : RW) (w : World) : Prop :=
 bif decide (n1 ≥ a1) then (
 R (.bool (decide (n1 < a0))) w) else (
 R (.bool false) w)

theorem Q0s.ok (n1 a1 a0 : Int) {R : RW} {w : World} (h : Q0s.M n1 a1 a0 R w) : Calls Try.prog 67 #[.int .i64 n1, .int .i64 a1, .int .i64 a0] w fun e w' => ∃ v, e = .returned v ∧ R v w' :=
  Q0i follows (H := []) (args := [.int .i64 n1, .int .i64 a1, .int .i64 a0]) (cast (by kernel_rfl) h)

def Q0s.N (n1 a0 a1 : Int) (R : RW) (w : World) : Prop :=
 (n1 ≥ a0 →
 R (.bool (decide (n1 < a1))) w) ∧
 (n1 < a0 →
 R (.bool false) w)

theorem Q0s.up (n1 a1 a0 : Int) {R : RW} {w : World} (h : Q0s.N n1 a1 a0 R w) : Q0s.M n1 a1 a0 R w := by
  unfold Q0s.M
  unfold Q0s.N at h
  refine bif_of (fun c4 => ?_) (fun c4 => ?_)
  ·have h := h.1 (of_decide_eq_true c4)
   exact h
  have h := h.2 (Int.not_le.1 (of_decide_eq_false c4))
  exact h

theorem Q0s.go (n1 a1 a0 : Int) {R : RW} {w : World} (h : Q0s.N n1 a1 a0 R w) : Calls Try.prog 67 #[.int .i64 n1, .int .i64 a1, .int .i64 a0] w fun e w' => ∃ v, e = .returned v ∧ R v w' := Q0s.ok n1 a1 a0 (Q0s.up n1 a1 a0 h)
theorem Q0s.run (n1 a1 a0 : Int) {V : Value} {Q : World → Prop} {w : World} (h : Q0s.N n1 a1 a0 (fun v w' => v = V ∧ Q w') w) : Calls Try.prog 67 #[.int .i64 n1, .int .i64 a1, .int .i64 a0] w (Ret V Q) := (Q0s.go n1 a1 a0 h).mono fun e w' ⟨v, he, hv, hq⟩ => ⟨by rw [he, hv], hq⟩

def Q0s.F (n1 a1 a0 : Int) : Bool :=
  if n1 ≥ a1 then
    (decide (n1 < a0))
  else
    false
theorem Q0s.pure (n1 a0 a1 : Int) {w : World} : Calls Try.prog 67 #[.int .i64 n1, .int .i64 a0, .int .i64 a1] w (Ret (.bool (Q0s.F n1 a0 a1)) fun w' => Ext no w w') := by
  refine Q0s.run n1 a0 a1 ?_
  unfold Q0s.N
  refine ⟨fun c0 => ?_, fun c0 => ?_⟩
  ·exact ⟨by unfold Q0s.F; rw [if_pos c0], Ext.refl _ _⟩
  ·exact ⟨by unfold Q0s.F; rw [if_neg (show ¬ (n1 ≥ a0) from by omega)], Ext.refl _ _⟩

def Q0T.M (a0 : Int) (R : RW) (w : World) : Prop :=
 bif decide (a0 ≥ 0) then (
 R (.bool (decide (a0 < 8))) w) else (
 R (.bool false) w)

theorem Q0T.ok (a0 : Int) {R : RW} {w : World} (h : Q0T.M a0 R w) : Calls Try.prog 89 #[.int .i64 a0] w fun e w' => ∃ v, e = .returned v ∧ R v w' :=
  Q0i follows (H := []) (args := [.int .i64 a0]) (cast (by kernel_rfl) h)

def Q0T.N (a0 : Int) (R : RW) (w : World) : Prop :=
 (a0 ≥ 0 →
 R (.bool (decide (a0 < 8))) w) ∧
 (a0 < 0 →
 R (.bool false) w)

theorem Q0T.up (a0 : Int) {R : RW} {w : World} (h : Q0T.N a0 R w) : Q0T.M a0 R w := by
  unfold Q0T.M
  unfold Q0T.N at h
  refine bif_of (fun c2 => ?_) (fun c2 => ?_)
  ·have h := h.1 (of_decide_eq_true c2)
   exact h
  have h := h.2 (Int.not_le.1 (of_decide_eq_false c2))
  exact h

theorem Q0T.go (a0 : Int) {R : RW} {w : World} (h : Q0T.N a0 R w) : Calls Try.prog 89 #[.int .i64 a0] w fun e w' => ∃ v, e = .returned v ∧ R v w' := Q0T.ok a0 (Q0T.up a0 h)
theorem Q0T.run (a0 : Int) {V : Value} {Q : World → Prop} {w : World} (h : Q0T.N a0 (fun v w' => v = V ∧ Q w') w) : Calls Try.prog 89 #[.int .i64 a0] w (Ret V Q) := (Q0T.go a0 h).mono fun e w' ⟨v, he, hv, hq⟩ => ⟨by rw [he, hv], hq⟩

def Q0T.F (a0 : Int) : Bool :=
  if a0 ≥ 0 then
    (decide (a0 < 8))
  else
    false
theorem Q0T.pure (a0 : Int) {w : World} : Calls Try.prog 89 #[.int .i64 a0] w (Ret (.bool (Q0T.F a0)) fun w' => Ext no w w') := by
  refine Q0T.run a0 ?_
  unfold Q0T.N
  refine ⟨fun c0 => ?_, fun c0 => ?_⟩
  ·exact ⟨by unfold Q0T.F; rw [if_pos c0], Ext.refl _ _⟩
  ·exact ⟨by unfold Q0T.F; rw [if_neg (show ¬ (a0 ≥ 0) from by omega)], Ext.refl _ _⟩

def Q0U.M (a5 a3 : Int) (R : RW) (w : World) : Prop :=
 thenW (w.alloc (.cells #[.int .i64 a5, .int .i64 a3] 40)) fun a1 =>
 ∃ (T4 : Int), a1.cell? ((blk w.heap.size).add 0) = some (.int .i64 T4) ∧
 bif decide (T4 > 0) then (
 ∃ (T5 : Int), a1.cell? ((blk w.heap.size).add 0) = some (.int .i64 T5) ∧
 bif decide (T5 ≤ 1099511627776) then (
 ∃ (W6 : Int), a1.cell? ((blk w.heap.size).add 1) = some (.int .i64 W6) ∧
 Calls Try.prog 89 #[.int .i64 W6] a1 fun a2 a4 => ∃ (a0 : Bool), a2 = .returned (.bool a0) ∧
 R (.bool a0) a4) else (
 R (.bool false) a1)) else (
 R (.bool false) a1)

theorem Q0U.ok (a0 a1 : Int) {R : RW} {w : World} (h : Q0U.M a0 a1 R w) : Calls Try.prog 68 #[.agg #[.int .i64 a0, .int .i64 a1]] w fun e w' => ∃ v, e = .returned v ∧ R v w' :=
  Q0i follows (H := []) (args := [.agg #[.int .i64 a0, .int .i64 a1]]) (cast (by kernel_rfl) h)

def Q0U.N (a1 a3 : Int) (R : RW) (w : World) : Prop :=
 (a1 > 0 →
 (a1 ≤ 1099511627776 →
 ∀ (a2 : World), Ext no w a2 →
 R (.bool (Q0T.F a3)) a2) ∧
 ((1099511627776 : Int) < a1 →
 ∀ (a0 : World), Ext no w a0 →
 R (.bool false) a0)) ∧
 (a1 ≤ 0 →
 ∀ (a0 : World), Ext no w a0 →
 R (.bool false) a0)

theorem Q0U.up (a1 a0 : Int) {R : RW} {w : World} (h : Q0U.N a1 a0 R w) : Q0U.M a1 a0 R w := by
  unfold Q0U.M
  unfold Q0U.N at h
  refine Q01 fun a4 e3 => ?_
  have a3 := Blk.of_new e3
  have a6 := ((Ext.refl no w)).size
  have a2 := (Ext.refl no w).x_alloc e3
  refine ⟨a1, a3.celli 0 rfl rfl, ?_⟩
  refine bif_fo (fun c4 => ?_) (fun c4 => ?_)
  ·have h := h.2 (Int.not_lt.1 (of_decide_eq_false c4))
   have h := h a4 a2
   exact h
  have h := h.1 (of_decide_eq_true c4)
  refine ⟨a1, a3.celli 0 rfl rfl, ?_⟩
  refine bif_fo (fun c5 => ?_) (fun c5 => ?_)
  ·have h := h.2 (Int.not_le.1 (of_decide_eq_false c5))
   have h := h a4 a2
   exact h
  have h := h.1 (of_decide_eq_true c5)
  refine ⟨a0, a3.celli 1 rfl rfl, ?_⟩
  refine (Q0T.pure a0).mono fun ee ww6 ⟨he, hxx⟩ => ⟨(Q0T.F a0), he, ?_⟩
  have a5 := a2.trans hxx
  have h := h ww6 a5
  exact h

theorem Q0U.go (a0 a1 : Int) {R : RW} {w : World} (h : Q0U.N a0 a1 R w) : Calls Try.prog 68 #[.agg #[.int .i64 a0, .int .i64 a1]] w fun e w' => ∃ v, e = .returned v ∧ R v w' := Q0U.ok a0 a1 (Q0U.up a0 a1 h)
theorem Q0U.run (a0 a1 : Int) {V : Value} {Q : World → Prop} {w : World} (h : Q0U.N a0 a1 (fun v w' => v = V ∧ Q w') w) : Calls Try.prog 68 #[.agg #[.int .i64 a0, .int .i64 a1]] w (Ret V Q) := (Q0U.go a0 a1 h).mono fun e w' ⟨v, he, hv, hq⟩ => ⟨by rw [he, hv], hq⟩

def Q0U.F (a0 a1 : Int) : Bool :=
  if a0 > 0 then
    if a0 ≤ 1099511627776 then
      (Q0T.F a1)
    else
      false
  else
    false
theorem Q0U.pure (a0 a1 : Int) {w : World} : Calls Try.prog 68 #[.agg #[.int .i64 a0, .int .i64 a1]] w (Ret (.bool (Q0U.F a0 a1)) fun w' => Ext no w w') := by
  refine Q0U.run a0 a1 ?_
  unfold Q0U.N
  refine ⟨fun c0 => ?_, fun c0 => ?_⟩
  ·refine ⟨fun c1 => ?_, fun c1 => ?_⟩
   ·intro w' hx; exact ⟨by unfold Q0U.F; rw [if_pos c0, if_pos c1], hx⟩
   ·intro w' hx; exact ⟨by unfold Q0U.F; rw [if_pos c0, if_neg (show ¬ (a0 ≤ 1099511627776) from by omega)], hx⟩
  ·intro w' hx; exact ⟨by unfold Q0U.F; rw [if_neg (show ¬ (a0 > 0) from by omega)], hx⟩

def Q0M.M (av be bm bq bo bd : Int) (b6 : Option Addr) (ba bc : Nat) (bp : Int) (R : RW) (w : World) : Prop :=
 thenW (w.alloc (.cells #[.int .i64 av, .int .i64 be, .int .u64 bm, .int .i64 bq, .int .i64 bo, .int .i64 bd, .slice b6 ba bc, .int .u64 bp] 42)) fun c1 =>
 ∃ (ac : Int), c1.cell? ((blk w.heap.size).add 0) = some (.int .i64 ac) ∧
 Calls Try.prog 67 #[.int .i64 ac, .int .i64 0, .int .i64 8] c1 fun br b2 => ∃ (a3 : Bool), br = .returned (.bool a3) ∧
 bif !a3 then (
 bif !a3 then (
 R (.bool false) b2) else (
 ∃ (bj bg : Int), cellsAt b2 ((blk w.heap.size).add 3) [.int .i64 bj, .int .i64 bg] 0 ∧
 Calls Try.prog 68 #[.agg #[.int .i64 bj, .int .i64 bg]] b2 fun c0 a2 => ∃ (aa : Bool), c0 = .returned (.bool aa) ∧
 bif !aa then (
 bif !aa then (
 R (.bool false) a2) else (
 ∃ (b3 : Int), a2.cell? ((blk w.heap.size).add 2) = some (.int .u64 b3) ∧
 ∃ (ai : Int), a2.cell? ((blk w.heap.size).add 1) = some (.int .i64 ai) ∧
 R (.bool ((b3 == 0) == (ai == 0))) a2)) else (
 ∃ (bu : Int), a2.cell? (((blk w.heap.size).add 3).add 1) = some (.int .i64 bu) ∧
 ∃ (a7 : Int), a2.cell? ((blk w.heap.size).add 0) = some (.int .i64 a7) ∧
 bif bu != a7 then (
 bif bu != a7 then (
 R (.bool false) a2) else (
 ∃ (ax : Int), a2.cell? ((blk w.heap.size).add 2) = some (.int .u64 ax) ∧
 ∃ (an : Int), a2.cell? ((blk w.heap.size).add 1) = some (.int .i64 an) ∧
 R (.bool ((ax == 0) == (an == 0))) a2)) else (
 ∃ (b9 : Option Addr) (ag b7 : Nat), a2.cell? ((blk w.heap.size).add 6) = some (.slice b9 ag b7) ∧
 bif decide ((ag : Int) > 1100) then (
 R (.bool false) a2) else (
 ∃ (b1 : Int), a2.cell? ((blk w.heap.size).add 2) = some (.int .u64 b1) ∧
 ∃ (aq : Int), a2.cell? ((blk w.heap.size).add 1) = some (.int .i64 aq) ∧
 R (.bool ((b1 == 0) == (aq == 0))) a2))))) else (
 ∃ (ap : Int), b2.cell? ((blk w.heap.size).add 1) = some (.int .i64 ap) ∧
 Calls Try.prog 67 #[.int .i64 ap, .int .i64 0, .int .i64 200] b2 fun bw b4 => ∃ (a4 : Bool), bw = .returned (.bool a4) ∧
 bif !a4 then (
 bif !a4 then (
 R (.bool false) b4) else (
 ∃ (bl bk : Int), cellsAt b4 ((blk w.heap.size).add 3) [.int .i64 bl, .int .i64 bk] 0 ∧
 Calls Try.prog 68 #[.agg #[.int .i64 bl, .int .i64 bk]] b4 fun bs a1 => ∃ (a9 : Bool), bs = .returned (.bool a9) ∧
 bif !a9 then (
 bif !a9 then (
 R (.bool false) a1) else (
 ∃ (ay : Int), a1.cell? ((blk w.heap.size).add 2) = some (.int .u64 ay) ∧
 ∃ (al : Int), a1.cell? ((blk w.heap.size).add 1) = some (.int .i64 al) ∧
 R (.bool ((ay == 0) == (al == 0))) a1)) else (
 ∃ (bv : Int), a1.cell? (((blk w.heap.size).add 3).add 1) = some (.int .i64 bv) ∧
 ∃ (a6 : Int), a1.cell? ((blk w.heap.size).add 0) = some (.int .i64 a6) ∧
 bif bv != a6 then (
 bif bv != a6 then (
 R (.bool false) a1) else (
 ∃ (au : Int), a1.cell? ((blk w.heap.size).add 2) = some (.int .u64 au) ∧
 ∃ (am : Int), a1.cell? ((blk w.heap.size).add 1) = some (.int .i64 am) ∧
 R (.bool ((au == 0) == (am == 0))) a1)) else (
 ∃ (bf : Option Addr) (ak bb : Nat), a1.cell? ((blk w.heap.size).add 6) = some (.slice bf ak bb) ∧
 bif decide ((ak : Int) > 1100) then (
 R (.bool false) a1) else (
 ∃ (ar : Int), a1.cell? ((blk w.heap.size).add 2) = some (.int .u64 ar) ∧
 ∃ (af : Int), a1.cell? ((blk w.heap.size).add 1) = some (.int .i64 af) ∧
 R (.bool ((ar == 0) == (af == 0))) a1))))) else (
 ∃ (ae : Int), b4.cell? ((blk w.heap.size).add 5) = some (.int .i64 ae) ∧
 Calls Try.prog 67 #[.int .i64 ae, .int .i64 (-1), .int .i64 20] b4 fun bz bn => ∃ (ab : Bool), bz = .returned (.bool ab) ∧
 bif !ab then (
 R (.bool false) bn) else (
 ∃ (bi bh : Int), cellsAt bn ((blk w.heap.size).add 3) [.int .i64 bi, .int .i64 bh] 0 ∧
 Calls Try.prog 68 #[.agg #[.int .i64 bi, .int .i64 bh]] bn fun bx a0 => ∃ (a8 : Bool), bx = .returned (.bool a8) ∧
 bif !a8 then (
 bif !a8 then (
 R (.bool false) a0) else (
 ∃ (aw : Int), a0.cell? ((blk w.heap.size).add 2) = some (.int .u64 aw) ∧
 ∃ (ad : Int), a0.cell? ((blk w.heap.size).add 1) = some (.int .i64 ad) ∧
 R (.bool ((aw == 0) == (ad == 0))) a0)) else (
 ∃ (bt : Int), a0.cell? (((blk w.heap.size).add 3).add 1) = some (.int .i64 bt) ∧
 ∃ (a5 : Int), a0.cell? ((blk w.heap.size).add 0) = some (.int .i64 a5) ∧
 bif bt != a5 then (
 bif bt != a5 then (
 R (.bool false) a0) else (
 ∃ (b0 : Int), a0.cell? ((blk w.heap.size).add 2) = some (.int .u64 b0) ∧
 ∃ (ah : Int), a0.cell? ((blk w.heap.size).add 1) = some (.int .i64 ah) ∧
 R (.bool ((b0 == 0) == (ah == 0))) a0)) else (
 ∃ (b8 : Option Addr) (aj b5 : Nat), a0.cell? ((blk w.heap.size).add 6) = some (.slice b8 aj b5) ∧
 bif decide ((aj : Int) > 1100) then (
 R (.bool false) a0) else (
 ∃ (az : Int), a0.cell? ((blk w.heap.size).add 2) = some (.int .u64 az) ∧
 ∃ (ao : Int), a0.cell? ((blk w.heap.size).add 1) = some (.int .i64 ao) ∧
 R (.bool ((az == 0) == (ao == 0))) a0))))))

theorem Q0M.ok (a0 a1 a6 a9 a7 a4 : Int) (a2 : Option Addr) (a5 a3 : Nat) (a8 : Int) {R : RW} {w : World} (h : Q0M.M a0 a1 a6 a9 a7 a4 a2 a5 a3 a8 R w) : Calls Try.prog 30 #[.agg #[.int .i64 a0, .int .i64 a1, .int .u64 a6, .int .i64 a9, .int .i64 a7, .int .i64 a4, .slice a2 a5 a3, .int .u64 a8]] w fun e w' => ∃ v, e = .returned v ∧ R v w' :=
  Q0i follows (H := []) (args := [.agg #[.int .i64 a0, .int .i64 a1, .int .u64 a6, .int .i64 a9, .int .i64 a7, .int .i64 a4, .slice a2 a5 a3, .int .u64 a8]]) (cast (by kernel_rfl) h)

def Q0M.N (a0 a2 a7 a6 a3 a4 : Int) (ab : Option Addr) (a5 ac : Nat) (ad : Int) (R : RW) (w : World) : Prop :=
 ((Q0s.F a0 0 8) = false →
 ∀ (aa : World), Ext no w aa →
 R (.bool false) aa) ∧
 ((Q0s.F a0 0 8) = true →
 ((Q0s.F a2 0 200) = false →
 ∀ (a9 : World), Ext no w a9 →
 R (.bool false) a9) ∧
 ((Q0s.F a2 0 200) = true →
 ((Q0s.F a4 (-1) 20) = false →
 ∀ (a8 : World), Ext no w a8 →
 R (.bool false) a8) ∧
 ((Q0s.F a4 (-1) 20) = true →
 ((Q0U.F a6 a3) = false →
 ∀ (a1 : World), Ext no w a1 →
 R (.bool false) a1) ∧
 ((Q0U.F a6 a3) = true →
 (a3 ≠ a0 →
 ∀ (a1 : World), Ext no w a1 →
 R (.bool false) a1) ∧
 (a3 = a0 →
 ((a5 : Int) > 1100 →
 ∀ (a1 : World), Ext no w a1 →
 R (.bool false) a1) ∧
 ((a5 : Int) ≤ 1100 →
 ∀ (a1 : World), Ext no w a1 →
 R (.bool ((a7 == 0) == (a2 == 0))) a1))))))

theorem Q0M.up (a0 a1 a9 a8 a3 a2 : Int) (a4 : Option Addr) (a5 a6 : Nat) (ab : Int) {R : RW} {w : World} (h : Q0M.N a0 a1 a9 a8 a3 a2 a4 a5 a6 ab R w) : Q0M.M a0 a1 a9 a8 a3 a2 a4 a5 a6 ab R w := by
  unfold Q0M.M
  unfold Q0M.N at h
  refine Q01 fun am e9 => ?_
  have a7 := Blk.of_new e9
  have an := ((Ext.refl no w)).size
  have al := (Ext.refl no w).x_alloc e9
  refine ⟨a0, a7.celli 0 rfl rfl, ?_⟩
  refine (Q0s.pure a0 0 8).mono fun ee ww10 ⟨he, hxx⟩ => ⟨(Q0s.F a0 0 8), he, ?_⟩
  have ac := al.trans hxx
  have a7 := a7.ext hxx id
  refine bif_of (fun ai => ?_) (fun ai => ?_)
  ·have h := h.1 (not_t ai)
   refine bif_tt ai ?_
   have h := h ww10 ac
   exact h
  have h := h.2 (not_f ai)
  refine ⟨a1, a7.celli 1 rfl rfl, ?_⟩
  refine (Q0s.pure a1 0 200).mono fun ee ww13 ⟨he, hxx⟩ => ⟨(Q0s.F a1 0 200), he, ?_⟩
  have ae := ac.trans hxx
  have a7 := a7.ext hxx id
  refine bif_of (fun ah => ?_) (fun ah => ?_)
  ·have h := h.1 (not_t ah)
   refine bif_tt ah ?_
   have h := h ww13 ae
   exact h
  have h := h.2 (not_f ah)
  refine ⟨a2, a7.celli 5 rfl rfl, ?_⟩
  refine (Q0s.pure a2 (-1) 20).mono fun ee ww16 ⟨he, hxx⟩ => ⟨(Q0s.F a2 (-1) 20), he, ?_⟩
  have ad := ae.trans hxx
  have a7 := a7.ext hxx id
  refine bif_of (fun aj => ?_) (fun aj => ?_)
  ·have h := h.1 (not_t aj)
   have h := h ww16 ad
   exact h
  have h := h.2 (not_f aj)
  refine ⟨a8, a3, ⟨a7.celli 3 rfl rfl, a7.celli 4 rfl rfl, trivial⟩, ?_⟩
  refine (Q0U.pure a8 a3).mono fun ee ww19 ⟨he, hxx⟩ => ⟨(Q0U.F a8 a3), he, ?_⟩
  have aa := ad.trans hxx
  have a7 := a7.ext hxx id
  refine bif_of (fun ag => ?_) (fun ag => ?_)
  ·have h := h.1 (not_t ag)
   refine bif_tt ag ?_
   have h := h ww19 aa
   exact h
  have h := h.2 (not_f ag)
  refine ⟨a3, a7.celli 4 rfl rfl, ?_⟩
  refine ⟨a0, a7.celli 0 rfl rfl, ?_⟩
  refine bif_of (fun af => ?_) (fun af => ?_)
  ·have h := h.1 (bne_t af)
   refine bif_tt af ?_
   have h := h ww19 aa
   exact h
  have h := h.2 (bne_f af)
  refine ⟨a4, a5, a6, a7.celli 6 rfl rfl, ?_⟩
  refine bif_of (fun ak => ?_) (fun ak => ?_)
  ·have h := h.1 (of_decide_eq_true ak)
   have h := h ww19 aa
   exact h
  have h := h.2 (Int.not_lt.1 (of_decide_eq_false ak))
  refine ⟨a9, a7.celli 2 rfl rfl, ?_⟩
  refine ⟨a1, a7.celli 1 rfl rfl, ?_⟩
  have h := h ww19 aa
  exact h

theorem Q0M.go (a0 a1 a6 a9 a7 a4 : Int) (a2 : Option Addr) (a5 a3 : Nat) (a8 : Int) {R : RW} {w : World} (h : Q0M.N a0 a1 a6 a9 a7 a4 a2 a5 a3 a8 R w) : Calls Try.prog 30 #[.agg #[.int .i64 a0, .int .i64 a1, .int .u64 a6, .int .i64 a9, .int .i64 a7, .int .i64 a4, .slice a2 a5 a3, .int .u64 a8]] w fun e w' => ∃ v, e = .returned v ∧ R v w' := Q0M.ok a0 a1 a6 a9 a7 a4 a2 a5 a3 a8 (Q0M.up a0 a1 a6 a9 a7 a4 a2 a5 a3 a8 h)
theorem Q0M.run (a0 a1 a6 a9 a7 a4 : Int) (a2 : Option Addr) (a5 a3 : Nat) (a8 : Int) {V : Value} {Q : World → Prop} {w : World} (h : Q0M.N a0 a1 a6 a9 a7 a4 a2 a5 a3 a8 (fun v w' => v = V ∧ Q w') w) : Calls Try.prog 30 #[.agg #[.int .i64 a0, .int .i64 a1, .int .u64 a6, .int .i64 a9, .int .i64 a7, .int .i64 a4, .slice a2 a5 a3, .int .u64 a8]] w (Ret V Q) := (Q0M.go a0 a1 a6 a9 a7 a4 a2 a5 a3 a8 h).mono fun e w' ⟨v, he, hv, hq⟩ => ⟨by rw [he, hv], hq⟩

def Q0M.F (a0 a1 a5 a6 a4 a2 : Int) (a7 : Option Addr) (a3 a8 : Nat) (a9 : Int) : Bool :=
  if (Q0s.F a0 0 8) = false then
    false
  else
    if (Q0s.F a1 0 200) = false then
      false
    else
      if (Q0s.F a2 (-1) 20) = false then
        false
      else
        if (Q0U.F a6 a4) = false then
          false
        else
          if a4 ≠ a0 then
            false
          else
            if (a3 : Int) > 1100 then
              false
            else
              ((a5 == 0) == (a1 == 0))
theorem Q0M.pure (a1 a2 a6 a7 a8 a5 : Int) (a3 : Option Addr) (a0 a4 : Nat) (a9 : Int) {w : World} : Calls Try.prog 30 #[.agg #[.int .i64 a1, .int .i64 a2, .int .u64 a6, .int .i64 a7, .int .i64 a8, .int .i64 a5, .slice a3 a0 a4, .int .u64 a9]] w (Ret (.bool (Q0M.F a1 a2 a6 a7 a8 a5 a3 a0 a4 a9)) fun w' => Ext no w w') := by
  refine Q0M.run a1 a2 a6 a7 a8 a5 a3 a0 a4 a9 ?_
  unfold Q0M.N
  refine ⟨fun c0 => ?_, fun c0 => ?_⟩
  ·intro w' hx; exact ⟨by unfold Q0M.F; rw [if_pos c0], hx⟩
  ·refine ⟨fun c1 => ?_, fun c1 => ?_⟩
   ·intro w' hx; exact ⟨by unfold Q0M.F; rw [if_neg (by rw [c0]; decide), if_pos c1], hx⟩
   ·refine ⟨fun c2 => ?_, fun c2 => ?_⟩
    ·intro w' hx; exact ⟨by unfold Q0M.F; rw [if_neg (by rw [c0]; decide), if_neg (by rw [c1]; decide), if_pos c2], hx⟩
    ·refine ⟨fun c3 => ?_, fun c3 => ?_⟩
     ·intro w' hx; exact ⟨by unfold Q0M.F; rw [if_neg (by rw [c0]; decide), if_neg (by rw [c1]; decide), if_neg (by rw [c2]; decide), if_pos c3], hx⟩
     ·refine ⟨fun c4 => ?_, fun c4 => ?_⟩
      ·intro w' hx; exact ⟨by unfold Q0M.F; rw [if_neg (by rw [c0]; decide), if_neg (by rw [c1]; decide), if_neg (by rw [c2]; decide), if_neg (by rw [c3]; decide), if_pos c4], hx⟩
      ·refine ⟨fun c5 => ?_, fun c5 => ?_⟩
       ·intro w' hx; exact ⟨by unfold Q0M.F; rw [if_neg (by rw [c0]; decide), if_neg (by rw [c1]; decide), if_neg (by rw [c2]; decide), if_neg (by rw [c3]; decide), if_neg (not_not_intro c4), if_pos c5], hx⟩
       ·intro w' hx; exact ⟨by unfold Q0M.F; rw [if_neg (by rw [c0]; decide), if_neg (by rw [c1]; decide), if_neg (by rw [c2]; decide), if_neg (by rw [c3]; decide), if_neg (not_not_intro c4), if_neg (show ¬ ((a0 : Int) > 1100) from by omega)], hx⟩

structure Ent where
  w : Int
  i : Int
  pv : Int
  t : Int
  tw : Int
  ep : Int
  body : List UInt8
  sg : Int
deriving DecidableEq
def entV (e : Ent) (a : Option Addr) (c : Nat) : Value := .agg #[.int .i64 e.w, .int .i64 e.i, .int .u64 e.pv, .int .i64 e.t, .int .i64 e.tw, .int .i64 e.ep, .slice a e.body.length c, .int .u64 e.sg]
def Q1W (e : Ent) : Bool := decide (0 ≤ e.w ∧ e.w < 8 ∧ 0 ≤ e.i ∧ e.i < 200 ∧ -1 ≤ e.ep ∧ e.ep < 20 ∧ 0 < e.t ∧ e.t ≤ 1099511627776 ∧ e.tw = e.w ∧ e.body.length ≤ 1100 ∧ (e.pv = 0 ↔ e.i = 0))
theorem beq_dec (x y : Int) : ((x == 0) == (y == 0)) = decide (x = 0 ↔ y = 0) := by
  rw [Bool.eq_iff_iff, decide_eq_true_eq, beq_iff_eq, Bool.eq_iff_iff, beq_iff_eq, beq_iff_eq]
theorem Q6E (n a b : Int) : Q0s.F n a b = decide (a ≤ n ∧ n < b) := by
  unfold Q0s.F
  by_cases h : n ≥ a
  · rw [if_pos h, decide_eq_decide]; omega
  · rw [if_neg h, eq_comm, decide_eq_false_iff_not]; omega
theorem Q4x (t w : Int) : Q0U.F t w = decide (0 < t ∧ t ≤ 1099511627776 ∧ 0 ≤ w ∧ w < 8) := by
  unfold Q0U.F Q0T.F
  by_cases h : t > 0
  · rw [if_pos h]
    by_cases h1 : t ≤ 1099511627776
    · rw [if_pos h1]
      by_cases h2 : w ≥ 0
      · rw [if_pos h2, decide_eq_decide]; omega
      · rw [if_neg h2, eq_comm, decide_eq_false_iff_not]; omega
    · rw [if_neg h1, eq_comm, decide_eq_false_iff_not]; omega
  · rw [if_neg h, eq_comm, decide_eq_false_iff_not]; omega
theorem Q5F (e : Ent) (a : Option Addr) (c : Nat) : Q0M.F e.w e.i e.pv e.t e.tw e.ep a e.body.length c e.sg = Q1W e := by
  unfold Q0M.F Q1W
  rw [beq_dec]
  simp only [Q6E, Q4x, decide_eq_false_iff_not]
  rw [Bool.eq_iff_iff, decide_eq_true_eq]
  (repeat' split) <;> simp only [Bool.false_eq_true, decide_eq_true_eq, false_iff] <;> omega
def boundL (w i e : Int) : List UInt8 := numL w.toNat ++ numL i.toNat ++ numL (zig e)
/-! ### the plain law -/
theorem Q6i {t : Int} (h0 : -9223372036854775808 ≤ t) (h1 : t < 9223372036854775808) (r : List UInt8) : intR (numL (zig t) ++ r, 0) = (t, (r, 0)) := by
  unfold intR
  rw [W.numR_write (W.zig_lt h0 h1), W.unzig_zig]
theorem Q2J (e : Ent) : Q1W e = true ↔ (0 ≤ e.w ∧ e.w < 8 ∧ 0 ≤ e.i ∧ e.i < 200 ∧ -1 ≤ e.ep ∧ e.ep < 20 ∧ 0 < e.t ∧ e.t ≤ 1099511627776 ∧ e.tw = e.w ∧ e.body.length ≤ 1100 ∧ (e.pv = 0 ↔ e.i = 0)) := decide_eq_true_iff
open W (OwnB GivesW numR countR doneR zig unzig intR)
def Q1e.M (a1 a0 ab : Int) (R : RW) (w : World) : Prop :=
 Calls Try.prog 74 #[.slice none 0 0, .int .u64 (IntKind.u64.wrap (if (0 : Int) > a1 then 0 else a1))] w fun ae ag => ∃ (a8 : Option Addr) (a5 a9 : Nat), ae = .returned (.slice a8 a5 a9) ∧
 Calls Try.prog 74 #[.slice a8 a5 a9, .int .u64 (IntKind.u64.wrap (if (0 : Int) > a0 then 0 else a0))] ag fun af ah => ∃ (a6 : Option Addr) (a7 aa : Nat), af = .returned (.slice a6 a7 aa) ∧
 Calls Try.prog 88 #[.slice a6 a7 aa, .int .i64 ab] ah fun ac ad => ∃ (a2 : Option Addr) (a4 a3 : Nat), ac = .returned (.slice a2 a4 a3) ∧
 R (.slice a2 a4 a3) ad

theorem Q1e.ok (a0 a1 a2 : Int) {R : RW} {w : World} (h : Q1e.M a0 a1 a2 R w) : Calls Try.prog 65 #[.int .i64 a0, .int .i64 a1, .int .i64 a2] w fun e w' => ∃ v, e = .returned v ∧ R v w' :=
  Q0i follows (H := []) (args := [.int .i64 a0, .int .i64 a1, .int .i64 a2]) (cast (by kernel_rfl) h)

def Q1e.N (a1 a0 ab : Int) (R : RW) (w : World) : Prop :=
 Calls Try.prog 74 #[.slice none 0 0, .int .u64 (IntKind.u64.wrap (if (0 : Int) > a1 then 0 else a1))] w fun ae ag => ∃ (a8 : Option Addr) (a5 a9 : Nat), ae = .returned (.slice a8 a5 a9) ∧
 Calls Try.prog 74 #[.slice a8 a5 a9, .int .u64 (IntKind.u64.wrap (if (0 : Int) > a0 then 0 else a0))] ag fun af ah => ∃ (a6 : Option Addr) (a7 aa : Nat), af = .returned (.slice a6 a7 aa) ∧
 Calls Try.prog 88 #[.slice a6 a7 aa, .int .i64 ab] ah fun ac ad => ∃ (a2 : Option Addr) (a4 a3 : Nat), ac = .returned (.slice a2 a4 a3) ∧
 R (.slice a2 a4 a3) ad

theorem Q1e.up (a1 a0 a2 : Int) {R : RW} {w : World} (h : Q1e.N a1 a0 a2 R w) : Q1e.M a1 a0 a2 R w := by
  unfold Q1e.M
  unfold Q1e.N at h
  refine h.mono fun ae af h => ?_
  obtain ⟨a9, a6, aa, he, h⟩ := h
  refine ⟨a9, a6, aa, he, ?_⟩
  refine h.mono fun ag ah h => ?_
  obtain ⟨a7, a8, ab, he, h⟩ := h
  refine ⟨a7, a8, ab, he, ?_⟩
  refine h.mono fun ac ad h => ?_
  obtain ⟨a3, a5, a4, he, h⟩ := h
  refine ⟨a3, a5, a4, he, ?_⟩
  exact h

theorem Q1e.go (a0 a1 a2 : Int) {R : RW} {w : World} (h : Q1e.N a0 a1 a2 R w) : Calls Try.prog 65 #[.int .i64 a0, .int .i64 a1, .int .i64 a2] w fun e w' => ∃ v, e = .returned v ∧ R v w' := Q1e.ok a0 a1 a2 (Q1e.up a0 a1 a2 h)
theorem OwnB.up {N M : Nat} {w : World} {a : Option Addr} {c : Nat} {bs : List UInt8} (h : OwnB N w a c bs) (hM : M ≤ N) : OwnB M w a c bs := ⟨h.own, fun ad ha => ⟨Nat.le_trans hM (h.fr ad ha).1, (h.fr ad ha).2⟩⟩
theorem app {w0 wi w1 : World} {N : Nat} {a xa : Option Addr} {c xc : Nat} {l x : List UInt8} (hB : OwnB N wi a c l) (X : Ext no w0 wi) (h0 : w0.heap.size ≤ N) (hN : N ≤ wi.heap.size) (hx : Ext no wi w1) (hO : RowAt w1 xa (bytesV x)) (hl : l.length + x.length ≤ 100000000) :
    ∃ a' c' w', (Builtin.append_ #[25, 25] 25 #[.slice a l.length c, .slice xa x.length xc]).run Try.prog w1 = .ok (.slice a' (l ++ x).length c') w' ∧ OwnB N w' a' c' (l ++ x) ∧ Ext no w0 w' ∧ Ext (fun b => N ≤ b) w1 w' ∧ N ≤ w'.heap.size := by
  obtain ⟨a', c', w', hr, hO2, hx2⟩ := (hB.no hx).append (t := 25) (ty := 25) Try.underlying25 (Nat.le_trans hN hx.size) (xc := xc) hO hl
  exact ⟨a', c', w', hr, hO2, (X.trans hx).then hx2 fun b hb => .inr (Nat.le_trans h0 hb), hx2, Nat.le_trans hN (Nat.le_trans hx.size hx2.size)⟩
section
variable {w w' : World} {a : Option Addr} {c N p : Nat} {bs : List UInt8} {k : Int}
theorem Q3S {x y z : Int} (hx : x < 9223372036854775808) (hy : y < 9223372036854775808) (hz0 : -9223372036854775808 ≤ z) (hz : z < 9223372036854775808) :
    Calls Try.prog 65 #[.int .i64 x, .int .i64 y, .int .i64 z] w (fun e w' => ∃ a' c', e = .returned (.slice a' (boundL x y z).length c') ∧ OwnB w.heap.size w' a' c' (boundL x y z) ∧ Ext no w w') := by
  refine (Q1e.go x y z (R := fun v w' => ∃ a' c', v = (.slice a' (boundL x y z).length c') ∧ OwnB w.heap.size w' a' c' (boundL x y z) ∧ Ext no w w') ?_).mono fun x w' ⟨v, he, a, c, hv, hw⟩ => ⟨a, c, by rw [he, hv], hw⟩
  unfold Q1e.N
  have e1 : ∀ s : Int, s < 9223372036854775808 → IntKind.u64.wrap (if (0 : Int) > s then 0 else s) = ((s.toNat : Nat) : Int) := fun s hs => by split <;> rw [wu64 (by omega) (by omega)] <;> omega
  rw [e1 x hx, e1 y hy]
  have g1 := W.numL_le x.toNat; have g2 := W.numL_le y.toNat
  refine (W.Num_spec (bs := []) (RowAt.nil _ _) (by simp) (n := x.toNat) (by omega)).mono fun e w6 ⟨a1, c1, he, hO1, X6⟩ => ⟨a1, _, c1, he, ?_⟩
  refine (W.Num_spec hO1.row (by simp; omega) (n := y.toNat) (by omega)).mono fun e w9 ⟨a2, c2, he, hO2, X9⟩ => ⟨a2, _, c2, he, ?_⟩
  refine (W.Int_spec hO2.row (by simp; omega) hz0 hz).mono fun e w12 ⟨a3, c3, he, hO3, X12⟩ => ⟨a3, _, c3, he, a3, c3, ?_, ?_, (X6.trans X9).trans X12⟩
  · unfold boundL; simp
  · exact OwnB.up hO3 (X6.trans X9).size
/-! ### reading -/
end
open W (OwnB GivesW numR countR doneR zig unzig intR)
theorem litB {w w1 : World} {t e : TypeId} (hs : Try.prog.underlying t = some (.slice e)) (he : Try.prog.underlying e = some (.int .u8)) (bs : List UInt8) {q : Nat} (X : Ext no w w1) (hb : Blk w1 q e (bytesV bs)) (hq : w.heap.size ≤ q) :
    ∃ w2, (convert t t (.slice (some (blk q)) bs.length bs.length)).run Try.prog w1 = .ok (.slice (some (blk q)) bs.length bs.length) w2 ∧ RowAt w2 (some (blk q)) (bytesV bs) ∧ Ext no w w2 :=
  ⟨_, Q6a hs he hb, (RowAt.of_blk hb).freeze _ _, X.freeze (.inr hq) _⟩
section
variable {w w' : World} {a : Option Addr} {c N p : Nat} {bs : List UInt8} {k : Int}
end
open W (OwnB GivesW numR countR doneR zig unzig intR)
section
variable {w w' : World} {a : Option Addr} {c N p : Nat} {bs : List UInt8} {k : Int}
end
set_option maxRecDepth 100000
def Q0e.M (a9 a6 a5 : Int) (R : RW) (w : World) : Prop :=
 thenW (w.alloc (.cells #[.int .i64 a9, .int .i64 a6, .int .i64 a5] 87)) fun a3 =>
 ∃ (a8 : Int), a3.cell? ((blk w.heap.size).add 0) = some (.int .i64 a8) ∧
 bif decide (a8 ≥ 0) then (
 ∃ (a7 : Int), a3.cell? ((blk w.heap.size).add 0) = some (.int .i64 a7) ∧
 bif decide (a7 < 8) then (
 ∃ (a1 : Int), a3.cell? ((blk w.heap.size).add 1) = some (.int .i64 a1) ∧
 bif decide (a1 ≥ 0) then (
 ∃ (a0 : Int), a3.cell? ((blk w.heap.size).add 1) = some (.int .i64 a0) ∧
 bif decide (a0 < 200) then (
 ∃ (a4 : Int), a3.cell? ((blk w.heap.size).add 2) = some (.int .i64 a4) ∧
 bif decide (a4 ≥ 0) then (
 ∃ (a2 : Int), a3.cell? ((blk w.heap.size).add 2) = some (.int .i64 a2) ∧
 R (.bool (decide (a2 < 20))) a3) else (
 R (.bool false) a3)) else (
 R (.bool false) a3)) else (
 R (.bool false) a3)) else (
 R (.bool false) a3)) else (
 R (.bool false) a3)

theorem Q0e.ok (a2 a1 a0 : Int) {R : RW} {w : World} (h : Q0e.M a2 a1 a0 R w) : Calls Try.prog 27 #[.agg #[.int .i64 a2, .int .i64 a1, .int .i64 a0]] w fun e w' => ∃ v, e = .returned v ∧ R v w' :=
  Q0i follows (H := []) (args := [.agg #[.int .i64 a2, .int .i64 a1, .int .i64 a0]]) (cast (by kernel_rfl) h)

def Q0e.N (a3 a0 a1 : Int) (R : RW) (w : World) : Prop :=
 (a3 ≥ 0 →
 (a3 < 8 →
 (a0 ≥ 0 →
 (a0 < 200 →
 (a1 ≥ 0 →
 ∀ (a2 : World), Ext no w a2 →
 R (.bool (decide (a1 < 20))) a2) ∧
 (a1 < 0 →
 ∀ (a2 : World), Ext no w a2 →
 R (.bool false) a2)) ∧
 ((200 : Int) ≤ a0 →
 ∀ (a2 : World), Ext no w a2 →
 R (.bool false) a2)) ∧
 (a0 < 0 →
 ∀ (a2 : World), Ext no w a2 →
 R (.bool false) a2)) ∧
 ((8 : Int) ≤ a3 →
 ∀ (a2 : World), Ext no w a2 →
 R (.bool false) a2)) ∧
 (a3 < 0 →
 ∀ (a2 : World), Ext no w a2 →
 R (.bool false) a2)

theorem Q0e.up (a5 a1 a0 : Int) {R : RW} {w : World} (h : Q0e.N a5 a1 a0 R w) : Q0e.M a5 a1 a0 R w := by
  unfold Q0e.M
  unfold Q0e.N at h
  refine Q01 fun a4 e4 => ?_
  have a3 := Blk.of_new e4
  have a6 := ((Ext.refl no w)).size
  have a2 := (Ext.refl no w).x_alloc e4
  refine ⟨a5, a3.celli 0 rfl rfl, ?_⟩
  refine bif_fo (fun c5 => ?_) (fun c5 => ?_)
  ·have h := h.2 (Int.not_le.1 (of_decide_eq_false c5))
   have h := h a4 a2
   exact h
  have h := h.1 (of_decide_eq_true c5)
  refine ⟨a5, a3.celli 0 rfl rfl, ?_⟩
  refine bif_fo (fun c6 => ?_) (fun c6 => ?_)
  ·have h := h.2 (Int.not_lt.1 (of_decide_eq_false c6))
   have h := h a4 a2
   exact h
  have h := h.1 (of_decide_eq_true c6)
  refine ⟨a1, a3.celli 1 rfl rfl, ?_⟩
  refine bif_fo (fun c7 => ?_) (fun c7 => ?_)
  ·have h := h.2 (Int.not_le.1 (of_decide_eq_false c7))
   have h := h a4 a2
   exact h
  have h := h.1 (of_decide_eq_true c7)
  refine ⟨a1, a3.celli 1 rfl rfl, ?_⟩
  refine bif_fo (fun c8 => ?_) (fun c8 => ?_)
  ·have h := h.2 (Int.not_lt.1 (of_decide_eq_false c8))
   have h := h a4 a2
   exact h
  have h := h.1 (of_decide_eq_true c8)
  refine ⟨a0, a3.celli 2 rfl rfl, ?_⟩
  refine bif_fo (fun c9 => ?_) (fun c9 => ?_)
  ·have h := h.2 (Int.not_le.1 (of_decide_eq_false c9))
   have h := h a4 a2
   exact h
  have h := h.1 (of_decide_eq_true c9)
  refine ⟨a0, a3.celli 2 rfl rfl, ?_⟩
  have h := h a4 a2
  exact h

theorem Q0e.go (a2 a1 a0 : Int) {R : RW} {w : World} (h : Q0e.N a2 a1 a0 R w) : Calls Try.prog 27 #[.agg #[.int .i64 a2, .int .i64 a1, .int .i64 a0]] w fun e w' => ∃ v, e = .returned v ∧ R v w' := Q0e.ok a2 a1 a0 (Q0e.up a2 a1 a0 h)
theorem Q0e.run (a2 a1 a0 : Int) {V : Value} {Q : World → Prop} {w : World} (h : Q0e.N a2 a1 a0 (fun v w' => v = V ∧ Q w') w) : Calls Try.prog 27 #[.agg #[.int .i64 a2, .int .i64 a1, .int .i64 a0]] w (Ret V Q) := (Q0e.go a2 a1 a0 h).mono fun e w' ⟨v, he, hv, hq⟩ => ⟨by rw [he, hv], hq⟩

def Q0e.F (a2 a1 a0 : Int) : Bool :=
  if a2 ≥ 0 then
    if a2 < 8 then
      if a1 ≥ 0 then
        if a1 < 200 then
          if a0 ≥ 0 then
            (decide (a0 < 20))
          else
            false
        else
          false
      else
        false
    else
      false
  else
    false
theorem Q0e.pure (a2 a0 a1 : Int) {w : World} : Calls Try.prog 27 #[.agg #[.int .i64 a2, .int .i64 a0, .int .i64 a1]] w (Ret (.bool (Q0e.F a2 a0 a1)) fun w' => Ext no w w') := by
  refine Q0e.run a2 a0 a1 ?_
  unfold Q0e.N
  refine ⟨fun c0 => ?_, fun c0 => ?_⟩
  ·refine ⟨fun c1 => ?_, fun c1 => ?_⟩
   ·refine ⟨fun c2 => ?_, fun c2 => ?_⟩
    ·refine ⟨fun c3 => ?_, fun c3 => ?_⟩
     ·refine ⟨fun c4 => ?_, fun c4 => ?_⟩
      ·intro w' hx; exact ⟨by unfold Q0e.F; rw [if_pos c0, if_pos c1, if_pos c2, if_pos c3, if_pos c4], hx⟩
      ·intro w' hx; exact ⟨by unfold Q0e.F; rw [if_pos c0, if_pos c1, if_pos c2, if_pos c3, if_neg (show ¬ (a1 ≥ 0) from by omega)], hx⟩
     ·intro w' hx; exact ⟨by unfold Q0e.F; rw [if_pos c0, if_pos c1, if_pos c2, if_neg (show ¬ (a0 < 200) from by omega)], hx⟩
    ·intro w' hx; exact ⟨by unfold Q0e.F; rw [if_pos c0, if_pos c1, if_neg (show ¬ (a0 ≥ 0) from by omega)], hx⟩
   ·intro w' hx; exact ⟨by unfold Q0e.F; rw [if_pos c0, if_neg (show ¬ (a2 < 8) from by omega)], hx⟩
  ·intro w' hx; exact ⟨by unfold Q0e.F; rw [if_neg (show ¬ (a2 ≥ 0) from by omega)], hx⟩

def Q0H.M  (R : RW) (w : World) : Prop :=
 R (.int .i64 7) w

theorem Q0H.ok  {R : RW} {w : World} (h : Q0H.M  R w) : Calls Try.prog 32 #[] w fun e w' => ∃ v, e = .returned v ∧ R v w' :=
  Q0i follows (H := []) (args := []) (cast (by kernel_rfl) h)

def Q0H.N  (R : RW) (w : World) : Prop :=
 R (.int .i64 7) w

theorem Q0H.up  {R : RW} {w : World} (h : Q0H.N  R w) : Q0H.M  R w := by
  unfold Q0H.M
  unfold Q0H.N at h
  exact h

theorem Q0H.go  {R : RW} {w : World} (h : Q0H.N  R w) : Calls Try.prog 32 #[] w fun e w' => ∃ v, e = .returned v ∧ R v w' := Q0H.ok  (Q0H.up  h)
theorem Q0H.run  {V : Value} {Q : World → Prop} {w : World} (h : Q0H.N  (fun v w' => v = V ∧ Q w') w) : Calls Try.prog 32 #[] w (Ret V Q) := (Q0H.go  h).mono fun e w' ⟨v, he, hv, hq⟩ => ⟨by rw [he, hv], hq⟩

def Q0H.F  : Int :=
  7
theorem Q0H.pure  {w : World} : Calls Try.prog 32 #[] w (Ret (.int .i64 Q0H.F) fun w' => Ext no w w') := by
  refine Q0H.run ?_
  unfold Q0H.N
  exact ⟨by unfold Q0H.F; rfl, Ext.refl _ _⟩

abbrev Q0L.J1 (ai : Int) (ah : Addr) (ag : Nat) (am al : Array Value) (an : Option Addr) (ak aj : Nat) (R : RW) (a8 : World) : Prop :=
 ∃ (ac : Int), a8.cell? (ah.add 0) = some (.int .i64 ac) ∧
 ∃ (a3 : Int), a8.cell? (ah.add 1) = some (.int .i64 a3) ∧
 ∃ (a4 : Int), a8.cell? (ah.add 2) = some (.int .i64 a4) ∧
 Calls Try.prog 65 #[.int .i64 ac, .int .i64 a3, .int .i64 a4] a8 fun ad a9 => ∃ (a1 : Option Addr) (a0 a2 : Nat), ad = .returned (.slice a1 a0 a2) ∧
 bif enters Try.prog ag then Calls Try.prog ag (am.toList ++ ([.int .u64 ai, .slice a1 a0 a2, .slice an ak aj] : List Value) ++ al.toList).toArray a9 (fun af ae => ∃ (a6 : Option Addr) (a5 a7 : Nat) (ab : Int), af = .returned (.tuple #[.slice a6 a5 a7, .int .i64 ab]) ∧
 R (.tuple #[.slice a6 a5 a7, .int .i64 ab]) ae) else (∃ (a6 : Option Addr) (a5 a7 : Nat) (ab : Int) (aa : World), (Q1j ag (am.toList ++ ([.int .u64 ai, .slice a1 a0 a2, .slice an ak aj] : List Value) ++ al.toList).toArray).run Try.prog a9 = .ok (.tuple #[.slice a6 a5 a7, .int .i64 ab]) aa ∧
 R (.tuple #[.slice a6 a5 a7, .int .i64 ab]) aa)

def Q0L.M (ac a2 a3 : Int) (a5 : Nat) (a6 a4 : Array Value) (r5 ad : Option Addr) (ab ae : Nat) (R : RW) (w : World) : Prop :=
 thenW (w.alloc (.cells #[.int .i64 ac, .int .i64 a2, .int .i64 a3] 87)) fun aa =>
 ∃ (a1 : Int), aa.cell? ((blk w.heap.size).add 2) = some (.int .i64 a1) ∧
 Calls Try.prog 64 #[.pointer r5, .int .i64 a1] aa fun a9 a8 => ∃ (a7 a0 : Int), a9 = .returned (.tuple #[.int .u64 a7, .int .i64 a0]) ∧
 bif a0 != 0 then (
 R (.tuple #[.slice none 0 0, .int .i64 a0]) a8) else (
 Q0L.J1 a7 (blk w.heap.size) a5 a6 a4 ad ab ae R a8)

theorem Q0L.ok (a7 a1 a0 : Int) (a3 : Nat) (a4 a2 : Array Value) (r5 a8 : Option Addr) (a5 a6 : Nat) {R : RW} {w : World} (h : Q0L.M a7 a1 a0 a3 a4 a2 r5 a8 a5 a6 R w) : Calls Try.prog 28 #[.agg #[.int .i64 a7, .int .i64 a1, .int .i64 a0], .func (.func a3) a4 a2, .pointer r5, .slice a8 a5 a6] w fun e w' => ∃ v, e = .returned v ∧ R v w' :=
  Q0i follows (H := []) (args := [.agg #[.int .i64 a7, .int .i64 a1, .int .i64 a0], .func (.func a3) a4 a2, .pointer r5, .slice a8 a5 a6]) (cast (by kernel_rfl) h)

def Q0L.N (am a6 a4 : Int) (a5 : Nat) (a8 a7 : Array Value) (r5 ao : Option Addr) (al an : Nat) (R : RW) (w : World) : Prop :=
 ∀ (ae : World) (p8 : Nat), Ext no w ae → Priv w ae [p8] →
 Calls Try.prog 64 #[.pointer r5, .int .i64 a4] ae fun ah a9 => ∃ (ac a3 : Int), ah = .returned (.tuple #[.int .u64 ac, .int .i64 a3]) ∧
 Keep [p8] ae a9 ∧
 (a3 ≠ 0 →
 R (.tuple #[.slice none 0 0, .int .i64 a3]) a9) ∧
 (a3 = 0 →
 Calls Try.prog 65 #[.int .i64 am, .int .i64 a6, .int .i64 a4] a9 fun ag af => ∃ (a1 : Option Addr) (a0 a2 : Nat), ag = .returned (.slice a1 a0 a2) ∧
 enters Try.prog a5 = true ∧ Calls Try.prog a5 (a8.toList ++ ([.int .u64 ac, .slice a1 a0 a2, .slice ao al an] : List Value) ++ a7.toList).toArray af (fun ai aj => ∃ (aa : Option Addr) (ab ad : Nat) (ak : Int), ai = .returned (.tuple #[.slice aa ab ad, .int .i64 ak]) ∧
 R (.tuple #[.slice aa ab ad, .int .i64 ak]) aj))

theorem Q0L.up (ac a1 a0 : Int) (a4 : Nat) (a5 a2 : Array Value) (r5 ai : Option Addr) (ag ah : Nat) {R : RW} {w : World} (h : Q0L.N ac a1 a0 a4 a5 a2 r5 ai ag ah R w) : Q0L.M ac a1 a0 a4 a5 a2 r5 ai ag ah R w := by
  unfold Q0L.M
  unfold Q0L.N at h
  refine Q01 fun ao e7 => ?_
  have a8 := Blk.of_new e7
  have aq := ((Ext.refl no w)).size
  have ak := (Ext.refl no w).x_alloc e7
  refine ⟨a0, a8.celli 2 rfl rfl, ?_⟩
  have h := h ao (w.heap.size) ak (Priv.cons aq a8.lt Priv.nil)
  refine h.mono fun an ap h => ?_
  obtain ⟨ad, a9, he, hk, h⟩ := h
  refine ⟨ad, a9, he, ?_⟩
  have a8 := hk.blk a8 (by simp)
  refine bif_of (fun af => ?_) (fun af => ?_)
  ·have h := h.1 (bne_t af)
   exact h
  have h := h.2 (bne_f af)
  unfold Q0L.J1
  refine ⟨ac, a8.celli 0 rfl rfl, ?_⟩
  refine ⟨a1, a8.celli 1 rfl rfl, ?_⟩
  refine ⟨a0, a8.celli 2 rfl rfl, ?_⟩
  refine h.mono fun am al h => ?_
  obtain ⟨a6, a3, a7, he, h⟩ := h
  refine ⟨a6, a3, a7, he, ?_⟩
  obtain ⟨hen, h⟩ := h
  refine bif_tt hen ?_
  refine h.mono fun ar au h => ?_
  obtain ⟨aa, ab, ae, aj, he, h⟩ := h
  refine ⟨aa, ab, ae, aj, he, ?_⟩
  exact h

theorem Q0L.go (a7 a1 a0 : Int) (a3 : Nat) (a4 a2 : Array Value) (r5 a8 : Option Addr) (a5 a6 : Nat) {R : RW} {w : World} (h : Q0L.N a7 a1 a0 a3 a4 a2 r5 a8 a5 a6 R w) : Calls Try.prog 28 #[.agg #[.int .i64 a7, .int .i64 a1, .int .i64 a0], .func (.func a3) a4 a2, .pointer r5, .slice a8 a5 a6] w fun e w' => ∃ v, e = .returned v ∧ R v w' := Q0L.ok a7 a1 a0 a3 a4 a2 r5 a8 a5 a6 (Q0L.up a7 a1 a0 a3 a4 a2 r5 a8 a5 a6 h)
def Q1b.M (o1 r2 : Option Addr) (al a8 aa : Int) (ab : Option Addr) (ad ac : Nat) (R : RW) (w : World) : Prop :=
 thenW (w.alloc (.cells #[.int .i64 0, .int .i64 0, .int .i64 0] 87)) fun am =>
 putsK am (blk w.heap.size) [.int .i64 al, .int .i64 a8, .int .i64 aa] 0 fun aj =>
 ∃ (ak a2 a3 : Int), cellsAt aj (blk w.heap.size) [.int .i64 ak, .int .i64 a2, .int .i64 a3] 0 ∧
 Calls Try.prog 27 #[.agg #[.int .i64 ak, .int .i64 a2, .int .i64 a3]] aj fun ah ae => ∃ (a4 : Bool), ah = .returned (.bool a4) ∧
 bif !a4 then (
 R (.tuple #[.slice none 0 0, .int .i64 1]) ae) else (
 ∃ (af a0 a1 : Int), cellsAt ae (blk w.heap.size) [.int .i64 af, .int .i64 a0, .int .i64 a1] 0 ∧
 Calls Try.prog 28 #[.agg #[.int .i64 af, .int .i64 a0, .int .i64 a1], .func (.func 29) #[.pointer o1] #[], .pointer r2, .slice ab ad ac] ae fun ai ag => ∃ (a5 : Option Addr) (a6 a7 : Nat) (a9 : Int), ai = .returned (.tuple #[.slice a5 a6 a7, .int .i64 a9]) ∧
 R (.tuple #[.slice a5 a6 a7, .int .i64 a9]) ag)

theorem Q1b.ok (o1 r2 : Option Addr) (a5 a0 a3 : Int) (a4 : Option Addr) (a1 a2 : Nat) {R : RW} {w : World} (h : Q1b.M o1 r2 a5 a0 a3 a4 a1 a2 R w) : Calls Try.prog 8 #[.pointer o1, .pointer r2, .int .i64 a5, .int .i64 a0, .int .i64 a3, .slice a4 a1 a2] w fun e w' => ∃ v, e = .returned v ∧ R v w' :=
  Q0i follows (H := []) (args := [.pointer o1, .pointer r2, .int .i64 a5, .int .i64 a0, .int .i64 a3, .slice a4 a1 a2]) (cast (by kernel_rfl) h)

def Q1b.N (o1 r2 : Option Addr) (aa a0 a1 : Int) (a8 : Option Addr) (a6 a7 : Nat) (R : RW) (w : World) : Prop :=
 ((Q0e.F aa a0 a1) = false →
 ∀ (a9 : World), Ext no w a9 →
 R (.tuple #[.slice none 0 0, .int .i64 1]) a9) ∧
 ((Q0e.F aa a0 a1) = true →
 ∀ (a9 : World), Ext no w a9 →
 Calls Try.prog 28 #[.agg #[.int .i64 aa, .int .i64 a0, .int .i64 a1], .func (.func 29) #[.pointer o1] #[], .pointer r2, .slice a8 a6 a7] a9 fun ac ab => ∃ (a3 : Option Addr) (a2 a4 : Nat) (a5 : Int), ac = .returned (.tuple #[.slice a3 a2 a4, .int .i64 a5]) ∧
 R (.tuple #[.slice a3 a2 a4, .int .i64 a5]) ab)

theorem Q1b.up (o1 r2 : Option Addr) (a9 a0 a1 : Int) (a2 : Option Addr) (a4 a3 : Nat) {R : RW} {w : World} (h : Q1b.N o1 r2 a9 a0 a1 a2 a4 a3 R w) : Q1b.M o1 r2 a9 a0 a1 a2 a4 a3 R w := by
  unfold Q1b.M
  unfold Q1b.N at h
  refine Q01 fun aj e7 => ?_
  have a5 := Blk.of_new e7
  have ai := ((Ext.refl no w)).size
  have ae := (Ext.refl no w).x_alloc e7
  refine Q0p (k := 0) (j := 0) a5 (Nat.le_of_ble_eq_true rfl) fun ad X8 b8 => ?_
  have af := ae.x_puts X8 (.inr ai)
  have a5 : Blk ad w.heap.size 87 [.int .i64 a9, .int .i64 a0, .int .i64 a1] := b8
  refine ⟨a9, a0, a1, ⟨a5.celli 0 rfl rfl, a5.celli 1 rfl rfl, a5.celli 2 rfl rfl, trivial⟩, ?_⟩
  refine (Q0e.pure a9 a0 a1).mono fun ee ww9 ⟨he, hxx⟩ => ⟨(Q0e.F a9 a0 a1), he, ?_⟩
  have ac := af.trans hxx
  have a5 := a5.ext hxx id
  refine bif_of (fun ab => ?_) (fun ab => ?_)
  ·have h := h.1 (not_t ab)
   have h := h ww9 ac
   exact h
  have h := h.2 (not_f ab)
  refine ⟨a9, a0, a1, ⟨a5.celli 0 rfl rfl, a5.celli 1 rfl rfl, a5.celli 2 rfl rfl, trivial⟩, ?_⟩
  have h := h ww9 ac
  refine h.mono fun ah ag h => ?_
  obtain ⟨a7, a6, a8, aa, he, h⟩ := h
  refine ⟨a7, a6, a8, aa, he, ?_⟩
  exact h

theorem Q1b.go (o1 r2 : Option Addr) (a5 a0 a3 : Int) (a4 : Option Addr) (a1 a2 : Nat) {R : RW} {w : World} (h : Q1b.N o1 r2 a5 a0 a3 a4 a1 a2 R w) : Calls Try.prog 8 #[.pointer o1, .pointer r2, .int .i64 a5, .int .i64 a0, .int .i64 a3, .slice a4 a1 a2] w fun e w' => ∃ v, e = .returned v ∧ R v w' := Q1b.ok o1 r2 a5 a0 a3 a4 a1 a2 (Q1b.up o1 r2 a5 a0 a3 a4 a1 a2 h)
def Q1a.M (o1 r2 : Option Addr) (ah ap aw az ax aq : Int) (an : Option Addr) (ar ao : Nat) (av : Int) (R : RW) (w : World) : Prop :=
 thenW (w.alloc (.cells #[.int .i64 ah, .int .i64 ap, .int .u64 aw, .int .i64 az, .int .i64 ax, .int .i64 aq, .slice an ar ao, .int .u64 av] 42)) fun ay =>
 ∃ (a0 a1 ae ag aj a7 : Int) (a3 : Option Addr) (a6 a5 : Nat) (am : Int), cellsAt ay (blk w.heap.size) [.int .i64 a0, .int .i64 a1, .int .u64 ae, .int .i64 ag, .int .i64 aj, .int .i64 a7, .slice a3 a6 a5, .int .u64 am] 0 ∧
 Calls Try.prog 30 #[.agg #[.int .i64 a0, .int .i64 a1, .int .u64 ae, .int .i64 ag, .int .i64 aj, .int .i64 a7, .slice a3 a6 a5, .int .u64 am]] ay fun b1 a2 => ∃ (a8 : Bool), b1 = .returned (.bool a8) ∧
 bif !a8 then (
 R (.tuple #[.slice none 0 0, .int .i64 1]) a2) else (
 ∃ (a9 : Int), a2.cell? ((blk w.heap.size).add 5) = some (.int .i64 a9) ∧
 bif decide (a9 < 0) then (
 R (.tuple #[.slice none 0 0, .int .i64 10]) a2) else (
 ∃ (a4 : Int), a2.cell? ((blk w.heap.size).add 0) = some (.int .i64 a4) ∧
 ∃ (af : Int), a2.cell? ((blk w.heap.size).add 1) = some (.int .i64 af) ∧
 ∃ (ad : Int), a2.cell? ((blk w.heap.size).add 5) = some (.int .i64 ad) ∧
 ∃ (ab : Option Addr) (aa ac : Nat), a2.cell? ((blk w.heap.size).add 6) = some (.slice ab aa ac) ∧
 Calls Try.prog 28 #[.agg #[.int .i64 a4, .int .i64 af, .int .i64 ad], .func (.func 31) #[.pointer o1] #[], .pointer r2, .slice ab aa ac] a2 fun b0 b2 => ∃ (ai : Option Addr) (ak al : Nat) (au : Int), b0 = .returned (.tuple #[.slice ai ak al, .int .i64 au]) ∧
 R (.tuple #[.slice ai ak al, .int .i64 au]) b2))

theorem Q1a.ok (o1 r2 : Option Addr) (a0 a5 a7 a9 a8 a1 : Int) (a4 : Option Addr) (a2 a3 : Nat) (a6 : Int) {R : RW} {w : World} (h : Q1a.M o1 r2 a0 a5 a7 a9 a8 a1 a4 a2 a3 a6 R w) : Calls Try.prog 9 #[.pointer o1, .pointer r2, .agg #[.int .i64 a0, .int .i64 a5, .int .u64 a7, .int .i64 a9, .int .i64 a8, .int .i64 a1, .slice a4 a2 a3, .int .u64 a6]] w fun e w' => ∃ v, e = .returned v ∧ R v w' :=
  Q0i follows (H := []) (args := [.pointer o1, .pointer r2, .agg #[.int .i64 a0, .int .i64 a5, .int .u64 a7, .int .i64 a9, .int .i64 a8, .int .i64 a1, .slice a4 a2 a3, .int .u64 a6]]) (cast (by kernel_rfl) h)

def Q1a.N (o1 r2 : Option Addr) (a1 a5 ab ae ac a0 : Int) (a4 : Option Addr) (a2 a3 : Nat) (aa : Int) (R : RW) (w : World) : Prop :=
 ((Q0M.F a1 a5 ab ae ac a0 a4 a2 a3 aa) = false →
 ∀ (a6 : World), Ext no w a6 →
 R (.tuple #[.slice none 0 0, .int .i64 1]) a6) ∧
 ((Q0M.F a1 a5 ab ae ac a0 a4 a2 a3 aa) = true →
 (a0 < 0 →
 ∀ (a6 : World), Ext no w a6 →
 R (.tuple #[.slice none 0 0, .int .i64 10]) a6) ∧
 ((0 : Int) ≤ a0 →
 ∀ (a6 : World), Ext no w a6 →
 Calls Try.prog 28 #[.agg #[.int .i64 a1, .int .i64 a5, .int .i64 a0], .func (.func 31) #[.pointer o1] #[], .pointer r2, .slice a4 a2 a3] a6 fun af ag => ∃ (a8 : Option Addr) (a7 a9 : Nat) (ad : Int), af = .returned (.tuple #[.slice a8 a7 a9, .int .i64 ad]) ∧
 R (.tuple #[.slice a8 a7 a9, .int .i64 ad]) ag))

theorem Q1a.up (o1 r2 : Option Addr) (a0 a4 a7 a9 a8 a1 : Int) (a2 : Option Addr) (a5 a3 : Nat) (a6 : Int) {R : RW} {w : World} (h : Q1a.N o1 r2 a0 a4 a7 a9 a8 a1 a2 a5 a3 a6 R w) : Q1a.M o1 r2 a0 a4 a7 a9 a8 a1 a2 a5 a3 a6 R w := by
  unfold Q1a.M
  unfold Q1a.N at h
  refine Q01 fun ak aj => ?_
  have aa := Blk.of_new aj
  have an := ((Ext.refl no w)).size
  have ag := (Ext.refl no w).x_alloc aj
  refine ⟨a0, a4, a7, a9, a8, a1, a2, a5, a3, a6, ⟨aa.celli 0 rfl rfl, aa.celli 1 rfl rfl, aa.celli 2 rfl rfl, aa.celli 3 rfl rfl, aa.celli 4 rfl rfl, aa.celli 5 rfl rfl, aa.celli 6 rfl rfl, aa.celli 7 rfl rfl, trivial⟩, ?_⟩
  refine (Q0M.pure a0 a4 a7 a9 a8 a1 a2 a5 a3 a6).mono fun ee ww12 ⟨he, hxx⟩ => ⟨(Q0M.F a0 a4 a7 a9 a8 a1 a2 a5 a3 a6), he, ?_⟩
  have ad := ag.trans hxx
  have aa := aa.ext hxx id
  refine bif_of (fun ai => ?_) (fun ai => ?_)
  ·have h := h.1 (not_t ai)
   have h := h ww12 ad
   exact h
  have h := h.2 (not_f ai)
  refine ⟨a1, aa.celli 5 rfl rfl, ?_⟩
  refine bif_of (fun ah => ?_) (fun ah => ?_)
  ·have h := h.1 (of_decide_eq_true ah)
   have h := h ww12 ad
   exact h
  have h := h.2 (Int.not_lt.1 (of_decide_eq_false ah))
  refine ⟨a0, aa.celli 0 rfl rfl, ?_⟩
  refine ⟨a4, aa.celli 1 rfl rfl, ?_⟩
  refine ⟨a1, aa.celli 5 rfl rfl, ?_⟩
  refine ⟨a2, a5, a3, aa.celli 6 rfl rfl, ?_⟩
  have h := h ww12 ad
  refine h.mono fun am al h => ?_
  obtain ⟨ab, ac, ae, af, he, h⟩ := h
  refine ⟨ab, ac, ae, af, he, ?_⟩
  exact h

theorem Q1a.go (o1 r2 : Option Addr) (a0 a5 a7 a9 a8 a1 : Int) (a4 : Option Addr) (a2 a3 : Nat) (a6 : Int) {R : RW} {w : World} (h : Q1a.N o1 r2 a0 a5 a7 a9 a8 a1 a4 a2 a3 a6 R w) : Calls Try.prog 9 #[.pointer o1, .pointer r2, .agg #[.int .i64 a0, .int .i64 a5, .int .u64 a7, .int .i64 a9, .int .i64 a8, .int .i64 a1, .slice a4 a2 a3, .int .u64 a6]] w fun e w' => ∃ v, e = .returned v ∧ R v w' := Q1a.ok o1 r2 a0 a5 a7 a9 a8 a1 a4 a2 a3 a6 (Q1a.up o1 r2 a0 a5 a7 a9 a8 a1 a4 a2 a3 a6 h)
def Q14.M (a5 aa ab ah ae a9 : Int) (a6 : Option Addr) (a7 a8 : Nat) (af : Int) (R : RW) (w : World) : Prop :=
 thenW (w.alloc (.cells #[.int .i64 a5, .int .i64 aa, .int .u64 ab, .int .i64 ah, .int .i64 ae, .int .i64 a9, .slice a6 a7 a8, .int .u64 af] 42)) fun ao =>
 Calls Try.prog 32 #[] ao fun aj ak => ∃ (a0 : Int), aj = .returned (.int .i64 a0) ∧
 ∃ (I0 : Nat → List Value → World → Prop) (ap : Nat), I0 ap [.int .i64 0] ak ∧ ∀ (an : Nat) (ac : World) (ag : Int), I0 an [.int .i64 ag] ac →
 bif decide (ag < a0) then (
 thenW (ac.drew) fun ai =>
 ∃ (a2 : Option Addr) (a1 a3 : Nat), ai.cell? ((blk w.heap.size).add 6) = some (.slice a2 a1 a3) ∧
 Calls Try.prog 33 #[.int .i64 ag] ai fun al ad => ∃ (a4 : Int), al = .returned (.int .i64 a4) ∧
 ad.cell? ((blk w.heap.size).add 6) = some (.slice a2 a1 a3) ∧
 bif (a1 : Int) == (IntKind.i64.wrap ((8 : Int) + a4)) then (
 R (.int .i64 ag) ad) else (
 ∃ am, am < an ∧ I0 am [.int .i64 (IntKind.i64.wrap (ag + 1))] ad)) else (
 R (.int .i64 (-1)) ac)

theorem Q14.ok (a0 a1 a6 a9 a7 a4 : Int) (a2 : Option Addr) (a5 a3 : Nat) (a8 : Int) {R : RW} {w : World} (h : Q14.M a0 a1 a6 a9 a7 a4 a2 a5 a3 a8 R w) : Calls Try.prog 12 #[.agg #[.int .i64 a0, .int .i64 a1, .int .u64 a6, .int .i64 a9, .int .i64 a7, .int .i64 a4, .slice a2 a5 a3, .int .u64 a8]] w fun e w' => ∃ v, e = .returned v ∧ R v w' :=
  Q0i follows (H := [(0, [1, 4], [(5, (.one (.int .i64)))])]) (args := [.agg #[.int .i64 a0, .int .i64 a1, .int .u64 a6, .int .i64 a9, .int .i64 a7, .int .i64 a4, .slice a2 a5 a3, .int .u64 a8]]) (cast (by kernel_rfl) h)

def Q14.N (a7 ab ac aj ae aa : Int) (a8 : Option Addr) (a1 a9 : Nat) (af : Int) (R : RW) (w : World) : Prop :=
 ∀ (a3 : World) (ag : Nat), Ext no w a3 → Priv w a3 [ag] →
 ∃ (I0 : Nat → List Value → World → Prop) (ak : Nat), I0 ak [.int .i64 0] a3 ∧ ∀ (ai : Nat) (a5 : World) (a2 : Int), I0 ai [.int .i64 a2] a5 →
 (a2 < Q0H.F →
 ∀ (a4 : World), Ext no a5 a4 →
 Calls Try.prog 33 #[.int .i64 a2] a4 fun ad a6 => ∃ (a0 : Int), ad = .returned (.int .i64 a0) ∧
 Keep [ag] a4 a6 ∧
 (-9223372036854775808 : Int) ≤ ((8 : Int) + a0) ∧ ((8 : Int) + a0) < 9223372036854775808 ∧
 ((a1 : Int) = ((8 : Int) + a0) →
 R (.int .i64 a2) a6) ∧
 ((a1 : Int) ≠ ((8 : Int) + a0) →
 (-9223372036854775808 : Int) ≤ (a2 + 1) ∧ (a2 + 1) < 9223372036854775808 ∧
 ∃ ah, ah < ai ∧ I0 ah [.int .i64 (a2 + 1)] a6)) ∧
 (Q0H.F ≤ a2 →
 R (.int .i64 (-1)) a5)

theorem Q14.up (a3 a5 a6 aa a8 a4 : Int) (a0 : Option Addr) (a1 a2 : Nat) (a9 : Int) {R : RW} {w : World} (h : Q14.N a3 a5 a6 aa a8 a4 a0 a1 a2 a9 R w) : Q14.M a3 a5 a6 aa a8 a4 a0 a1 a2 a9 R w := by
  unfold Q14.M
  unfold Q14.N at h
  refine Q01 fun av e9 => ?_
  have a7 := Blk.of_new e9
  have aq := ((Ext.refl no w)).size
  have ap := (Ext.refl no w).x_alloc e9
  refine (Q0H.pure).mono fun ee ww10 ⟨he, hxx⟩ => ⟨(Q0H.F), he, ?_⟩
  have af := ap.trans hxx
  have a7 := a7.ext hxx id
  have h := h ww10 (w.heap.size) af (Priv.cons aq a7.lt Priv.nil)
  obtain ⟨I0, al, h0, h⟩ := h
  refine ⟨fun k vs ww => Blk ww w.heap.size 42 [.int .i64 a3, .int .i64 a5, .int .u64 a6, .int .i64 aa, .int .i64 a8, .int .i64 a4, .slice a0 a1 a2, .int .u64 a9] ∧ I0 k vs ww, al, ⟨a7, h0⟩, fun ao ac am hI => ?_⟩
  obtain ⟨a7, hI⟩ := hI
  have h := h ao ac am hI
  refine bif_fo (fun aj => ?_) (fun aj => ?_)
  ·have h := h.2 (Int.not_lt.1 (of_decide_eq_false aj))
   exact h
  have h := h.1 (of_decide_eq_true aj)
  refine Q01 fun ah ak => ?_
  have ad := (Ext.refl no ac).x_drew ak
  have a7 := a7.x_drew ak
  refine ⟨a0, a1, a2, a7.celli 6 rfl rfl, ?_⟩
  have h := h ah ad
  refine h.mono fun ar au h => ?_
  obtain ⟨ab, he, hk, h⟩ := h
  refine ⟨ab, he, ?_⟩
  have a7 := hk.blk a7 (by simp)
  refine ⟨a7.celli 6 rfl rfl, ?_⟩
  obtain ⟨ae, ai, h⟩ := h
  try rw [w64 ae ai]
  refine bif_of (fun ag => ?_) (fun ag => ?_)
  ·have h := h.1 (beq_t ag)
   exact h
  have h := h.2 (beq_f ag)
  obtain ⟨ae, ai, h⟩ := h
  try rw [w64 ae ai]
  obtain ⟨an, hk, h⟩ := h
  exact ⟨an, hk, a7, h⟩

theorem Q14.go (a0 a1 a6 a9 a7 a4 : Int) (a2 : Option Addr) (a5 a3 : Nat) (a8 : Int) {R : RW} {w : World} (h : Q14.N a0 a1 a6 a9 a7 a4 a2 a5 a3 a8 R w) : Calls Try.prog 12 #[.agg #[.int .i64 a0, .int .i64 a1, .int .u64 a6, .int .i64 a9, .int .i64 a7, .int .i64 a4, .slice a2 a5 a3, .int .u64 a8]] w fun e w' => ∃ v, e = .returned v ∧ R v w' := Q14.ok a0 a1 a6 a9 a7 a4 a2 a5 a3 a8 (Q14.up a0 a1 a6 a9 a7 a4 a2 a5 a3 a8 h)
abbrev Q05.J1 (bi : Int) (bh b5 : Addr) (bj : Int) (I0 : Nat → List Value → World → Prop) (b2 : Addr) (bg : Nat) (R : RW) (b4 : World) : Prop :=
 thenW (b4.drew) fun ay =>
 ∃ (bf : Option Addr), ay.cell? (b2.add 2) = some (.pointer bf) ∧
 ∃ (ap av a6 ac : Int) (a9 : Option Addr) (a4 a8 : Nat) (ai : Option Addr) (af am : Nat), cellsAt ay b5 [.int .i64 ap, .int .i64 av, .int .u64 a6, .int .i64 ac, .slice a9 a4 a8, .slice ai af am] 0 ∧
 Calls Try.prog 25 #[.pointer bf, .agg #[.int .i64 ap, .int .i64 av, .int .u64 a6, .int .i64 ac, .slice a9 a4 a8, .slice ai af am]] ay fun ba b6 => ∃ (ax : Int), ba = .returned (.int .i64 ax) ∧
 thenW (b6.drew) fun b0 =>
 ∃ (bd : Option Addr), b0.cell? (b2.add 3) = some (.pointer bd) ∧
 ∃ (aq au a2 ad : Int) (a7 : Option Addr) (ab a5 : Nat) (aj : Option Addr) (ak ao : Nat), cellsAt b0 b5 [.int .i64 aq, .int .i64 au, .int .u64 a2, .int .i64 ad, .slice a7 ab a5, .slice aj ak ao] 0 ∧
 Calls Try.prog 25 #[.pointer bd, .agg #[.int .i64 aq, .int .i64 au, .int .u64 a2, .int .i64 ad, .slice a7 ab a5, .slice aj ak ao]] b0 fun b8 bb => ∃ (b1 : Int), b8 = .returned (.int .i64 b1) ∧
 thenW (bb.drew) fun ar =>
 ∃ (bc : Option Addr), ar.cell? (b2.add 4) = some (.pointer bc) ∧
 ∃ (b9 : Option Addr), ar.cell? (b2.add 1) = some (.pointer b9) ∧
 ∃ (ag aw a1 ae : Int) (a3 : Option Addr) (a0 aa : Nat) (ah : Option Addr) (al an : Nat), cellsAt ar bh [.int .i64 ag, .int .i64 aw, .int .u64 a1, .int .i64 ae, .slice a3 a0 aa, .slice ah al an] 0 ∧
 Calls Try.prog 26 #[.pointer bc, .pointer b9, .agg #[.int .i64 ag, .int .i64 aw, .int .u64 a1, .int .i64 ae, .slice a3 a0 aa, .slice ah al an]] ar fun b3 be => ∃ (az : Int), b3 = .returned (.int .i64 az) ∧
 ∃ b7, b7 < bg ∧ I0 b7 [.int .u64 bi, .int .i64 (IntKind.i64.wrap (bj + 1))] be

abbrev Q05.J2 (ab ah : Addr) (ak : Int) (af ai : Addr) (al : Int) (I0 : Nat → List Value → World → Prop) (aj : Addr) (ag : Nat) (ae ac : World) (R : RW) (ad : World) : Prop :=
 thenW (ad.drew) fun a6 =>
 ∃ (a7 : Option Addr) (a8 a5 : Nat) (a1 : Int), cellsAt a6 ah [.slice a7 a8 a5, .int .i64 a1] 0 ∧
 ∃ (a4 : Option Addr) (a3 a2 : Nat) (a0 : Int), cellsAt a6 ab [.slice a4 a3 a2, .int .i64 a0] 0 ∧
 putsK a6 (blk ae.heap.size) [.slice a7 a8 a5, .int .i64 a1] 0 fun a9 =>
 cellsAt a9 ab [.slice a4 a3 a2, .int .i64 a0] 0 ∧
 putsK a9 (blk ac.heap.size) [.slice a4 a3 a2, .int .i64 a0] 0 fun aa =>
 Q05.J1 ak af ai al I0 aj ag R aa

abbrev Q05.J3 (bb : Addr) (bh : Int) (bf : Addr) (bj : Int) (I0 : Nat → List Value → World → Prop) (bk : Addr) (bi : Nat) (b7 b4 : World) (R : RW) (ar : World) : Prop :=
 ∃ (ax : Option Addr) (b0 aq : Nat) (aa : Int), cellsAt ar (blk b7.heap.size) [.slice ax b0 aq, .int .i64 aa] 0 ∧
 ∃ (ac ao a5 ab : Int) (a6 : Option Addr) (a3 a0 : Nat) (ag : Option Addr) (ae ak : Nat), cellsAt ar bf [.int .i64 ac, .int .i64 ao, .int .u64 a5, .int .i64 ab, .slice a6 a3 a0, .slice ag ae ak] 0 ∧
 Calls Try.prog 23 #[.agg #[.slice ax b0 aq, .int .i64 aa], .agg #[.int .i64 ac, .int .i64 ao, .int .u64 a5, .int .i64 ab, .slice a6 a3 a0, .slice ag ae ak]] ar fun bc av => ∃ (b5 : Option Addr) (b9 b3 : Nat) (aj ai : Int), bc = .returned (.tuple #[.agg #[.slice b5 b9 b3, .int .i64 aj], .int .i64 ai]) ∧
 thenW (av.alloc (.cells #[.slice none 0 0, .int .i64 0] 64)) fun be =>
 putsK be (blk av.heap.size) [.slice b5 b9 b3, .int .i64 aj] 0 fun b2 =>
 ∃ (b1 : Option Addr) (az ay : Nat) (a9 : Int), cellsAt b2 (blk b4.heap.size) [.slice b1 az ay, .int .i64 a9] 0 ∧
 ∃ (an ap a2 a8 : Int) (a7 : Option Addr) (a4 a1 : Nat) (af : Option Addr) (ad al : Nat), cellsAt b2 bb [.int .i64 an, .int .i64 ap, .int .u64 a2, .int .i64 a8, .slice a7 a4 a1, .slice af ad al] 0 ∧
 Calls Try.prog 24 #[.agg #[.slice b1 az ay, .int .i64 a9], .agg #[.int .i64 an, .int .i64 ap, .int .u64 a2, .int .i64 a8, .slice a7 a4 a1, .slice af ad al]] b2 fun bg au => ∃ (b8 : Option Addr) (ba b6 : Nat) (ah am : Int), bg = .returned (.tuple #[.agg #[.slice b8 ba b6, .int .i64 ah], .int .i64 am]) ∧
 thenW (au.alloc (.cells #[.slice none 0 0, .int .i64 0] 68)) fun bd =>
 putsK bd (blk au.heap.size) [.slice b8 ba b6, .int .i64 ah] 0 fun aw =>
 bif ai != 0 then (
 R (.pointer none) aw) else (
 bif am != 0 then (
 R (.pointer none) aw) else (
 Q05.J2 (blk au.heap.size) (blk av.heap.size) bh bb bf bj I0 bk bi b7 b4 R aw))

abbrev Q05.J4 (a8 : Addr) (a6 a4 : Int) (a5 : Addr) (a7 : Int) (I0 : Nat → List Value → World → Prop) (a9 : Addr) (a3 : Nat) (a1 a2 : World) (R : RW) (a0 : World) : Prop :=
 bif a6 != 0 then (
 R (.pointer none) a0) else (
 Q05.J3 a8 a4 a5 a7 I0 a9 a3 a1 a2 R a0)

abbrev Q05.J5 (b5 ba : Int) (b1 : Addr) (b6 bc : Int) (I0 : Nat → List Value → World → Prop) (az : Addr) (b2 : Nat) (b0 aj : World) (R : RW) (b8 : World) : Prop :=
 thenW (b8.drew) fun a9 =>
 ∃ (ay : Option Addr), a9.cell? (az.add 1) = some (.pointer ay) ∧
 ∃ (ac : Option Addr) (aa ab : Nat) (a0 : Int), cellsAt a9 (blk aj.heap.size) [.slice ac aa ab, .int .i64 a0] 0 ∧
 (Calls Try.prog 22 #[.pointer ay, .agg #[.slice ac aa ab, .int .i64 a0], .int .u64 b6] a9 fun b4 ax => ∃ (af au a7 ad : Int) (a3 : Option Addr) (a6 a8 : Nat) (am : Option Addr) (an ai : Nat) (ap ar : Int), b4 = .returned (.tuple #[.agg #[.int .i64 af, .int .i64 au, .int .u64 a7, .int .i64 ad, .slice a3 a6 a8, .slice am an ai], .int .u64 ap, .int .i64 ar]) ∧
 thenW (ax.alloc (.cells #[.int .i64 0, .int .i64 0, .int .u64 0, .int .i64 0, .slice none 0 0, .slice none 0 0] 77)) fun bb =>
 putsK bb (blk ax.heap.size) [.int .i64 af, .int .i64 au, .int .u64 a7, .int .i64 ad, .slice a3 a6 a8, .slice am an ai] 0 fun b7 =>
 Q05.J4 (blk ax.heap.size) b5 ba b1 bc I0 az b2 b0 aj R b7) ∧
 (thenW (a9.alloc (.cells #[.int .i64 0, .int .i64 0, .int .u64 0, .int .i64 0, .slice none 0 0, .slice none 0 0] 77)) fun av =>
 cellsAt av (blk aj.heap.size) [.slice ac aa ab, .int .i64 a0] 0 ∧
 av.cell? (az.add 1) = some (.pointer ay) ∧
 Calls Try.prog 22 #[.pointer ay, .agg #[.slice ac aa ab, .int .i64 a0], .int .u64 b6] av fun bd b9 => ∃ (al aw a2 ae : Int) (a4 : Option Addr) (a5 a1 : Nat) (ah : Option Addr) (ak ag : Nat) (ao aq : Int), bd = .returned (.tuple #[.agg #[.int .i64 al, .int .i64 aw, .int .u64 a2, .int .i64 ae, .slice a4 a5 a1, .slice ah ak ag], .int .u64 ao, .int .i64 aq]) ∧
 putsK b9 (blk a9.heap.size) [.int .i64 al, .int .i64 aw, .int .u64 a2, .int .i64 ae, .slice a4 a5 a1, .slice ah ak ag] 0 fun b3 =>
 Q05.J4 (blk a9.heap.size) b5 ba b1 bc I0 az b2 b0 aj R b3)

abbrev Q05.J6 (ay b7 : Int) (I0 : Nat → List Value → World → Prop) (b0 : Addr) (b4 : Nat) (ap b1 : World) (R : RW) (b9 : World) : Prop :=
 thenW (b9.drew) fun a2 =>
 ∃ (az : Option Addr), a2.cell? (b0.add 0) = some (.pointer az) ∧
 ∃ (ae : Option Addr) (ag af : Nat) (a0 : Int), cellsAt a2 (blk ap.heap.size) [.slice ae ag af, .int .i64 a0] 0 ∧
 (Calls Try.prog 21 #[.pointer az, .agg #[.slice ae ag af, .int .i64 a0], .int .u64 ay] a2 fun b2 aw => ∃ (ar au a6 ah : Int) (a9 : Option Addr) (ad a7 : Nat) (ao : Option Addr) (am aq : Nat) (a8 aa : Int), b2 = .returned (.tuple #[.agg #[.int .i64 ar, .int .i64 au, .int .u64 a6, .int .i64 ah, .slice a9 ad a7, .slice ao am aq], .int .u64 a8, .int .i64 aa]) ∧
 thenW (aw.alloc (.cells #[.int .i64 0, .int .i64 0, .int .u64 0, .int .i64 0, .slice none 0 0, .slice none 0 0] 72)) fun b5 =>
 putsK b5 (blk aw.heap.size) [.int .i64 ar, .int .i64 au, .int .u64 a6, .int .i64 ah, .slice a9 ad a7, .slice ao am aq] 0 fun b3 =>
 Q05.J5 aa a8 (blk aw.heap.size) ay b7 I0 b0 b4 ap b1 R b3) ∧
 (thenW (a2.alloc (.cells #[.int .i64 0, .int .i64 0, .int .u64 0, .int .i64 0, .slice none 0 0, .slice none 0 0] 72)) fun ax =>
 cellsAt ax (blk ap.heap.size) [.slice ae ag af, .int .i64 a0] 0 ∧
 ax.cell? (b0.add 0) = some (.pointer az) ∧
 Calls Try.prog 21 #[.pointer az, .agg #[.slice ae ag af, .int .i64 a0], .int .u64 ay] ax fun b6 b8 => ∃ (al av ab ai : Int) (a4 : Option Addr) (a5 a3 : Nat) (ak : Option Addr) (aj an : Nat) (a1 ac : Int), b6 = .returned (.tuple #[.agg #[.int .i64 al, .int .i64 av, .int .u64 ab, .int .i64 ai, .slice a4 a5 a3, .slice ak aj an], .int .u64 a1, .int .i64 ac]) ∧
 putsK b8 (blk a2.heap.size) [.int .i64 al, .int .i64 av, .int .u64 ab, .int .i64 ai, .slice a4 a5 a3, .slice ak aj an] 0 fun ba =>
 Q05.J5 ac a1 (blk a2.heap.size) ay b7 I0 b0 b4 ap b1 R ba)

abbrev Q05.J7 (aw ax : Option Addr) (aq av : Int) (a0 : Addr) (ar : Int) (R : RW) (ag : World) : Prop :=
 Q0d ag ((a0.add 2).add 0) ∧
 thenW (ag.setCell ((a0.add 2).add 0) (.pointer ax)) fun ae =>
 Q0d ae ((a0.add 3).add 0) ∧
 thenW (ae.setCell ((a0.add 3).add 0) (.pointer aw)) fun a8 =>
 thenW (a8.alloc (.cells #[.int .i64 0, .int .u64 av, .slice none 0 0, .slice none 0 0] 61)) fun aa =>
 Q0d aa ((a0.add 4).add 0) ∧
 thenW (aa.setCell ((a0.add 4).add 0) (.pointer (some (blk a8.heap.size)))) fun al =>
 Calls Try.prog 19 #[.int .u64 aq] al fun ao ap => ∃ (a7 : Option Addr) (ac ab : Nat) (a2 : Int), ao = .returned (.agg #[.slice a7 ac ab, .int .i64 a2]) ∧
 Calls Try.prog 20 #[.int .u64 aq] ap fun ak a6 => ∃ (af : Option Addr) (ad a9 : Nat) (a1 : Int), ak = .returned (.agg #[.slice af ad a9, .int .i64 a1]) ∧
 thenW (a6.alloc (.cells #[.slice none 0 0, .int .i64 0] 64)) fun a4 =>
 thenW (a4.alloc (.cells #[.slice none 0 0, .int .i64 0] 68)) fun am =>
 putsK am (blk a6.heap.size) [.slice a7 ac ab, .int .i64 a2] 0 fun an =>
 putsK an (blk a4.heap.size) [.slice af ad a9, .int .i64 a1] 0 fun ai =>
 ∃ (I0 : Nat → List Value → World → Prop) (au : Nat), I0 au [.int .u64 0, .int .i64 0] ai ∧ ∀ (aj : Nat) (a5 : World) (a3 ah : Int), I0 aj [.int .u64 a3, .int .i64 ah] a5 →
 bif decide (ah < ar) then (
 Q05.J6 a3 ah I0 a0 aj a6 a4 R a5) else (
 R (.pointer (some a0)) a5)

def Q05.M (a1 : Option Addr) (a3 a2 : Nat) (ah : Int) (R : RW) (w : World) : Prop :=
 Calls Try.prog 15 #[.slice a1 a3 a2] w fun b4 b0 => ∃ (ao : Option Addr), b4 = .returned (.pointer ao) ∧
 thenW (b0.alloc (.cells #[.slice a1 a3 a2, .slice none 0 0] 54)) fun a7 =>
 thenW (a7.alloc (.cells #[.pointer ao, .pointer (some (blk b0.heap.size)), .pointer none, .pointer none, .pointer none, .int .u64 0] 38)) fun b1 =>
 ∃ (o8 : Option Addr), b1.cell? ((blk a7.heap.size).add 0) = some (.pointer o8) ∧
 Calls Try.prog 16 #[.pointer o8] b1 fun au am => ∃ (a4 a0 : Int), au = .returned (.tuple #[.int .u64 a4, .int .u64 a0]) ∧
 ∃ (ay : Option Addr), am.cell? ((blk a7.heap.size).add 0) = some (.pointer ay) ∧
 Calls Try.prog 16 #[.pointer ay] am fun av an => ∃ (a6 ae : Int), av = .returned (.tuple #[.int .u64 a6, .int .u64 ae]) ∧
 ∃ (b3 : Option Addr), an.cell? ((blk a7.heap.size).add 1) = some (.pointer b3) ∧
 Calls Try.prog 17 #[.pointer b3] an fun aw aj => ∃ (ac ag : Int), aw = .returned (.tuple #[.int .u64 ac, .int .u64 ag]) ∧
 ∃ (b2 : Option Addr), aj.cell? ((blk a7.heap.size).add 1) = some (.pointer b2) ∧
 Calls Try.prog 17 #[.pointer b2] aj fun aq ak => ∃ (af ad : Int), aq = .returned (.tuple #[.int .u64 af, .int .u64 ad]) ∧
 Q0d ak (((blk a7.heap.size).add 5).add 0) ∧
 thenW (ak.setCell (((blk a7.heap.size).add 5).add 0) (.int .u64 a0)) fun al =>
 ∃ (az : Option Addr), al.cell? ((blk a7.heap.size).add 0) = some (.pointer az) ∧
 Calls Try.prog 18 #[.pointer az, .int .i64 0, .int .u64 a4] al fun ap ai => ∃ (a5 : Option Addr) (a9 : Int), ap = .returned (.tuple #[.pointer a5, .int .i64 a9]) ∧
 ∃ (ax : Option Addr), ai.cell? ((blk a7.heap.size).add 0) = some (.pointer ax) ∧
 Calls Try.prog 18 #[.pointer ax, .int .i64 1, .int .u64 a6] ai fun ar a8 => ∃ (aa : Option Addr) (ab : Int), ar = .returned (.tuple #[.pointer aa, .int .i64 ab]) ∧
 bif a9 != 0 then (
 R (.pointer none) a8) else (
 bif ab != 0 then (
 R (.pointer none) a8) else (
 bif Option.isNone a5 then (
 R (.pointer none) a8) else (
 Q05.J7 aa a5 a0 a4 (blk a7.heap.size) ah R a8)))

theorem Q05.ok (a0 : Option Addr) (a2 a1 : Nat) (a3 : Int) {R : RW} {w : World} (h : Q05.M a0 a2 a1 a3 R w) : Calls Try.prog 7 #[.slice a0 a2 a1, .int .i64 a3] w fun e w' => ∃ v, e = .returned v ∧ R v w' :=
  Q0i follows (H := [(0, [1, 5, 14, 15], [(16, (.one (.int .u64))), (17, (.one (.int .i64)))])]) (args := [.slice a0 a2 a1, .int .i64 a3]) (cast (by kernel_rfl) h)

def Q05.N (b8 : Option Addr) (b3 b9 : Nat) (c0 : Int) (R : RW) (w : World) : Prop :=
 Calls Try.prog 15 #[.slice b8 b3 b9] w fun e4 dv => ∃ (da : Option Addr), e4 = .returned (.pointer da) ∧
 ∀ (cn : World) (q7 : Nat), Ext no dv cn → Blk cn q7 54 [.slice b8 b3 b9, .slice none 0 0] → dv.heap.size ≤ q7 → q7 < cn.heap.size →
 ∀ (cu : World) (q9 : Nat), Ext no cn cu → Blk cu q9 38 [.pointer da, .pointer (some (blk q7)), .pointer none, .pointer none, .pointer none, .int .u64 0] → cn.heap.size ≤ q9 → q9 < cu.heap.size →
 ∃ (e3 : Option Addr), cu.cell? ((blk q9).add 0) = some (.pointer e3) ∧
 Calls Try.prog 16 #[.pointer e3] cu fun dk d9 => ∃ (az af : Int), dk = .returned (.tuple #[.int .u64 az, .int .u64 af]) ∧
 ∃ (dz : Option Addr), d9.cell? ((blk q9).add 0) = some (.pointer dz) ∧
 Calls Try.prog 16 #[.pointer dz] d9 fun dt cq => ∃ (bs c8 : Int), dt = .returned (.tuple #[.int .u64 bs, .int .u64 c8]) ∧
 ∃ (dy : Option Addr), cq.cell? ((blk q9).add 1) = some (.pointer dy) ∧
 Calls Try.prog 17 #[.pointer dy] cq fun ds d2 => ∃ (ch cg : Int), ds = .returned (.tuple #[.int .u64 ch, .int .u64 cg]) ∧
 ∃ (e1 : Option Addr), d2.cell? ((blk q9).add 1) = some (.pointer e1) ∧
 Calls Try.prog 17 #[.pointer e1] d2 fun dp d0 => ∃ (ce c9 : Int), dp = .returned (.tuple #[.int .u64 ce, .int .u64 c9]) ∧
 Q0d d0 (((blk q9).add 5).add 0) ∧
 thenW (d0.setCell (((blk q9).add 5).add 0) (.int .u64 af)) fun cr =>
 ∃ (dx : Option Addr), cr.cell? ((blk q9).add 0) = some (.pointer dx) ∧
 Calls Try.prog 18 #[.pointer dx, .int .i64 0, .int .u64 az] cr fun di cz => ∃ (b1 : Option Addr) (bl : Int), di = .returned (.tuple #[.pointer b1, .int .i64 bl]) ∧
 ∃ (du : Option Addr), cz.cell? ((blk q9).add 0) = some (.pointer du) ∧
 Calls Try.prog 18 #[.pointer du, .int .i64 1, .int .u64 bs] cz fun dn bg => ∃ (c5 : Option Addr) (bh : Int), dn = .returned (.tuple #[.pointer c5, .int .i64 bh]) ∧
 (bl ≠ 0 →
 R (.pointer none) bg) ∧
 (bl = 0 →
 (bh ≠ 0 →
 R (.pointer none) bg) ∧
 (bh = 0 →
 (b1 = none →
 R (.pointer none) bg) ∧
 (b1 ≠ none →
 Q0d bg (((blk q9).add 2).add 0) ∧
 thenW (bg.setCell (((blk q9).add 2).add 0) (.pointer b1)) fun cv =>
 Q0d cv (((blk q9).add 3).add 0) ∧
 thenW (cv.setCell (((blk q9).add 3).add 0) (.pointer c5)) fun df =>
 ∀ (bt : World) (dg : Nat), Ext no df bt → Blk bt dg 61 [.int .i64 0, .int .u64 az, .slice none 0 0, .slice none 0 0] → df.heap.size ≤ dg → dg < bt.heap.size →
 Q0d bt (((blk q9).add 4).add 0) ∧
 thenW (bt.setCell (((blk q9).add 4).add 0) (.pointer (some (blk dg)))) fun dq =>
 Calls Try.prog 19 #[.int .u64 af] dq fun dm dj => ∃ (dd : Option Addr) (cy d3 : Nat) (b7 : Int), dm = .returned (.agg #[.slice dd cy d3, .int .i64 b7]) ∧
 Calls Try.prog 20 #[.int .u64 af] dj fun dr d7 => ∃ (d6 : Option Addr) (ct cp : Nat) (b2 : Int), dr = .returned (.agg #[.slice d6 ct cp, .int .i64 b2]) ∧
 ∀ (cb : World) (bv bw : Nat), Ext no d7 cb → Priv d7 cb [bv, bw] →
 ∃ (I0 : Nat → List Value → World → Prop) (e5 : Nat), I0 e5 [.int .u64 0, .int .i64 0, .slice dd cy d3, .int .i64 b7, .slice d6 ct cp, .int .i64 b2] cb ∧ ∀ (e2 : Nat) (be : World) (ay ck : Int) (cf : Option Addr) (ca cj : Nat) (an : Int) (cc : Option Addr) (cd ci : Nat) (am : Int), I0 e2 [.int .u64 ay, .int .i64 ck, .slice cf ca cj, .int .i64 an, .slice cc cd ci, .int .i64 am] be →
 (ck < c0 →
 ∃ (dw : Option Addr), be.cell? ((blk q9).add 0) = some (.pointer dw) ∧
 ∀ (bf : World) (dh : List Nat), Ext no be bf → Priv be bf dh →
 Calls Try.prog 21 #[.pointer dw, .agg #[.slice cf ca cj, .int .i64 an], .int .u64 ay] bf fun dl bu => ∃ (ad ba a1 a8 : Int) (a0 : Option Addr) (a2 a3 : Nat) (ai : Option Addr) (ag ae : Nat) (av a9 : Int), dl = .returned (.tuple #[.agg #[.int .i64 ad, .int .i64 ba, .int .u64 a1, .int .i64 a8, .slice a0 a2 a3, .slice ai ag ae], .int .u64 av, .int .i64 a9]) ∧
 Keep dh bf bu ∧
 Keep [bv, bw] bf bu ∧
 ∀ (ar : World) (de : Nat), Ext (fun b => b ∈ dh) bu ar → PrivJ dh bu ar [de] →
 ∃ (e0 : Option Addr), ar.cell? ((blk q9).add 1) = some (.pointer e0) ∧
 ∀ (ap : World) (bm : List Nat), Ext no ar ap → Priv ar ap bm →
 Calls Try.prog 22 #[.pointer e0, .agg #[.slice cc cd ci, .int .i64 am], .int .u64 ay] ap fun cl au => ∃ (al ax a7 ac : Int) (a6 : Option Addr) (a5 a4 : Nat) (aj : Option Addr) (ak ah : Nat) (bc bd : Int), cl = .returned (.tuple #[.agg #[.int .i64 al, .int .i64 ax, .int .u64 a7, .int .i64 ac, .slice a6 a5 a4, .slice aj ak ah], .int .u64 bc, .int .i64 bd]) ∧
 Keep bm ap au ∧
 Keep [bv, bw, de] ap au ∧
 (a9 ≠ 0 →
 ∀ (c7 : World), Ext (fun b => b ∈ bm) au c7 →
 R (.pointer none) c7) ∧
 (a9 = 0 →
 ∀ (b6 : World) (bj : Nat), Ext (fun b => b ∈ bm) au b6 → PrivJ bm au b6 [bj] →
 Calls Try.prog 23 #[.agg #[.slice cf ca cj, .int .i64 an], .agg #[.int .i64 ad, .int .i64 ba, .int .u64 a1, .int .i64 a8, .slice a0 a2 a3, .slice ai ag ae]] b6 fun cw bo => ∃ (c6 : Option Addr) (c1 c2 : Nat) (aw ab : Int), cw = .returned (.tuple #[.agg #[.slice c6 c1 c2, .int .i64 aw], .int .i64 ab]) ∧
 Keep [bv, bw, de, bj] b6 bo ∧
 ∀ (b0 : World) (d5 : Nat), Ext no bo b0 → Priv bo b0 [d5] →
 Calls Try.prog 24 #[.agg #[.slice cc cd ci, .int .i64 am], .agg #[.int .i64 al, .int .i64 ax, .int .u64 a7, .int .i64 ac, .slice a6 a5 a4, .slice aj ak ah]] b0 fun co b4 => ∃ (bz : Option Addr) (c4 bx : Nat) (ao aa : Int), co = .returned (.tuple #[.agg #[.slice bz c4 bx, .int .i64 ao], .int .i64 aa]) ∧
 Keep [bv, bw, de, bj, d5] b0 b4 ∧
 (ab ≠ 0 →
 ∀ (aq : World), Ext no b4 aq →
 R (.pointer none) aq) ∧
 (ab = 0 →
 (aa ≠ 0 →
 ∀ (aq : World), Ext no b4 aq →
 R (.pointer none) aq) ∧
 (aa = 0 →
 ∀ (b5 : World), Ext (fun b => b = bw ∨ b = bv) b4 b5 →
 ∃ (d8 : Option Addr), b5.cell? ((blk q9).add 2) = some (.pointer d8) ∧
 Calls Try.prog 25 #[.pointer d8, .agg #[.int .i64 ad, .int .i64 ba, .int .u64 a1, .int .i64 a8, .slice a0 a2 a3, .slice ai ag ae]] b5 fun cs br => ∃ (bk : Int), cs = .returned (.int .i64 bk) ∧
 Keep [bv, bw, de, bj] b5 br ∧
 ∃ (d4 : Option Addr), br.cell? ((blk q9).add 3) = some (.pointer d4) ∧
 ∀ (bi : World), Ext no br bi →
 Calls Try.prog 25 #[.pointer d4, .agg #[.int .i64 ad, .int .i64 ba, .int .u64 a1, .int .i64 a8, .slice a0 a2 a3, .slice ai ag ae]] bi fun dc bb => ∃ (bq : Int), dc = .returned (.int .i64 bq) ∧
 Keep [bv, bw, bj] bi bb ∧
 ∃ (db : Option Addr), bb.cell? ((blk q9).add 4) = some (.pointer db) ∧
 ∃ (cx : Option Addr), bb.cell? ((blk q9).add 1) = some (.pointer cx) ∧
 ∀ (bp : World), Ext no bb bp →
 Calls Try.prog 26 #[.pointer db, .pointer cx, .agg #[.int .i64 al, .int .i64 ax, .int .u64 a7, .int .i64 ac, .slice a6 a5 a4, .slice aj ak ah]] bp fun d1 c3 => ∃ (bn : Int), d1 = .returned (.int .i64 bn) ∧
 Keep [bv, bw] bp c3 ∧
 (-9223372036854775808 : Int) ≤ (ck + 1) ∧ (ck + 1) < 9223372036854775808 ∧
 ∃ cm, cm < e2 ∧ I0 cm [.int .u64 av, .int .i64 (ck + 1), .slice c6 c1 c2, .int .i64 aw, .slice bz c4 bx, .int .i64 ao] c3)))) ∧
 (c0 ≤ ck →
 R (.pointer (some (blk q9))) be))))

theorem Q05.up (cp : Option Addr) (cm cq : Nat) (dj : Int) {R : RW} {w : World} (h : Q05.N cp cm cq dj R w) : Q05.M cp cm cq dj R w := by
  unfold Q05.M
  unfold Q05.N at h
  refine h.mono fun ih fa h => ?_
  obtain ⟨fs, he, h⟩ := h
  refine ⟨fs, he, ?_⟩
  refine Q01 fun f2 e6 => ?_
  have h := h f2 fa.heap.size ((Ext.refl no fa).x_alloc e6) (Blk.of_new e6) ((Ext.refl no fa)).size (Q0w e6)
  refine Q01 fun gh e8 => ?_
  have h := h gh f2.heap.size ((Ext.refl no f2).x_alloc e8) (Blk.of_new e8) ((Ext.refl no f2)).size (Q0w e8)
  obtain ⟨i9, fz, h⟩ := h
  refine ⟨i9, fz, ?_⟩
  refine h.mono fun gt i0 h => ?_
  obtain ⟨e4, dr, he, h⟩ := h
  refine ⟨e4, dr, he, ?_⟩
  obtain ⟨gp, f9, h⟩ := h
  refine ⟨gp, f9, ?_⟩
  refine h.mono fun ig gc h => ?_
  obtain ⟨e1, dl, he, h⟩ := h
  refine ⟨e1, dl, he, ?_⟩
  obtain ⟨ic, f5, h⟩ := h
  refine ⟨ic, f5, ?_⟩
  refine h.mono fun ia gy h => ?_
  obtain ⟨e0, dy, he, h⟩ := h
  refine ⟨e0, dy, he, ?_⟩
  obtain ⟨i7, f6, h⟩ := h
  refine ⟨i7, f6, ?_⟩
  refine h.mono fun i4 gw h => ?_
  obtain ⟨du, dm, he, h⟩ := h
  refine ⟨du, dm, he, ?_⟩
  obtain ⟨hcs, h⟩ := h
  refine ⟨hcs, Q01 fun ge gf => ?_⟩
  replace h := Q1c h gf
  obtain ⟨gl, fj, h⟩ := h
  refine ⟨gl, fj, ?_⟩
  refine h.mono fun gm gq h => ?_
  obtain ⟨ed, ek, he, h⟩ := h
  refine ⟨ed, ek, he, ?_⟩
  obtain ⟨ga, fw, h⟩ := h
  refine ⟨ga, fw, ?_⟩
  refine h.mono fun i3 gb h => ?_
  obtain ⟨ex, ee, he, h⟩ := h
  refine ⟨ex, ee, he, ?_⟩
  refine bif_of (fun fb => ?_) (fun fb => ?_)
  ·have h := h.1 (bne_t fb)
   exact h
  have h := h.2 (bne_f fb)
  refine bif_of (fun fr => ?_) (fun fr => ?_)
  ·have h := h.1 (bne_t fr)
   exact h
  have h := h.2 (bne_f fr)
  refine bif_of (fun fc => ?_) (fun fc => ?_)
  ·have h := h.1 (Q1y fc)
   exact h
  have h := h.2 (Q1w fc)
  unfold Q05.J7
  obtain ⟨hcs, h⟩ := h
  refine ⟨hcs, Q01 fun gk gj => ?_⟩
  replace h := Q1c h gj
  obtain ⟨hcs, h⟩ := h
  refine ⟨hcs, Q01 fun e5 gi => ?_⟩
  replace h := Q1c h gi
  refine Q01 fun g0 fi => ?_
  have h := h g0 e5.heap.size ((Ext.refl no e5).x_alloc fi) (Blk.of_new fi) ((Ext.refl no e5)).size (Q0w fi)
  obtain ⟨hcs, h⟩ := h
  refine ⟨hcs, Q01 fun i5 gg => ?_⟩
  replace h := Q1c h gg
  refine h.mono fun gv gr h => ?_
  obtain ⟨e3, dt, dw, cb, he, h⟩ := h
  refine ⟨e3, dt, dw, cb, he, ?_⟩
  refine h.mono fun i6 cf h => ?_
  obtain ⟨dx, dq, dn, ca, he, h⟩ := h
  refine ⟨dx, dq, dn, ca, he, ?_⟩
  refine Q01 fun d6 g4 => ?_
  have a2 := Blk.of_new g4
  have g3 := ((Ext.refl no cf)).size
  have et := (Ext.refl no cf).x_alloc g4
  refine Q01 fun gs fo => ?_
  have a0 := Blk.of_new fo
  have g5 := (et).size
  have co := Nat.ne_of_lt a2.lt
  have a2 := a2.x_alloc fo
  have ff := et.x_alloc fo
  refine Q0p (k := 0) (j := 0) a2 (Nat.le_of_ble_eq_true rfl) fun fd g1 ib => ?_
  have fg := ff.x_puts g1 (.inr g3)
  have a2 : Blk fd cf.heap.size 64 [.slice e3 dt dw, .int .i64 cb] := ib
  have a0 := a0.x_puts g1 (Ne.symm co)
  refine Q0p (k := 0) (j := 0) a0 (Nat.le_of_ble_eq_true rfl) fun eg g7 gn => ?_
  have fm := fg.x_puts g7 (.inr g5)
  have a2 := a2.x_puts g7 co
  have a0 : Blk eg d6.heap.size 68 [.slice dx dq dn, .int .i64 ca] := gn
  have h := h eg (cf.heap.size) (d6.heap.size) fm (Priv.cons g3 a2.lt (Priv.cons g5 a0.lt Priv.nil))
  obtain ⟨I0, ie, h0, h⟩ := h
  refine ⟨fun k vs ww => ∃ (cc : Option Addr) (c9 ce : Nat) (au : Int) (c6 : Option Addr) (c7 c8 : Nat) (aq : Int), Blk ww cf.heap.size 64 [.slice cc c9 ce, .int .i64 au] ∧ Blk ww d6.heap.size 68 [.slice c6 c7 c8, .int .i64 aq] ∧ I0 k (vs ++ [.slice cc c9 ce, .int .i64 au, .slice c6 c7 c8, .int .i64 aq]) ww, ie, ⟨e3, dt, dw, cb, dx, dq, dn, ca, a2, a0, h0⟩, fun i8 e7 dv gz hI => ?_⟩
  obtain ⟨cc, c9, ce, au, c6, c7, c8, aq, a2, a0, hI⟩ := hI
  have h := h i8 e7 dv gz cc c9 ce au c6 c7 c8 aq hI
  refine bif_fo (fun fk => ?_) (fun fk => ?_)
  ·have h := h.2 (Int.not_lt.1 (of_decide_eq_false fk))
   exact h
  have h := h.1 (of_decide_eq_true fk)
  unfold Q05.J6
  refine Q01 fun cy f7 => ?_
  have df := (Ext.refl no e7).x_drew f7
  have a2 := a2.x_drew f7
  have a0 := a0.x_drew f7
  obtain ⟨gd, ep, h⟩ := h
  refine ⟨gd, (df).cell ep id, ?_⟩
  refine ⟨cc, c9, ce, au, ⟨a2.celli 0 rfl rfl, a2.celli 1 rfl rfl, trivial⟩, ?_⟩
  refine ⟨?_, ?_⟩
  focus
   have h := h cy [] df Priv.nil
   refine h.mono fun gu dc h => ?_
   obtain ⟨av, bg, ag, al, af, ah, ai, az, ax, aw, da, bz, he, hkL, hk, h⟩ := h
   refine ⟨av, bg, ag, al, af, ah, ai, az, ax, aw, da, bz, he, ?_⟩
   have a2 := hk.blk a2 (by simp)
   have a0 := hk.blk a0 (by simp)
   refine Q01 fun e9 f4 => ?_
   have a1 := Blk.of_new f4
   have f1 := ((Ext.refl (fun b => b ∈ ([] : List Nat)) dc)).size
   have cr := Nat.ne_of_lt a2.lt
   have a2 := a2.x_alloc f4
   have cn := Nat.ne_of_lt a0.lt
   have a0 := a0.x_alloc f4
   have fy := (Ext.refl (fun b => b ∈ ([] : List Nat)) dc).x_alloc f4
   refine Q0p (k := 0) (j := 0) a1 (Nat.le_of_ble_eq_true rfl) fun ds dp fe => ?_
   have e2 := fy.x_puts dp (.inr f1)
   have a2 := a2.x_puts dp cr
   have a0 := a0.x_puts dp cn
   have a1 : Blk ds dc.heap.size 72 [.int .i64 av, .int .i64 bg, .int .u64 ag, .int .i64 al, .slice af ah ai, .slice az ax aw] := fe
   unfold Q05.J5
   refine Q01 fun bb dd => ?_
   have dk := e2.x_drew dd
   have a2 := a2.x_drew dd
   have a0 := a0.x_drew dd
   have a1 := a1.x_drew dd
   have h := h bb (dc.heap.size) dk (PrivJ.cons (.inr f1) a1.lt PrivJ.nil)
   obtain ⟨fu, d8, h⟩ := h
   refine ⟨fu, d8, ?_⟩
   refine ⟨c6, c7, c8, aq, ⟨a0.celli 0 rfl rfl, a0.celli 1 rfl rfl, trivial⟩, ?_⟩
   refine ⟨?_, ?_⟩
   have h := h bb [] (Ext.refl no bb) Priv.nil
   refine h.mono fun ea bk h => ?_
   obtain ⟨ae, aj, a7, a8, a6, a5, a4, ac, ad, ab, bl, ap, he, hkL, hk, h⟩ := h
   refine ⟨ae, aj, a7, a8, a6, a5, a4, ac, ad, ab, bl, ap, he, ?_⟩
   have a2 := hk.blk a2 (by simp)
   have a0 := hk.blk a0 (by simp)
   have a1 := hk.blk a1 (by simp)
   refine Q01 fun cg br => ?_
   have a3 := Blk.of_new br
   have dg := ((Ext.refl (fun b => b ∈ ([] : List Nat)) bk)).size
   have bn := Nat.ne_of_lt a2.lt
   have a2 := a2.x_alloc br
   have bo := Nat.ne_of_lt a0.lt
   have a0 := a0.x_alloc br
   have c4 := Nat.ne_of_lt a1.lt
   have a1 := a1.x_alloc br
   have d4 := (Ext.refl (fun b => b ∈ ([] : List Nat)) bk).x_alloc br
   refine Q0p (k := 0) (j := 0) a3 (Nat.le_of_ble_eq_true rfl) fun b4 bc cj => ?_
   have bf := d4.x_puts bc (.inr dg)
   have a2 := a2.x_puts bc bn
   have a0 := a0.x_puts bc bo
   have a1 := a1.x_puts bc c4
   have a3 : Blk b4 bk.heap.size 77 [.int .i64 ae, .int .i64 aj, .int .u64 a7, .int .i64 a8, .slice a6 a5 a4, .slice ac ad ab] := cj
   unfold Q05.J4
   refine bif_of (fun bh => ?_) (fun bh => ?_)
   ·have h := h.1 (bne_t bh)
    have h := h b4 bf
    exact h
   have h := h.2 (bne_f bh)
   unfold Q05.J3
   refine ⟨cc, c9, ce, au, ⟨a2.celli 0 rfl rfl, a2.celli 1 rfl rfl, trivial⟩, ?_⟩
   refine ⟨av, bg, ag, al, af, ah, ai, az, ax, aw, ⟨a1.celli 0 rfl rfl, a1.celli 1 rfl rfl, a1.celli 2 rfl rfl, a1.celli 3 rfl rfl, a1.celli 4 rfl rfl, a1.celli 5 rfl rfl, trivial⟩, ?_⟩
   have h := h b4 (bk.heap.size) bf (PrivJ.cons (.inr dg) a3.lt PrivJ.nil)
   refine h.mono fun cz am h => ?_
   obtain ⟨ba, b7, b8, aa, b1, he, hk, h⟩ := h
   refine ⟨ba, b7, b8, aa, b1, he, ?_⟩
   have a2 := hk.blk a2 (by simp)
   have a0 := hk.blk a0 (by simp)
   have a1 := hk.blk a1 (by simp)
   have a3 := hk.blk a3 (by simp)
   refine Q01 fun d1 ao => ?_
   have b3 := Blk.of_new ao
   have cs := ((Ext.refl no am)).size
   have bq := Nat.ne_of_lt a2.lt
   have a2 := a2.x_alloc ao
   have c3 := Nat.ne_of_lt a0.lt
   have a0 := a0.x_alloc ao
   have bs := Nat.ne_of_lt a1.lt
   have a1 := a1.x_alloc ao
   have bx := Nat.ne_of_lt a3.lt
   have a3 := a3.x_alloc ao
   have c2 := (Ext.refl no am).x_alloc ao
   refine Q0p (k := 0) (j := 0) b3 (Nat.le_of_ble_eq_true rfl) fun be b0 ck => ?_
   have c1 := c2.x_puts b0 (.inr cs)
   have a2 := a2.x_puts b0 bq
   have a0 := a0.x_puts b0 c3
   have a1 := a1.x_puts b0 bs
   have a3 := a3.x_puts b0 bx
   have b3 : Blk be am.heap.size 64 [.slice ba b7 b8, .int .i64 aa] := ck
   refine ⟨c6, c7, c8, aq, ⟨a0.celli 0 rfl rfl, a0.celli 1 rfl rfl, trivial⟩, ?_⟩
   refine ⟨ae, aj, a7, a8, a6, a5, a4, ac, ad, ab, ⟨a3.celli 0 rfl rfl, a3.celli 1 rfl rfl, a3.celli 2 rfl rfl, a3.celli 3 rfl rfl, a3.celli 4 rfl rfl, a3.celli 5 rfl rfl, trivial⟩, ?_⟩
   have h := h be (am.heap.size) c1 (Priv.cons cs b3.lt Priv.nil)
   refine h.mono fun cu ar h => ?_
   obtain ⟨b6, b9, b5, a9, ay, he, hk, h⟩ := h
   refine ⟨b6, b9, b5, a9, ay, he, ?_⟩
   have a2 := hk.blk a2 (by simp)
   have a0 := hk.blk a0 (by simp)
   have a1 := hk.blk a1 (by simp)
   have a3 := hk.blk a3 (by simp)
   have b3 := hk.blk b3 (by simp)
   refine Q01 fun d9 ak => ?_
   have cd := Blk.of_new ak
   have dz := ((Ext.refl no ar)).size
   have bp := Nat.ne_of_lt a2.lt
   have a2 := a2.x_alloc ak
   have c5 := Nat.ne_of_lt a0.lt
   have a0 := a0.x_alloc ak
   have c0 := Nat.ne_of_lt a1.lt
   have a1 := a1.x_alloc ak
   have bv := Nat.ne_of_lt a3.lt
   have a3 := a3.x_alloc ak
   have bt := Nat.ne_of_lt b3.lt
   have b3 := b3.x_alloc ak
   have bu := (Ext.refl no ar).x_alloc ak
   refine Q0p (k := 0) (j := 0) cd (Nat.le_of_ble_eq_true rfl) fun b2 an ci => ?_
   have bd := bu.x_puts an (.inr dz)
   have a2 := a2.x_puts an bp
   have a0 := a0.x_puts an c5
   have a1 := a1.x_puts an c0
   have a3 := a3.x_puts an bv
   have b3 := b3.x_puts an bt
   have cd : Blk b2 ar.heap.size 68 [.slice b6 b9 b5, .int .i64 a9] := ci
   refine bif_of (fun bj => ?_) (fun bj => ?_)
   ·have h := h.1 (bne_t bj)
    have h := h b2 bd
    exact h
   have h := h.2 (bne_f bj)
   refine bif_of (fun bi => ?_) (fun bi => ?_)
   ·have h := h.1 (bne_t bi)
    have h := h b2 bd
    exact h
   have h := h.2 (bne_f bi)
   rotate_left
   refine Q01 fun d2 bw => ?_
   have a3 := Blk.of_new bw
   have dg := ((Ext.refl no bb)).size
   have bn := Nat.ne_of_lt a2.lt
   have a2 := a2.x_alloc bw
   have bo := Nat.ne_of_lt a0.lt
   have a0 := a0.x_alloc bw
   have c4 := Nat.ne_of_lt a1.lt
   have a1 := a1.x_alloc bw
   have ch := (Ext.refl no bb).x_alloc bw
   refine ⟨⟨a0.celli 0 rfl rfl, a0.celli 1 rfl rfl, trivial⟩, (ch).cell d8 id, ?_⟩
   have h := h d2 [bb.heap.size] ch (Priv.cons dg a3.lt Priv.nil)
   refine h.mono fun en cg h => ?_
   obtain ⟨ae, aj, a7, a8, a6, a5, a4, ac, ad, ab, ap, bm, he, hkL, hk, h⟩ := h
   refine ⟨ae, aj, a7, a8, a6, a5, a4, ac, ad, ab, ap, bm, he, ?_⟩
   have a3 := hkL.blk a3 (by simp)
   have a2 := hk.blk a2 (by simp)
   have a0 := hk.blk a0 (by simp)
   have a1 := hk.blk a1 (by simp)
   refine Q0p (k := 0) (j := 0) a3 (Nat.le_of_ble_eq_true rfl) fun b4 bc cj => ?_
   have bf := (Ext.refl (fun b => b ∈ ([bb.heap.size] : List Nat)) cg).x_puts bc (.inl (by simp))
   have a2 := a2.x_puts bc bn
   have a0 := a0.x_puts bc bo
   have a1 := a1.x_puts bc c4
   have a3 : Blk b4 bb.heap.size 77 [.int .i64 ae, .int .i64 aj, .int .u64 a7, .int .i64 a8, .slice a6 a5 a4, .slice ac ad ab] := cj
   unfold Q05.J4
   refine bif_of (fun bh => ?_) (fun bh => ?_)
   ·have h := h.1 (bne_t bh)
    have h := h b4 bf
    exact h
   have h := h.2 (bne_f bh)
   unfold Q05.J3
   refine ⟨cc, c9, ce, au, ⟨a2.celli 0 rfl rfl, a2.celli 1 rfl rfl, trivial⟩, ?_⟩
   refine ⟨av, bg, ag, al, af, ah, ai, az, ax, aw, ⟨a1.celli 0 rfl rfl, a1.celli 1 rfl rfl, a1.celli 2 rfl rfl, a1.celli 3 rfl rfl, a1.celli 4 rfl rfl, a1.celli 5 rfl rfl, trivial⟩, ?_⟩
   have h := h b4 (bb.heap.size) bf (PrivJ.cons (.inl (by simp)) a3.lt PrivJ.nil)
   refine h.mono fun cz am h => ?_
   obtain ⟨ba, b7, b8, aa, b1, he, hk, h⟩ := h
   refine ⟨ba, b7, b8, aa, b1, he, ?_⟩
   have a2 := hk.blk a2 (by simp)
   have a0 := hk.blk a0 (by simp)
   have a1 := hk.blk a1 (by simp)
   have a3 := hk.blk a3 (by simp)
   refine Q01 fun d1 ao => ?_
   have b3 := Blk.of_new ao
   have cs := ((Ext.refl no am)).size
   have bq := Nat.ne_of_lt a2.lt
   have a2 := a2.x_alloc ao
   have c3 := Nat.ne_of_lt a0.lt
   have a0 := a0.x_alloc ao
   have bs := Nat.ne_of_lt a1.lt
   have a1 := a1.x_alloc ao
   have bx := Nat.ne_of_lt a3.lt
   have a3 := a3.x_alloc ao
   have c2 := (Ext.refl no am).x_alloc ao
   refine Q0p (k := 0) (j := 0) b3 (Nat.le_of_ble_eq_true rfl) fun be b0 ck => ?_
   have c1 := c2.x_puts b0 (.inr cs)
   have a2 := a2.x_puts b0 bq
   have a0 := a0.x_puts b0 c3
   have a1 := a1.x_puts b0 bs
   have a3 := a3.x_puts b0 bx
   have b3 : Blk be am.heap.size 64 [.slice ba b7 b8, .int .i64 aa] := ck
   refine ⟨c6, c7, c8, aq, ⟨a0.celli 0 rfl rfl, a0.celli 1 rfl rfl, trivial⟩, ?_⟩
   refine ⟨ae, aj, a7, a8, a6, a5, a4, ac, ad, ab, ⟨a3.celli 0 rfl rfl, a3.celli 1 rfl rfl, a3.celli 2 rfl rfl, a3.celli 3 rfl rfl, a3.celli 4 rfl rfl, a3.celli 5 rfl rfl, trivial⟩, ?_⟩
   have h := h be (am.heap.size) c1 (Priv.cons cs b3.lt Priv.nil)
   refine h.mono fun cu ar h => ?_
   obtain ⟨b6, b9, b5, a9, ay, he, hk, h⟩ := h
   refine ⟨b6, b9, b5, a9, ay, he, ?_⟩
   have a2 := hk.blk a2 (by simp)
   have a0 := hk.blk a0 (by simp)
   have a1 := hk.blk a1 (by simp)
   have a3 := hk.blk a3 (by simp)
   have b3 := hk.blk b3 (by simp)
   refine Q01 fun d9 ak => ?_
   have cd := Blk.of_new ak
   have dz := ((Ext.refl no ar)).size
   have bp := Nat.ne_of_lt a2.lt
   have a2 := a2.x_alloc ak
   have c5 := Nat.ne_of_lt a0.lt
   have a0 := a0.x_alloc ak
   have c0 := Nat.ne_of_lt a1.lt
   have a1 := a1.x_alloc ak
   have bv := Nat.ne_of_lt a3.lt
   have a3 := a3.x_alloc ak
   have bt := Nat.ne_of_lt b3.lt
   have b3 := b3.x_alloc ak
   have bu := (Ext.refl no ar).x_alloc ak
   refine Q0p (k := 0) (j := 0) cd (Nat.le_of_ble_eq_true rfl) fun b2 an ci => ?_
   have bd := bu.x_puts an (.inr dz)
   have a2 := a2.x_puts an bp
   have a0 := a0.x_puts an c5
   have a1 := a1.x_puts an c0
   have a3 := a3.x_puts an bv
   have b3 := b3.x_puts an bt
   have cd : Blk b2 ar.heap.size 68 [.slice b6 b9 b5, .int .i64 a9] := ci
   refine bif_of (fun bj => ?_) (fun bj => ?_)
   ·have h := h.1 (bne_t bj)
    have h := h b2 bd
    exact h
   have h := h.2 (bne_f bj)
   refine bif_of (fun bi => ?_) (fun bi => ?_)
   ·have h := h.1 (bne_t bi)
    have h := h b2 bd
    exact h
   have h := h.2 (bne_f bi)
   rotate_left
  rotate_left 2
  focus
   refine Q01 fun fx f3 => ?_
   have a1 := Blk.of_new f3
   have f1 := (df).size
   have cr := Nat.ne_of_lt a2.lt
   have a2 := a2.x_alloc f3
   have cn := Nat.ne_of_lt a0.lt
   have a0 := a0.x_alloc f3
   have ez := df.x_alloc f3
   refine ⟨⟨a2.celli 0 rfl rfl, a2.celli 1 rfl rfl, trivial⟩, (ez).cell ep id, ?_⟩
   have h := h fx [cy.heap.size] ez (Priv.cons f1 a1.lt Priv.nil)
   refine h.mono fun i1 e9 h => ?_
   obtain ⟨av, bg, ag, al, af, ah, ai, az, ax, aw, bz, d5, he, hkL, hk, h⟩ := h
   refine ⟨av, bg, ag, al, af, ah, ai, az, ax, aw, bz, d5, he, ?_⟩
   have a1 := hkL.blk a1 (by simp)
   have a2 := hk.blk a2 (by simp)
   have a0 := hk.blk a0 (by simp)
   refine Q0p (k := 0) (j := 0) a1 (Nat.le_of_ble_eq_true rfl) fun ds dp fe => ?_
   have e2 := (Ext.refl (fun b => b ∈ ([cy.heap.size] : List Nat)) e9).x_puts dp (.inl (by simp))
   have a2 := a2.x_puts dp cr
   have a0 := a0.x_puts dp cn
   have a1 : Blk ds cy.heap.size 72 [.int .i64 av, .int .i64 bg, .int .u64 ag, .int .i64 al, .slice af ah ai, .slice az ax aw] := fe
   unfold Q05.J5
   refine Q01 fun bb dd => ?_
   have dk := e2.x_drew dd
   have a2 := a2.x_drew dd
   have a0 := a0.x_drew dd
   have a1 := a1.x_drew dd
   have h := h bb (cy.heap.size) dk (PrivJ.cons (.inl (by simp)) a1.lt PrivJ.nil)
   obtain ⟨fu, d8, h⟩ := h
   refine ⟨fu, d8, ?_⟩
   refine ⟨c6, c7, c8, aq, ⟨a0.celli 0 rfl rfl, a0.celli 1 rfl rfl, trivial⟩, ?_⟩
   refine ⟨?_, ?_⟩
   have h := h bb [] (Ext.refl no bb) Priv.nil
   refine h.mono fun ea bk h => ?_
   obtain ⟨ae, aj, a7, a8, a6, a5, a4, ac, ad, ab, bl, ap, he, hkL, hk, h⟩ := h
   refine ⟨ae, aj, a7, a8, a6, a5, a4, ac, ad, ab, bl, ap, he, ?_⟩
   have a2 := hk.blk a2 (by simp)
   have a0 := hk.blk a0 (by simp)
   have a1 := hk.blk a1 (by simp)
   refine Q01 fun cg br => ?_
   have a3 := Blk.of_new br
   have dg := ((Ext.refl (fun b => b ∈ ([] : List Nat)) bk)).size
   have bn := Nat.ne_of_lt a2.lt
   have a2 := a2.x_alloc br
   have bo := Nat.ne_of_lt a0.lt
   have a0 := a0.x_alloc br
   have c4 := Nat.ne_of_lt a1.lt
   have a1 := a1.x_alloc br
   have d4 := (Ext.refl (fun b => b ∈ ([] : List Nat)) bk).x_alloc br
   refine Q0p (k := 0) (j := 0) a3 (Nat.le_of_ble_eq_true rfl) fun b4 bc cj => ?_
   have bf := d4.x_puts bc (.inr dg)
   have a2 := a2.x_puts bc bn
   have a0 := a0.x_puts bc bo
   have a1 := a1.x_puts bc c4
   have a3 : Blk b4 bk.heap.size 77 [.int .i64 ae, .int .i64 aj, .int .u64 a7, .int .i64 a8, .slice a6 a5 a4, .slice ac ad ab] := cj
   unfold Q05.J4
   refine bif_of (fun bh => ?_) (fun bh => ?_)
   ·have h := h.1 (bne_t bh)
    have h := h b4 bf
    exact h
   have h := h.2 (bne_f bh)
   unfold Q05.J3
   refine ⟨cc, c9, ce, au, ⟨a2.celli 0 rfl rfl, a2.celli 1 rfl rfl, trivial⟩, ?_⟩
   refine ⟨av, bg, ag, al, af, ah, ai, az, ax, aw, ⟨a1.celli 0 rfl rfl, a1.celli 1 rfl rfl, a1.celli 2 rfl rfl, a1.celli 3 rfl rfl, a1.celli 4 rfl rfl, a1.celli 5 rfl rfl, trivial⟩, ?_⟩
   have h := h b4 (bk.heap.size) bf (PrivJ.cons (.inr dg) a3.lt PrivJ.nil)
   refine h.mono fun cz am h => ?_
   obtain ⟨ba, b7, b8, aa, b1, he, hk, h⟩ := h
   refine ⟨ba, b7, b8, aa, b1, he, ?_⟩
   have a2 := hk.blk a2 (by simp)
   have a0 := hk.blk a0 (by simp)
   have a1 := hk.blk a1 (by simp)
   have a3 := hk.blk a3 (by simp)
   refine Q01 fun d1 ao => ?_
   have b3 := Blk.of_new ao
   have cs := ((Ext.refl no am)).size
   have bq := Nat.ne_of_lt a2.lt
   have a2 := a2.x_alloc ao
   have c3 := Nat.ne_of_lt a0.lt
   have a0 := a0.x_alloc ao
   have bs := Nat.ne_of_lt a1.lt
   have a1 := a1.x_alloc ao
   have bx := Nat.ne_of_lt a3.lt
   have a3 := a3.x_alloc ao
   have c2 := (Ext.refl no am).x_alloc ao
   refine Q0p (k := 0) (j := 0) b3 (Nat.le_of_ble_eq_true rfl) fun be b0 ck => ?_
   have c1 := c2.x_puts b0 (.inr cs)
   have a2 := a2.x_puts b0 bq
   have a0 := a0.x_puts b0 c3
   have a1 := a1.x_puts b0 bs
   have a3 := a3.x_puts b0 bx
   have b3 : Blk be am.heap.size 64 [.slice ba b7 b8, .int .i64 aa] := ck
   refine ⟨c6, c7, c8, aq, ⟨a0.celli 0 rfl rfl, a0.celli 1 rfl rfl, trivial⟩, ?_⟩
   refine ⟨ae, aj, a7, a8, a6, a5, a4, ac, ad, ab, ⟨a3.celli 0 rfl rfl, a3.celli 1 rfl rfl, a3.celli 2 rfl rfl, a3.celli 3 rfl rfl, a3.celli 4 rfl rfl, a3.celli 5 rfl rfl, trivial⟩, ?_⟩
   have h := h be (am.heap.size) c1 (Priv.cons cs b3.lt Priv.nil)
   refine h.mono fun cu ar h => ?_
   obtain ⟨b6, b9, b5, a9, ay, he, hk, h⟩ := h
   refine ⟨b6, b9, b5, a9, ay, he, ?_⟩
   have a2 := hk.blk a2 (by simp)
   have a0 := hk.blk a0 (by simp)
   have a1 := hk.blk a1 (by simp)
   have a3 := hk.blk a3 (by simp)
   have b3 := hk.blk b3 (by simp)
   refine Q01 fun d9 ak => ?_
   have cd := Blk.of_new ak
   have dz := ((Ext.refl no ar)).size
   have bp := Nat.ne_of_lt a2.lt
   have a2 := a2.x_alloc ak
   have c5 := Nat.ne_of_lt a0.lt
   have a0 := a0.x_alloc ak
   have c0 := Nat.ne_of_lt a1.lt
   have a1 := a1.x_alloc ak
   have bv := Nat.ne_of_lt a3.lt
   have a3 := a3.x_alloc ak
   have bt := Nat.ne_of_lt b3.lt
   have b3 := b3.x_alloc ak
   have bu := (Ext.refl no ar).x_alloc ak
   refine Q0p (k := 0) (j := 0) cd (Nat.le_of_ble_eq_true rfl) fun b2 an ci => ?_
   have bd := bu.x_puts an (.inr dz)
   have a2 := a2.x_puts an bp
   have a0 := a0.x_puts an c5
   have a1 := a1.x_puts an c0
   have a3 := a3.x_puts an bv
   have b3 := b3.x_puts an bt
   have cd : Blk b2 ar.heap.size 68 [.slice b6 b9 b5, .int .i64 a9] := ci
   refine bif_of (fun bj => ?_) (fun bj => ?_)
   ·have h := h.1 (bne_t bj)
    have h := h b2 bd
    exact h
   have h := h.2 (bne_f bj)
   refine bif_of (fun bi => ?_) (fun bi => ?_)
   ·have h := h.1 (bne_t bi)
    have h := h b2 bd
    exact h
   have h := h.2 (bne_f bi)
   rotate_left
   refine Q01 fun d2 bw => ?_
   have a3 := Blk.of_new bw
   have dg := ((Ext.refl no bb)).size
   have bn := Nat.ne_of_lt a2.lt
   have a2 := a2.x_alloc bw
   have bo := Nat.ne_of_lt a0.lt
   have a0 := a0.x_alloc bw
   have c4 := Nat.ne_of_lt a1.lt
   have a1 := a1.x_alloc bw
   have ch := (Ext.refl no bb).x_alloc bw
   refine ⟨⟨a0.celli 0 rfl rfl, a0.celli 1 rfl rfl, trivial⟩, (ch).cell d8 id, ?_⟩
   have h := h d2 [bb.heap.size] ch (Priv.cons dg a3.lt Priv.nil)
   refine h.mono fun en cg h => ?_
   obtain ⟨ae, aj, a7, a8, a6, a5, a4, ac, ad, ab, ap, bm, he, hkL, hk, h⟩ := h
   refine ⟨ae, aj, a7, a8, a6, a5, a4, ac, ad, ab, ap, bm, he, ?_⟩
   have a3 := hkL.blk a3 (by simp)
   have a2 := hk.blk a2 (by simp)
   have a0 := hk.blk a0 (by simp)
   have a1 := hk.blk a1 (by simp)
   refine Q0p (k := 0) (j := 0) a3 (Nat.le_of_ble_eq_true rfl) fun b4 bc cj => ?_
   have bf := (Ext.refl (fun b => b ∈ ([bb.heap.size] : List Nat)) cg).x_puts bc (.inl (by simp))
   have a2 := a2.x_puts bc bn
   have a0 := a0.x_puts bc bo
   have a1 := a1.x_puts bc c4
   have a3 : Blk b4 bb.heap.size 77 [.int .i64 ae, .int .i64 aj, .int .u64 a7, .int .i64 a8, .slice a6 a5 a4, .slice ac ad ab] := cj
   unfold Q05.J4
   refine bif_of (fun bh => ?_) (fun bh => ?_)
   ·have h := h.1 (bne_t bh)
    have h := h b4 bf
    exact h
   have h := h.2 (bne_f bh)
   unfold Q05.J3
   refine ⟨cc, c9, ce, au, ⟨a2.celli 0 rfl rfl, a2.celli 1 rfl rfl, trivial⟩, ?_⟩
   refine ⟨av, bg, ag, al, af, ah, ai, az, ax, aw, ⟨a1.celli 0 rfl rfl, a1.celli 1 rfl rfl, a1.celli 2 rfl rfl, a1.celli 3 rfl rfl, a1.celli 4 rfl rfl, a1.celli 5 rfl rfl, trivial⟩, ?_⟩
   have h := h b4 (bb.heap.size) bf (PrivJ.cons (.inl (by simp)) a3.lt PrivJ.nil)
   refine h.mono fun cz am h => ?_
   obtain ⟨ba, b7, b8, aa, b1, he, hk, h⟩ := h
   refine ⟨ba, b7, b8, aa, b1, he, ?_⟩
   have a2 := hk.blk a2 (by simp)
   have a0 := hk.blk a0 (by simp)
   have a1 := hk.blk a1 (by simp)
   have a3 := hk.blk a3 (by simp)
   refine Q01 fun d1 ao => ?_
   have b3 := Blk.of_new ao
   have cs := ((Ext.refl no am)).size
   have bq := Nat.ne_of_lt a2.lt
   have a2 := a2.x_alloc ao
   have c3 := Nat.ne_of_lt a0.lt
   have a0 := a0.x_alloc ao
   have bs := Nat.ne_of_lt a1.lt
   have a1 := a1.x_alloc ao
   have bx := Nat.ne_of_lt a3.lt
   have a3 := a3.x_alloc ao
   have c2 := (Ext.refl no am).x_alloc ao
   refine Q0p (k := 0) (j := 0) b3 (Nat.le_of_ble_eq_true rfl) fun be b0 ck => ?_
   have c1 := c2.x_puts b0 (.inr cs)
   have a2 := a2.x_puts b0 bq
   have a0 := a0.x_puts b0 c3
   have a1 := a1.x_puts b0 bs
   have a3 := a3.x_puts b0 bx
   have b3 : Blk be am.heap.size 64 [.slice ba b7 b8, .int .i64 aa] := ck
   refine ⟨c6, c7, c8, aq, ⟨a0.celli 0 rfl rfl, a0.celli 1 rfl rfl, trivial⟩, ?_⟩
   refine ⟨ae, aj, a7, a8, a6, a5, a4, ac, ad, ab, ⟨a3.celli 0 rfl rfl, a3.celli 1 rfl rfl, a3.celli 2 rfl rfl, a3.celli 3 rfl rfl, a3.celli 4 rfl rfl, a3.celli 5 rfl rfl, trivial⟩, ?_⟩
   have h := h be (am.heap.size) c1 (Priv.cons cs b3.lt Priv.nil)
   refine h.mono fun cu ar h => ?_
   obtain ⟨b6, b9, b5, a9, ay, he, hk, h⟩ := h
   refine ⟨b6, b9, b5, a9, ay, he, ?_⟩
   have a2 := hk.blk a2 (by simp)
   have a0 := hk.blk a0 (by simp)
   have a1 := hk.blk a1 (by simp)
   have a3 := hk.blk a3 (by simp)
   have b3 := hk.blk b3 (by simp)
   refine Q01 fun d9 ak => ?_
   have cd := Blk.of_new ak
   have dz := ((Ext.refl no ar)).size
   have bp := Nat.ne_of_lt a2.lt
   have a2 := a2.x_alloc ak
   have c5 := Nat.ne_of_lt a0.lt
   have a0 := a0.x_alloc ak
   have c0 := Nat.ne_of_lt a1.lt
   have a1 := a1.x_alloc ak
   have bv := Nat.ne_of_lt a3.lt
   have a3 := a3.x_alloc ak
   have bt := Nat.ne_of_lt b3.lt
   have b3 := b3.x_alloc ak
   have bu := (Ext.refl no ar).x_alloc ak
   refine Q0p (k := 0) (j := 0) cd (Nat.le_of_ble_eq_true rfl) fun b2 an ci => ?_
   have bd := bu.x_puts an (.inr dz)
   have a2 := a2.x_puts an bp
   have a0 := a0.x_puts an c5
   have a1 := a1.x_puts an c0
   have a3 := a3.x_puts an bv
   have b3 := b3.x_puts an bt
   have cd : Blk b2 ar.heap.size 68 [.slice b6 b9 b5, .int .i64 a9] := ci
   refine bif_of (fun bj => ?_) (fun bj => ?_)
   ·have h := h.1 (bne_t bj)
    have h := h b2 bd
    exact h
   have h := h.2 (bne_f bj)
   refine bif_of (fun bi => ?_) (fun bi => ?_)
   ·have h := h.1 (bne_t bi)
    have h := h b2 bd
    exact h
   have h := h.2 (bne_f bi)
   rotate_left
  rotate_left 2
  all_goals
   unfold Q05.J2
   refine Q01 fun ej cl => ?_
   have es := bd.x_drew cl
   have a2 := a2.x_drew cl
   have a0 := a0.x_drew cl
   have a1 := a1.x_drew cl
   have a3 := a3.x_drew cl
   have b3 := b3.x_drew cl
   have cd := cd.x_drew cl
   refine ⟨ba, b7, b8, aa, ⟨b3.celli 0 rfl rfl, b3.celli 1 rfl rfl, trivial⟩, ?_⟩
   refine ⟨b6, b9, b5, a9, ⟨cd.celli 0 rfl rfl, cd.celli 1 rfl rfl, trivial⟩, ?_⟩
   have el : Ext (fun b => b = cf.heap.size) ar ej := (es).none
   refine Q0p (k := 0) (j := 0) a2 (Nat.le_of_ble_eq_true rfl) fun di cv fl => ?_
   have ei := el.x_puts cv (.inl rfl)
   have a2 : Blk di cf.heap.size 64 [.slice ba b7 b8, .int .i64 aa] := fl
   have a0 := a0.x_puts cv (Ne.symm co)
   have a1 := a1.x_puts cv (Ne.symm cr)
   have a3 := a3.x_puts cv (Ne.symm bn)
   have cd := cd.x_puts cv (Ne.symm bp)
   refine ⟨⟨cd.celli 0 rfl rfl, cd.celli 1 rfl rfl, trivial⟩, ?_⟩
   have eu : Ext (fun b => b = d6.heap.size ∨ b = cf.heap.size) ar di := (ei).mono fun _ h _ => .inr h
   refine Q0p (k := 0) (j := 0) a0 (Nat.le_of_ble_eq_true rfl) fun ev de ft => ?_
   have f0 := eu.x_puts de (.inl (.inl rfl))
   have a2 := a2.x_puts de co
   have a0 : Blk ev d6.heap.size 68 [.slice b6 b9 b5, .int .i64 a9] := ft
   have a1 := a1.x_puts de (Ne.symm cn)
   have a3 := a3.x_puts de (Ne.symm bo)
   unfold Q05.J1
   refine Q01 fun eh ct => ?_
   have eb := f0.x_drew ct
   have a2 := a2.x_drew ct
   have a0 := a0.x_drew ct
   have a1 := a1.x_drew ct
   have a3 := a3.x_drew ct
   have h := h eh eb
   obtain ⟨fq, eq, h⟩ := h
   refine ⟨fq, eq, ?_⟩
   refine ⟨av, bg, ag, al, af, ah, ai, az, ax, aw, ⟨a1.celli 0 rfl rfl, a1.celli 1 rfl rfl, a1.celli 2 rfl rfl, a1.celli 3 rfl rfl, a1.celli 4 rfl rfl, a1.celli 5 rfl rfl, trivial⟩, ?_⟩
   refine h.mono fun g2 ew h => ?_
   obtain ⟨cx, he, hk, h⟩ := h
   refine ⟨cx, he, ?_⟩
   have a2 := hk.blk a2 (by simp)
   have a0 := hk.blk a0 (by simp)
   have a1 := hk.blk a1 (by simp)
   have a3 := hk.blk a3 (by simp)
   refine Q01 fun ef d0 => ?_
   have dh := (Ext.refl no ew).x_drew d0
   have a2 := a2.x_drew d0
   have a0 := a0.x_drew d0
   have a1 := a1.x_drew d0
   have a3 := a3.x_drew d0
   obtain ⟨fp, em, h⟩ := h
   refine ⟨fp, (dh).cell em id, ?_⟩
   refine ⟨av, bg, ag, al, af, ah, ai, az, ax, aw, ⟨a1.celli 0 rfl rfl, a1.celli 1 rfl rfl, a1.celli 2 rfl rfl, a1.celli 3 rfl rfl, a1.celli 4 rfl rfl, a1.celli 5 rfl rfl, trivial⟩, ?_⟩
   have h := h ef dh
   refine h.mono fun g9 ey h => ?_
   obtain ⟨d7, he, hk, h⟩ := h
   refine ⟨d7, he, ?_⟩
   have a2 := hk.blk a2 (by simp)
   have a0 := hk.blk a0 (by simp)
   have a3 := hk.blk a3 (by simp)
   refine Q01 fun er db => ?_
   have cw := (Ext.refl no ey).x_drew db
   have a2 := a2.x_drew db
   have a0 := a0.x_drew db
   have a3 := a3.x_drew db
   obtain ⟨fv, ec, h⟩ := h
   refine ⟨fv, (cw).cell ec id, ?_⟩
   obtain ⟨fh, eo, h⟩ := h
   refine ⟨fh, (cw).cell eo id, ?_⟩
   refine ⟨ae, aj, a7, a8, a6, a5, a4, ac, ad, ab, ⟨a3.celli 0 rfl rfl, a3.celli 1 rfl rfl, a3.celli 2 rfl rfl, a3.celli 3 rfl rfl, a3.celli 4 rfl rfl, a3.celli 5 rfl rfl, trivial⟩, ?_⟩
   have h := h er cw
   refine h.mono fun g6 g8 h => ?_
   obtain ⟨d3, he, hk, h⟩ := h
   refine ⟨d3, he, ?_⟩
   have a2 := hk.blk a2 (by simp)
   have a0 := hk.blk a0 (by simp)
   obtain ⟨gx, i2, h⟩ := h
   try rw [w64 gx i2]
   obtain ⟨f8, hk, h⟩ := h
   exact ⟨f8, hk, ba, b7, b8, aa, b6, b9, b5, a9, a2, a0, h⟩

theorem Q05.go (a0 : Option Addr) (a2 a1 : Nat) (a3 : Int) {R : RW} {w : World} (h : Q05.N a0 a2 a1 a3 R w) : Calls Try.prog 7 #[.slice a0 a2 a1, .int .i64 a3] w fun e w' => ∃ v, e = .returned v ∧ R v w' := Q05.ok a0 a2 a1 a3 (Q05.up a0 a2 a1 a3 h)
abbrev Q0x.J1 (bq : Int) (bv : Option Addr) (bp bu : Nat) (bd : Option Addr) (R : RW) (a8 : World) : Prop :=
 thenW (a8.alloc (.cells #[.int .i64 0, .int .i64 0, .int .u64 0, .int .i64 0, .int .i64 0, .int .i64 0, .slice none 0 0, .int .u64 0] 42)) fun bg =>
 putsK bg (blk a8.heap.size) [.int .i64 1, .int .i64 0, .int .u64 0, .int .i64 1, .int .i64 1, .int .i64 0, .slice bv bp bu, .int .u64 0] 0 fun be =>
 thenW (be.drew) fun b8 =>
 bd.elim False fun bo =>
 ∃ (bj : Option Addr), b8.cell? (bo.add 0) = some (.pointer bj) ∧
 bd.elim False fun bt =>
 ∃ (bm : Option Addr), b8.cell? (bt.add 2) = some (.pointer bm) ∧
 ∃ (a5 af aq b4 b5 a9 : Int) (ah : Option Addr) (ai al : Nat) (b0 : Int), cellsAt b8 (blk a8.heap.size) [.int .i64 a5, .int .i64 af, .int .u64 aq, .int .i64 b4, .int .i64 b5, .int .i64 a9, .slice ah ai al, .int .u64 b0] 0 ∧
 Calls Try.prog 9 #[.pointer bj, .pointer bm, .agg #[.int .i64 a5, .int .i64 af, .int .u64 aq, .int .i64 b4, .int .i64 b5, .int .i64 a9, .slice ah ai al, .int .u64 b0]] b8 fun bh bc => ∃ (ab : Option Addr) (ac ag : Nat) (ao : Int), bh = .returned (.tuple #[.slice ab ac ag, .int .i64 ao]) ∧
 Q0d bc (((blk a8.heap.size).add 1).add 0) ∧
 thenW (bc.setCell (((blk a8.heap.size).add 1).add 0) (.int .i64 1)) fun b9 =>
 Q0d b9 (((blk a8.heap.size).add 2).add 0) ∧
 thenW (b9.setCell (((blk a8.heap.size).add 2).add 0) (.int .u64 5)) fun bf =>
 thenW (bf.drew) fun b7 =>
 bd.elim False fun br =>
 ∃ (bn : Option Addr), b7.cell? (br.add 0) = some (.pointer bn) ∧
 bd.elim False fun bs =>
 ∃ (bl : Option Addr), b7.cell? (bs.add 2) = some (.pointer bl) ∧
 ∃ (a7 aa av az aw aj : Int) (ak : Option Addr) (ae ad : Nat) (ax : Int), cellsAt b7 (blk a8.heap.size) [.int .i64 a7, .int .i64 aa, .int .u64 av, .int .i64 az, .int .i64 aw, .int .i64 aj, .slice ak ae ad, .int .u64 ax] 0 ∧
 Calls Try.prog 9 #[.pointer bn, .pointer bl, .agg #[.int .i64 a7, .int .i64 aa, .int .u64 av, .int .i64 az, .int .i64 aw, .int .i64 aj, .slice ak ae ad, .int .u64 ax]] b7 fun bi an => ∃ (b3 : Option Addr) (ay b1 : Nat) (au : Int), bi = .returned (.tuple #[.slice b3 ay b1, .int .i64 au]) ∧
 bif bq == 0 then (
 bif ao == 0 then (
 ∃ (bk : ByteArray), (convert 25 9 (.slice ab ac ag)).run Try.prog an = .ok (.string bk) an ∧
 bif bk.toList == (ByteArray.mk #[120]).toList then (
 bif au == 5 then (
 ∃ (a0 am ar b2 b6 a2 : Int) (a6 : Option Addr) (a1 a4 : Nat) (ap : Int), cellsAt an (blk a8.heap.size) [.int .i64 a0, .int .i64 am, .int .u64 ar, .int .i64 b2, .int .i64 b6, .int .i64 a2, .slice a6 a1 a4, .int .u64 ap] 0 ∧
 Calls Try.prog 12 #[.agg #[.int .i64 a0, .int .i64 am, .int .u64 ar, .int .i64 b2, .int .i64 b6, .int .i64 a2, .slice a6 a1 a4, .int .u64 ap]] an fun bb ba => ∃ (a3 : Int), bb = .returned (.int .i64 a3) ∧
 R (.bool (a3 == 0)) ba) else (
 R (.bool false) an)) else (
 R (.bool false) an)) else (
 R (.bool false) an)) else (
 R (.bool false) an)

abbrev Q0x.J2 (j6 : Option Addr) (R : RW) (ag : World) : Prop :=
 thenW (ag.drew) fun ab =>
 j6.elim False fun ac =>
 ∃ (aa : Option Addr), ab.cell? (ac.add 0) = some (.pointer aa) ∧
 j6.elim False fun ae =>
 ∃ (a9 : Option Addr), ab.cell? (ae.add 2) = some (.pointer a9) ∧
 thenW (ab.alloc (.cells #[.int .u8 120] 5)) fun a5 =>
 a5.cell? (ae.add 2) = some (.pointer a9) ∧
 a5.cell? (ac.add 0) = some (.pointer aa) ∧
 ∃ (a8 : Option Addr) (a6 a7 : Nat) (a4 : World), (convert 25 25 (.slice (some (blk ab.heap.size)) 1 1)).run Try.prog a5 = .ok (.slice a8 a6 a7) a4 ∧
 a4.cell? (ae.add 2) = some (.pointer a9) ∧
 a4.cell? (ac.add 0) = some (.pointer aa) ∧
 Calls Try.prog 8 #[.pointer aa, .pointer a9, .int .i64 1, .int .i64 0, .int .i64 0, .slice a8 a6 a7] a4 fun ad af => ∃ (a2 : Option Addr) (a1 a0 : Nat) (a3 : Int), ad = .returned (.tuple #[.slice a2 a1 a0, .int .i64 a3]) ∧
 Q0x.J1 a3 a2 a1 a0 j6 R af

def Q0x.M  (R : RW) (w : World) : Prop :=
 Calls Try.prog 7 #[.slice none 0 0, .int .i64 1] w fun a2 a1 => ∃ (a0 : Option Addr), a2 = .returned (.pointer a0) ∧
 bif Option.isNone a0 then (
 R (.bool false) a1) else (
 Q0x.J2 a0 R a1)

theorem Q0x.ok  {R : RW} {w : World} (h : Q0x.M  R w) : Calls Try.prog 6 #[] w fun e w' => ∃ v, e = .returned v ∧ R v w' :=
  Q0i follows (H := []) (args := []) (cast (by kernel_rfl) h)

def Q0x.N  (R : RW) (w : World) : Prop :=
 Calls Try.prog 7 #[.slice none 0 0, .int .i64 1] w fun b5 al => ∃ (a0 : Option Addr), b5 = .returned (.pointer a0) ∧
 (a0 = none →
 R (.bool false) al) ∧
 (a0 ≠ none →
 ∃ a6 : Addr, a0 = some a6 ∧
 ∃ (o8 : Option Addr), al.cell? (a6.add 0) = some (.pointer o8) ∧
 ∃ (ar : Option Addr), al.cell? (a6.add 2) = some (.pointer ar) ∧
 ∀ (ad : World) (aq : Nat), Ext no al ad → Blk ad aq 5 [.int .u8 120] → al.heap.size ≤ aq → aq < ad.heap.size →
 ad.cell? (a6.add 2) = some (.pointer ar) ∧
 ad.cell? (a6.add 0) = some (.pointer o8) ∧
 ∃ (ap : Option Addr) (an ao : Nat) (aj : World), (convert 25 25 (.slice (some (blk aq)) 1 1)).run Try.prog ad = .ok (.slice ap an ao) aj ∧
 aj.cell? (a6.add 2) = some (.pointer ar) ∧
 aj.cell? (a6.add 0) = some (.pointer o8) ∧
 Calls Try.prog 8 #[.pointer o8, .pointer ar, .int .i64 1, .int .i64 0, .int .i64 0, .slice ap an ao] aj fun ay ai => ∃ (a2 : Option Addr) (a3 a1 : Nat) (a5 : Int), ay = .returned (.tuple #[.slice a2 a3 a1, .int .i64 a5]) ∧
 ∃ (b3 : Option Addr), ai.cell? (a6.add 0) = some (.pointer b3) ∧
 ∃ (b4 : Option Addr), ai.cell? (a6.add 2) = some (.pointer b4) ∧
 ∀ (ak : World) (au : Nat), Ext no ai ak → Priv ai ak [au] →
 Calls Try.prog 9 #[.pointer b3, .pointer b4, .agg #[.int .i64 1, .int .i64 0, .int .u64 0, .int .i64 1, .int .i64 1, .int .i64 0, .slice a2 a3 a1, .int .u64 0]] ak fun aw am => ∃ (ab : Option Addr) (a8 a9 : Nat) (a7 : Int), aw = .returned (.tuple #[.slice ab a8 a9, .int .i64 a7]) ∧
 Keep [au] ak am ∧
 ∀ (ah : World), Ext (fun b => b = au) am ah →
 ∃ (b1 : Option Addr), ah.cell? (a6.add 0) = some (.pointer b1) ∧
 ∃ (b2 : Option Addr), ah.cell? (a6.add 2) = some (.pointer b2) ∧
 Calls Try.prog 9 #[.pointer b1, .pointer b2, .agg #[.int .i64 1, .int .i64 1, .int .u64 5, .int .i64 1, .int .i64 1, .int .i64 0, .slice a2 a3 a1, .int .u64 0]] ah fun ax ac => ∃ (af : Option Addr) (ae ag : Nat) (a4 : Int), ax = .returned (.tuple #[.slice af ae ag, .int .i64 a4]) ∧
 Keep [au] ah ac ∧
 (a5 = 0 →
 (a7 = 0 →
 ∃ (az : ByteArray), (convert 25 9 (.slice ab a8 a9)).run Try.prog ac = .ok (.string az) ac ∧
 (az.toList = (ByteArray.mk #[120]).toList →
 (a4 = 5 →
 Calls Try.prog 12 #[.agg #[.int .i64 1, .int .i64 1, .int .u64 5, .int .i64 1, .int .i64 1, .int .i64 0, .slice a2 a3 a1, .int .u64 0]] ac fun b0 av => ∃ (aa : Int), b0 = .returned (.int .i64 aa) ∧
 R (.bool (aa == 0)) av) ∧
 (a4 ≠ 5 →
 R (.bool false) ac)) ∧
 (az.toList ≠ (ByteArray.mk #[120]).toList →
 R (.bool false) ac)) ∧
 (a7 ≠ 0 →
 R (.bool false) ac)) ∧
 (a5 ≠ 0 →
 R (.bool false) ac))

theorem Q0x.up  {R : RW} {w : World} (h : Q0x.N  R w) : Q0x.M  R w := by
  unfold Q0x.M
  unfold Q0x.N at h
  refine h.mono fun c8 bt h => ?_
  obtain ⟨a8, he, h⟩ := h
  refine ⟨a8, he, ?_⟩
  refine bif_of (fun c4 => ?_) (fun c4 => ?_)
  ·have h := h.1 (Q1y c4)
   exact h
  have h := h.2 (Q1w c4)
  unfold Q0x.J2
  refine Q01 fun bv e5 => ?_
  have ak := (Ext.refl no bt).x_drew e5
  obtain ⟨a6, aj, h⟩ := h
  refine Q06 aj ?_
  obtain ⟨o8, bw, h⟩ := h
  refine ⟨o8, (ak).cell bw id, ?_⟩
  refine Q06 aj ?_
  obtain ⟨c2, br, h⟩ := h
  refine ⟨c2, (ak).cell br id, ?_⟩
  refine Q01 fun b1 b0 => ?_
  have h := h b1 bv.heap.size (ak.x_alloc b0) (Blk.of_new b0) (ak).size (Q0w b0)
  obtain ⟨ax, an, h⟩ := h
  refine ⟨ax, an, ?_⟩
  obtain ⟨b3, ba, bb, au, hr, h⟩ := h
  refine ⟨b3, ba, bb, au, hr, ?_⟩
  obtain ⟨bd, ap, h⟩ := h
  refine ⟨bd, ap, ?_⟩
  refine h.mono fun c7 a4 h => ?_
  obtain ⟨a1, a2, a0, af, he, h⟩ := h
  refine ⟨a1, a2, a0, af, he, ?_⟩
  unfold Q0x.J1
  refine Q01 fun bu bk => ?_
  have a3 := Blk.of_new bk
  have bl := ((Ext.refl no a4)).size
  have aw := (Ext.refl no a4).x_alloc bk
  refine Q0p (k := 0) (j := 0) a3 (Nat.le_of_ble_eq_true rfl) fun ar c1 c0 => ?_
  have b5 := aw.x_puts c1 (.inr bl)
  have a3 : Blk ar a4.heap.size 42 [.int .i64 1, .int .i64 0, .int .u64 0, .int .i64 1, .int .i64 1, .int .i64 0, .slice a1 a2 a0, .int .u64 0] := c0
  refine Q01 fun ay bi => ?_
  have ah := b5.x_drew bi
  have a3 := a3.x_drew bi
  refine Q06 aj ?_
  obtain ⟨bx, al, h⟩ := h
  refine ⟨bx, (ah).cell al id, ?_⟩
  refine Q06 aj ?_
  obtain ⟨bz, ao, h⟩ := h
  refine ⟨bz, (ah).cell ao id, ?_⟩
  refine ⟨1, 0, 0, 1, 1, 0, a1, a2, a0, 0, ⟨a3.celli 0 rfl rfl, a3.celli 1 rfl rfl, a3.celli 2 rfl rfl, a3.celli 3 rfl rfl, a3.celli 4 rfl rfl, a3.celli 5 rfl rfl, a3.celli 6 rfl rfl, a3.celli 7 rfl rfl, trivial⟩, ?_⟩
  have h := h ay (a4.heap.size) ah (Priv.cons bl a3.lt Priv.nil)
  refine h.mono fun bp ai h => ?_
  obtain ⟨ab, a5, a7, ag, he, hk, h⟩ := h
  refine ⟨ab, a5, a7, ag, he, ?_⟩
  have a3 := hk.blk a3 (by simp)
  have b7 : Ext (fun b => b = a4.heap.size) ai ai := ((Ext.refl no ai)).none
  refine ⟨a3.cani 1 rfl rfl, Q01 fun bc bj => ?_⟩
  have bf := b7.x_set (q := a4.heap.size) (i := 1) rfl (.inl rfl) bj
  have a3 : Blk bc a4.heap.size 42 [.int .i64 1, .int .i64 1, .int .u64 0, .int .i64 1, .int .i64 1, .int .i64 0, .slice a1 a2 a0, .int .u64 0] := a3.seti 1 rfl bj
  refine ⟨a3.cani 2 rfl rfl, Q01 fun aq bm => ?_⟩
  have av := bf.x_set (q := a4.heap.size) (i := 2) rfl (.inl rfl) bm
  have a3 : Blk aq a4.heap.size 42 [.int .i64 1, .int .i64 1, .int .u64 5, .int .i64 1, .int .i64 1, .int .i64 0, .slice a1 a2 a0, .int .u64 0] := a3.seti 2 rfl bm
  refine Q01 fun be bh => ?_
  have az := av.x_drew bh
  have a3 := a3.x_drew bh
  refine Q06 aj ?_
  have h := h be az
  obtain ⟨bo, b2, h⟩ := h
  refine ⟨bo, b2, ?_⟩
  refine Q06 aj ?_
  obtain ⟨bs, am, h⟩ := h
  refine ⟨bs, am, ?_⟩
  refine ⟨1, 1, 5, 1, 1, 0, a1, a2, a0, 0, ⟨a3.celli 0 rfl rfl, a3.celli 1 rfl rfl, a3.celli 2 rfl rfl, a3.celli 3 rfl rfl, a3.celli 4 rfl rfl, a3.celli 5 rfl rfl, a3.celli 6 rfl rfl, a3.celli 7 rfl rfl, trivial⟩, ?_⟩
  refine h.mono fun bq c5 h => ?_
  obtain ⟨ac, a9, ad, ae, he, hk, h⟩ := h
  refine ⟨ac, a9, ad, ae, he, ?_⟩
  have a3 := hk.blk a3 (by simp)
  refine bif_fo (fun b4 => ?_) (fun b4 => ?_)
  ·have h := h.2 (beq_f b4)
   exact h
  have h := h.1 (beq_t b4)
  refine bif_fo (fun b6 => ?_) (fun b6 => ?_)
  ·have h := h.2 (beq_f b6)
   exact h
  have h := h.1 (beq_t b6)
  obtain ⟨c3, b8, h⟩ := h
  refine ⟨c3, b8, ?_⟩
  refine bif_fo (fun b9 => ?_) (fun b9 => ?_)
  ·have h := h.2 (lbeq_f b9)
   exact h
  have h := h.1 (lbeq_t b9)
  refine bif_fo (fun bg => ?_) (fun bg => ?_)
  ·have h := h.2 (beq_f bg)
   exact h
  have h := h.1 (beq_t bg)
  refine ⟨1, 1, 5, 1, 1, 0, a1, a2, a0, 0, ⟨a3.celli 0 rfl rfl, a3.celli 1 rfl rfl, a3.celli 2 rfl rfl, a3.celli 3 rfl rfl, a3.celli 4 rfl rfl, a3.celli 5 rfl rfl, a3.celli 6 rfl rfl, a3.celli 7 rfl rfl, trivial⟩, ?_⟩
  refine h.mono fun c6 bn h => ?_
  obtain ⟨aa, he, h⟩ := h
  refine ⟨aa, he, ?_⟩
  exact h

theorem Q0x.go  {R : RW} {w : World} (h : Q0x.N  R w) : Calls Try.prog 6 #[] w fun e w' => ∃ v, e = .returned v ∧ R v w' := Q0x.ok  (Q0x.up  h)
set_option maxRecDepth 20000
structure RB where
  q : Nat
  k : Nat
  j : Nat
  a : Nat
  x : Nat
  b : Nat
  pub : Int
def RB.V (B : RB) : List Value := [.pointer (some (blk B.k)), .pointer (some (blk B.j)), .pointer (some (blk B.a)), .pointer (some (blk B.x)), .pointer (some (blk B.b)), .int .u64 B.pub]
structure RB.under (B : RB) (N : Nat) : Prop where
  q : B.q < N
  k : B.k < N
  j : B.j < N
  a : B.a < N
  x : B.x < N
  b : B.b < N
structure RB.over (B : RB) (N : Nat) : Prop where
  q : N ≤ B.q
  k : N ≤ B.k
  j : N ≤ B.j
  a : N ≤ B.a
  x : N ≤ B.x
  b : N ≤ B.b
structure RmG (w : World) (o : Own) (B : RB) (S T : OS) (n : Nat) (Ra Rx Rb : Rng) : Prop where
  bk : Blk w B.q 38 B.V
  tg : o B.q = some B.q
  orc : POrc w o B.k S
  rof : Rof w o B.j T n
  a : EG w o B.a B.k Ra
  x : EG w o B.x B.k Rx
  b : MG w o B.b Rb
  ne : Ra.who ≠ Rx.who
section
variable {w w' w1 w2 : World} {o o' o1 : Own} {q k p N m n i : Nat} {K : Nat → Prop} {B : RB} {S T : OS} {Ra Rx Rb : Rng}
theorem blkSet {t : TypeId} {cs : List Value} (hb : Blk w q t cs) (tg : o q = some q) (ok : Tags w o) {v : Value} {ad : Addr} (ha : ad = ⟨q, i, none⟩) (e : w' = w.setCell ad v) :
    Step (fun j => j = q) w o w' (grow w o) ∧ Blk w' q t (cs.set i v) ∧ grow w o q = some q := by
  have X3 : Ext (fun b => b = q) w w' := (Ext.refl (fun b => b = q) w).x_set (q := q) (i := i) ha (.inl rfl) e
  have s3 : Step (fun j => j = q) w o w' (grow w o) := Step.of_ext X3 ok fun b hb _ => by subst hb; exact tg
  exact ⟨s3, hb.seti i ha e, by rw [s3.own hb.lt]; exact tg⟩
theorem RmG.under (h : RmG w o B S T n Ra Rx Rb) : B.under w.heap.size := ⟨h.bk.lt, h.orc.lt, h.rof.lt, h.a.lt, h.x.lt, h.b.lt⟩
theorem RmG.step (h : RmG w o B S T n Ra Rx Rb) (s : Step K w o w' o') (hq : ¬ K B.q) (hk : ¬ K B.k) (hj : ¬ K B.j) (ha : ¬ K B.a) (hx : ¬ K B.x) (hb : ¬ K B.b) : RmG w' o' B S T n Ra Rx Rb :=
  ⟨s.blk h.bk h.tg hq, by rw [s.own h.bk.lt]; exact h.tg, h.orc.step s hk, h.rof.step s hj, h.a.step s ha, h.x.step s hx, h.b.step s hb, h.ne⟩
theorem RmG.no (h : RmG w o B S T n Ra Rx Rb) (s : Step no w o w' o') : RmG w' o' B S T n Ra Rx Rb := h.step s id id id id id id
theorem RmG.far (h : RmG w o B S T n Ra Rx Rb) (u : B.under N) (s : Step K w o w' o') (hk : ∀ j, K j → N ≤ j) : RmG w' o' B S T n Ra Rx Rb := by
  obtain ⟨u1, u2, u3, u4, u5, u6⟩ := u
  exact h.step s (fun e => by have := hk _ e; omega) (fun e => by have := hk _ e; omega) (fun e => by have := hk _ e; omega) (fun e => by have := hk _ e; omega) (fun e => by have := hk _ e; omega) (fun e => by have := hk _ e; omega)
theorem RmG.ne_q (h : RmG w o B S T n Ra Rx Rb) : B.q ≠ B.k ∧ B.q ≠ B.j ∧ B.q ≠ B.a ∧ B.q ≠ B.x ∧ B.q ≠ B.b := by
  obtain ⟨_, b1⟩ := h.orc.typ
  obtain ⟨_, b2⟩ := h.rof.typ
  obtain ⟨_, b3⟩ := h.a.typ
  obtain ⟨_, b4⟩ := h.x.typ
  obtain ⟨_, b5⟩ := h.b.typ
  exact ⟨Blk.apart h.bk b1 (by decide), Blk.apart h.bk b2 (by decide), Blk.apart h.bk b3 (by decide), Blk.apart h.bk b4 (by decide), Blk.apart h.bk b5 (by decide)⟩
theorem RmG.ne_o (h : RmG w o B S T n Ra Rx Rb) : B.k ≠ B.j ∧ B.k ≠ B.a ∧ B.k ≠ B.x ∧ B.k ≠ B.b ∧ B.j ≠ B.a ∧ B.j ≠ B.x ∧ B.j ≠ B.b := by
  obtain ⟨_, b1⟩ := h.orc.typ
  obtain ⟨_, b2⟩ := h.rof.typ
  obtain ⟨_, b3⟩ := h.a.typ
  obtain ⟨_, b4⟩ := h.x.typ
  obtain ⟨_, b5⟩ := h.b.typ
  exact ⟨Blk.apart b1 b2 (by decide), Blk.apart b1 b3 (by decide), Blk.apart b1 b4 (by decide), Blk.apart b1 b5 (by decide), Blk.apart b2 b3 (by decide), Blk.apart b2 b4 (by decide), Blk.apart b2 b5 (by decide)⟩
theorem RmG.ne_r (h : RmG w o B S T n Ra Rx Rb) : B.a ≠ B.x ∧ B.a ≠ B.b ∧ B.x ≠ B.b := by
  obtain ⟨_, b3⟩ := h.a.typ
  obtain ⟨_, b4⟩ := h.x.typ
  obtain ⟨_, b5⟩ := h.b.typ
  exact ⟨h.a.diff h.x h.ne, Blk.apart b3 b5 (by decide), Blk.apart b4 b5 (by decide)⟩
theorem RmG.toOrc (h : RmG w o B S T n Ra Rx Rb) (s : Step (fun j => j = B.k) w o w' o') {S' : OS} (hP : POrc w' o' B.k S') : RmG w' o' B S' T n Ra Rx Rb := by
  obtain ⟨q1, _⟩ := h.ne_q
  obtain ⟨o1, o2, o3, o4, _⟩ := h.ne_o
  exact ⟨s.blk h.bk h.tg q1, by rw [s.own h.bk.lt]; exact h.tg, hP, h.rof.step s o1.symm, h.a.step s o2.symm, h.x.step s o3.symm, h.b.step s o4.symm, h.ne⟩
theorem RmG.toRof (h : RmG w o B S T n Ra Rx Rb) (s : Step (fun j => j = B.j) w o w' o') {T' : OS} {n' : Nat} (hP : Rof w' o' B.j T' n') : RmG w' o' B S T' n' Ra Rx Rb := by
  obtain ⟨_, q1, _⟩ := h.ne_q
  obtain ⟨o1, _, _, _, o2, o3, o4⟩ := h.ne_o
  exact ⟨s.blk h.bk h.tg q1, by rw [s.own h.bk.lt]; exact h.tg, h.orc.step s o1, hP, h.a.step s o2.symm, h.x.step s o3.symm, h.b.step s o4.symm, h.ne⟩
theorem RmG.toA (h : RmG w o B S T n Ra Rx Rb) (s : Step (fun j => j = B.a) w o w' o') {R : Rng} (hP : EG w' o' B.a B.k R) (hw : R.who = Ra.who) : RmG w' o' B S T n R Rx Rb := by
  obtain ⟨_, _, q1, _⟩ := h.ne_q
  obtain ⟨_, o1, _, _, o2, _⟩ := h.ne_o
  obtain ⟨r1, r2, _⟩ := h.ne_r
  exact ⟨s.blk h.bk h.tg q1, by rw [s.own h.bk.lt]; exact h.tg, h.orc.step s o1, h.rof.step s o2, hP, h.x.step s r1.symm, h.b.step s r2.symm, by rw [hw]; exact h.ne⟩
theorem RmG.toX (h : RmG w o B S T n Ra Rx Rb) (s : Step (fun j => j = B.x) w o w' o') {R : Rng} (hP : EG w' o' B.x B.k R) (hw : R.who = Rx.who) : RmG w' o' B S T n Ra R Rb := by
  obtain ⟨_, _, _, q1, _⟩ := h.ne_q
  obtain ⟨_, _, o1, _, _, o2, _⟩ := h.ne_o
  obtain ⟨r1, _, r2⟩ := h.ne_r
  exact ⟨s.blk h.bk h.tg q1, by rw [s.own h.bk.lt]; exact h.tg, h.orc.step s o1, h.rof.step s o2, h.a.step s r1, hP, h.b.step s r2.symm, by rw [hw]; exact h.ne⟩
theorem RmG.toB (h : RmG w o B S T n Ra Rx Rb) (s : Step (fun j => j = B.b) w o w' o') {R : Rng} (hP : MG w' o' B.b R) : RmG w' o' B S T n Ra Rx R := by
  obtain ⟨_, _, _, _, q1⟩ := h.ne_q
  obtain ⟨_, _, _, o1, _, _, o2⟩ := h.ne_o
  obtain ⟨_, r1, r2⟩ := h.ne_r
  exact ⟨s.blk h.bk h.tg q1, by rw [s.own h.bk.lt]; exact h.tg, h.orc.step s o1, h.rof.step s o2, h.a.step s r1, h.x.step s r2, hP, h.ne⟩
end
def roomK (d : List Int) : Nat → OS × MS × Int × List Int
  | 0 => ((pairOf (pairOf (OS.init d)).2).2, newM (pairOf (OS.init d)).1.2, 0, [])
  | t + 1 => ((beginK (roomK d t).1 (roomK d t).2.1 (roomK d t).2.2.1).2.2, ⟨(roomK d t).2.1.ml, (roomK d t).2.1.ep + 1⟩, (beginK (roomK d t).1 (roomK d t).2.1 (roomK d t).2.2.1).2.1, (roomK d t).2.2.2 ++ [(beginK (roomK d t).1 (roomK d t).2.1 (roomK d t).2.2.1).2.1])
structure RI (d : List Int) (t : Nat) (X : WD) (S : OS) (R : Nat → Rng) (K : List Int) (O : List (List UInt8)) : Prop where
  pi : PI X S R K O
  len : K.length = t
  a : (R 0).keys = K
  x : (R 1).keys = List.replicate t 0
  ml : X.sm.ml = (newM (X.pub 0)).ml
  us : S.used.length ≤ 4 + 10 * t
  det : roomK d t = (S, X.sm, X.last, K)
theorem outk {X : WD} {S : OS} {R : Nat → Rng} {K : List Int} {O : List (List UInt8)} (h : PI X S R K O) (hl : S.used.length < 10000000) (hep : X.sm.ep + 1 < 20) {i : Nat} (hi : i < 4) (hm : ∀ m ∈ nowM X.sm.ml, m.who ≠ i) :
    (learnK (beginK S X.sm X.last).2.2 (R i) (beginK S X.sm X.last).1).1.keys = (R i).keys ++ [0] := by
  have B := h.begin hl
  obtain ⟨r1, r2, r3, m, hm', r4⟩ := h.ring i hi
  have hkl : (R i).keys.length = K.length := by rw [r4, Q1U]
  have ht := B.other (R := R i) (by rw [r1]; exact hm)
  unfold learnK
  rw [if_neg (by rw [B.kd, B.right]; simp), if_neg (by have := h.ep; omega), ht, hkl, r3, r4]
  dsimp only
  rw [Q52 K m hm' (beginK S X.sm X.last).2.1]
  cases hK : K.length with
  | zero => rfl
  | succ e =>
    unfold backK
    rw [if_neg]
    rintro ⟨⟨h1, _⟩, _⟩
    rw [mkK_get (by simp; omega), if_neg (by omega)] at h1
    exact h1 rfl
theorem RI.next {d : List Int} {t : Nat} {X : WD} {S : OS} {R : Nat → Rng} {K : List Int} {O : List (List UInt8)} (h : RI d t X S R K O) (ht : t < 4) (hold : (beginK S X.sm X.last).1.old.length < 1000000) :
    RI d (t + 1) { X with last := (beginK S X.sm X.last).2.1, sm := ⟨X.sm.ml, X.sm.ep + 1⟩, tm := ⟨X.sm.ml, X.sm.ep + 1⟩ } (beginK S X.sm X.last).2.2 (fun i => (learnK (beginK S X.sm X.last).2.2 (R i) (beginK S X.sm X.last).1).1) (K ++ [(beginK S X.sm X.last).2.1]) (O ++ [(beginK S X.sm X.last).1.old]) := by
  have hus := h.us
  have hl : S.used.length < 10000000 := by omega
  have hep : X.sm.ep + 1 < 20 := by have := h.pi.ep; have := h.len; omega
  have B := h.pi.begin hl
  have hnow : nowM X.sm.ml = [⟨0, X.pub 0, 0, -1, 0⟩] := by rw [h.ml]; rfl
  refine ⟨h.pi.next hl hold hep fun i _ => rfl, by simp [h.len], ?_, ?_, h.ml, by have := B.len; omega, ?_⟩
  · show (learnK _ (R 0) _).1.keys = _
    rw [h.pi.in_ hl hold hep (i := 0) (by decide) ⟨_, by rw [hnow]; exact List.mem_singleton.2 rfl, rfl⟩]
  · show (learnK _ (R 1) _).1.keys = _
    rw [outk h.pi hl hep (i := 1) (by decide) (fun m hm => by rw [hnow] at hm; rw [List.mem_singleton.1 hm]; show (0 : Int) ≠ ((1 : Nat) : Int); decide), h.x, ← List.replicate_succ']
  · show ((beginK (roomK d t).1 (roomK d t).2.1 (roomK d t).2.2.1).2.2, (⟨(roomK d t).2.1.ml, (roomK d t).2.1.ep + 1⟩ : MS), (beginK (roomK d t).1 (roomK d t).2.1 (roomK d t).2.2.1).2.1, (roomK d t).2.2.2 ++ [(beginK (roomK d t).1 (roomK d t).2.1 (roomK d t).2.2.1).2.1]) = _
    rw [h.det]
theorem RI.zero (d : List Int) (h : OInv (OS.init d)) (k j : Nat) : ∃ X R, RI d 0 X (pairOf (pairOf (OS.init d)).2).2 R [] [] ∧ X.last = 0 ∧ X.sm = newM (pairOf (OS.init d)).1.2 ∧ R 0 = ⟨0, (pairOf (OS.init d)).1.1, [], []⟩ ∧ R 1 = ⟨1, (pairOf (pairOf (OS.init d)).2).1.1, [], []⟩ := by
  obtain ⟨p1, p2, p3, p4, p5, p6, _⟩ := Q2j h
  obtain ⟨q1, q2, q3, q4, q5, q6, _⟩ := Q2j p1
  have hs : (pairOf (pairOf (OS.init d)).2).2.sealed = [] := by rw [Q3p, Q3p]; rfl
  have hw : (pairOf (pairOf (OS.init d)).2).2.wrapped = [] := by rw [Q2R, Q2R]; rfl
  have hu : (pairOf (pairOf (OS.init d)).2).2.used.length ≤ 4 := by
    have a := (Q2D h.ok).2
    have b := (Q2D p1.ok).2
    have c : (OS.init d).used.length = 0 := rfl
    omega
  refine ⟨⟨k, j, fun i => if i = 0 then (pairOf (OS.init d)).1.2 else (pairOf (pairOf (OS.init d)).2).1.2, fun _ => none, fun _ => none, newM (pairOf (OS.init d)).1.2, newM (pairOf (OS.init d)).1.2, fun i => if i = 0 then (pairOf (OS.init d)).1.1 else (pairOf (pairOf (OS.init d)).2).1.1, 0⟩,
    fun i => ⟨i, if i = 0 then (pairOf (OS.init d)).1.1 else (pairOf (pairOf (OS.init d)).2).1.1, [], []⟩, ⟨⟨⟨q1, fun x s e => (by rw [hs] at e; cases e), fun x s e => (by rw [hw] at e; cases e), fun x s e => (by rw [hs] at e; cases e)⟩, fun i hi => ?_, rfl, newM_ok _, fun m hm => ?_, fun m hm => ?_, ⟨_, List.mem_singleton.2 rfl, rfl, rfl⟩, rfl, ⟨rfl, fun x hx => (by cases hx), fun e he => absurd he (by simp), fun b hb => (by cases hb)⟩, rfl, fun i hi => ⟨rfl, rfl, rfl, 0, Nat.le_refl _, rfl⟩⟩, rfl, rfl, rfl, rfl, by omega, rfl⟩, rfl, rfl, rfl, rfl⟩
  · by_cases h0 : i = 0
    · show alook _ (if i = 0 then _ else _) = some (if i = 0 then _ else _)
      rw [if_pos h0, if_pos h0]; exact q2.publics _ _ p3
    · show alook _ (if i = 0 then _ else _) = some (if i = 0 then _ else _)
      rw [if_neg h0, if_neg h0]; exact q3
  · simp [newM] at hm
    exact ⟨0, by omega, by rw [hm]; rfl, by rw [hm]; rfl⟩
  · simp [newM] at hm
    rw [hm]; show (0 : Int) ≤ -1 + 1; decide
def RoomR (d : List Int) (w0 : World) (o0 : Own) (many a : Nat) (w : World) (o : Own) : Prop :=
  ∃ (B : RB) (X : WD) (S : OS) (R : Nat → Rng) (K : List Int) (O : List (List UInt8)), B.q = a ∧ Step no w0 o0 w o ∧ RmG w o B S S (4 + 10 * many) (R 0) (R 1) (R 0) ∧ RI d many X S R K O ∧ B.over w0.heap.size
def NRI (d : List Int) (w0 : World) (o0 : Own) (B : RB) (p1 p2 many m : Nat) (vs : List Value) (w : World) : Prop :=
  ∃ (t : Nat) (X : WD) (S : OS) (R : Nat → Rng) (K : List Int) (O : List (List UInt8)) (o : Own) (sa : Option Addr) (sc : Nat) (ta : Option Addr) (tc : Nat),
    vs = [.int .u64 X.last, .int .i64 t, .slice sa X.sm.ml.length sc, .int .i64 X.sm.ep, .slice ta X.sm.ml.length tc, .int .i64 X.sm.ep] ∧ m + t = many ∧ Step no w0 o0 w o ∧ RmG w o B S S (4 + 10 * t) (R 0) (R 1) (R 0) ∧ RI d t X S R K O ∧
    Row w o sa (X.sm.ml.flatMap Mem.C) ∧ Row w o ta (X.sm.ml.flatMap Mem.C) ∧ X.sm.ml.length ≤ tc ∧ Mine [p1, p2] w o
section
variable {w w' : World} {o o' : Own} {many : Nat}
theorem Q1K (ok : Tags w o) {da : Option Addr} {dc : Nat} {d : List Int} (hd : Row w o da (d.map u64V)) (hc : d.length ≤ dc) (hr : ∀ x ∈ d, 0 ≤ x ∧ x < 18446744073709551616) (hl : d.length ≤ 1000) (hm : many ≤ 4) :
    Calls Try.prog 7 #[.slice da d.length dc, .int .i64 many] w (fun x w' => ∃ a o', x = .returned (.pointer (some (blk a))) ∧ RoomR d w o many a w' o') := by
  refine (Q05.go da d.length dc many (R := fun v w' => ∃ a o', v = .pointer (some (blk a)) ∧ RoomR d w o many a w' o') ?_).mono fun x w' ⟨v, he, a, o', hv, h⟩ => ⟨a, o', by rw [he, hv], h⟩
  unfold Q05.N
  refine (NewO ok hd.1 (by omega)).mono fun x w5 ⟨k, o5, he, hk, s5, P5⟩ => ⟨_, he, fun w6 j X6 b6 hj hj' => ?_⟩
  obtain ⟨o6, s6, Q6⟩ := Rof.init X6 b6 hj hj' s5.ok (hd.step s5) hc hr
  intro w8 q X8 b8 hq hq'
  have s8 : Step no w6 o6 w8 (tag (grow w6 o6) q q) := (Step.of_no X8 s6.ok).tag hq hq'
  have t8 : tag (grow w6 o6) q q q = some q := Q1t
  have P8 := (P5.step s6 id).step s8 id
  have Q8 := Q6.step s8 id
  have z5 := s5.size
  have z6 := s6.size
  have z8 := s8.size
  have S8 := (s5.trans s6).trans s8
  generalize tag (grow w6 o6) q q = o8 at *
  have hin := Q8.inv
  obtain ⟨p1, p2, p3, p4, p5, p6, _⟩ := Q2j hin
  obtain ⟨_, bk⟩ := P8.typ
  obtain ⟨_, bj⟩ := Q8.typ
  have hqk : q ≠ k := Blk.apart b8 bk (by decide)
  have hqj : q ≠ j := Blk.apart b8 bj (by decide)
  have hkj : k ≠ j := Blk.apart bk bj (by decide)
  have hun := Q8.len
  refine ⟨_, b8.celli 0 rfl rfl, (PairO P8 s8.ok hin.ok (by omega)).mono fun x w15 ⟨o15, he, s15, P15⟩ => ⟨_, _, he, ?_⟩⟩
  have b15 := s15.blk b8 t8 hqk
  have t15 : o15 q = some q := by rw [s15.own b8.lt]; exact t8
  have Q15 := Q8.step s15 hkj.symm
  have ul1 := (Q2D hin.ok).2
  refine ⟨_, b15.celli 0 rfl rfl, (PairO P15 s15.ok p1.ok (by omega)).mono fun x w21 ⟨o21, he, s21, P21⟩ => ⟨_, _, he, ?_⟩⟩
  have b21 := s21.blk b15 t15 hqk
  have t21 : o21 q = some q := by rw [s21.own b15.lt]; exact t15
  have Q21 := Q15.step s21 hkj.symm
  refine ⟨_, b21.celli 1 rfl rfl, (Q21.pair (by omega)).mono fun x w27 ⟨o27, he, s27, Q27⟩ => ⟨_, _, he, ?_⟩⟩
  have b27 := s27.blk b21 t21 hqj
  have t27 : o27 q = some q := by rw [s27.own b21.lt]; exact t21
  have P27 := P21.step s27 hkj
  refine ⟨_, b27.celli 1 rfl rfl, (Q27.pair (by omega)).mono fun x w33 ⟨o33, he, s33, Q33⟩ => ⟨_, _, he, ?_⟩⟩
  have b33 := s33.blk b27 t27 hqj
  have t33 : o33 q = some q := by rw [s33.own b27.lt]; exact t27
  have P33 := P27.step s33 hkj
  refine ⟨b33.cani 5 rfl rfl, Q01 fun w34 e34 => ?_⟩
  obtain ⟨s34, b34, t34⟩ := blkSet b33 t33 s33.ok (i := 5) rfl e34
  have P34 := P33.step s34 hqk.symm
  have Q34 := Q33.step s34 hqj.symm
  have S34 : Step no w o w34 _ := ((((S8.trans' s15 fun a ha => .inr (by rw [ha]; exact hk)).trans' s21 fun a ha => .inr (by rw [ha]; exact hk)).trans' s27 fun a ha => .inr (by rw [ha]; omega)).trans' s33 fun a ha => .inr (by rw [ha]; omega)).trans' s34 fun a ha => .inr (by rw [ha]; omega)
  generalize grow w33 o33 = o34 at *
  obtain ⟨X0, R0, I0, hlast, hsm, hR0, hR1⟩ := RI.zero d hin k j
  have z34 := S34.size
  refine ⟨_, b34.celli 0 rfl rfl, (Q2Z s34.ok (by omega) (by omega) k).mono fun x w40 ⟨ra, o40, he, hra, s40, E40⟩ => ⟨_, _, he, ?_⟩⟩
  have b40 := s40.blk b34 t34 id
  have t40 : o40 q = some q := by rw [s40.own b34.lt]; exact t34
  have z40 := s40.size
  refine ⟨_, b40.celli 0 rfl rfl, (Q2Z s40.ok (by omega) (by omega) k).mono fun x w46 ⟨rx, o46, he, hrx, s46, F46⟩ => ⟨_, _, he, fun h => absurd rfl h, fun _ => ⟨fun h => absurd rfl h, fun _ => ⟨fun h => (by cases h), fun _ => ?_⟩⟩⟩⟩
  have b46 := s46.blk b40 t40 id
  have t46 : o46 q = some q := by rw [s46.own b40.lt]; exact t40
  have z46 := s46.size
  have E46 := E40.step s46 id
  have P46 := (P34.step s40 id).step s46 id
  have Q46 := (Q34.step s40 id).step s46 id
  obtain ⟨_, ba⟩ := E46.typ
  obtain ⟨_, bx⟩ := F46.typ
  have hqa : q ≠ ra := Blk.apart b46 ba (by decide)
  have hqx : q ≠ rx := Blk.apart b46 bx (by decide)
  refine ⟨b46.cani 2 rfl rfl, Q01 fun w50 e50 => ?_⟩
  obtain ⟨s50, b50, t50⟩ := blkSet b46 t46 s46.ok (i := 2) rfl e50
  refine ⟨b50.cani 3 rfl rfl, Q01 fun w51 e51 => ?_⟩
  obtain ⟨s51, b51, t51⟩ := blkSet b50 t50 s50.ok (i := 3) rfl e51
  intro w52 rb X52 b52' hrb hrb'
  obtain ⟨s52, M52⟩ := MG.init s51.ok X52 b52' hrb hrb'
  have b52 := s52.blk b51 t51 id
  have t52 := (s52.own b51.lt).trans t51
  refine ⟨b52.cani 4 rfl rfl, Q01 fun w54 e54 => ?_⟩
  obtain ⟨s54, b54, t54⟩ := blkSet b52 t52 s52.ok (i := 4) rfl e54
  have hqb : rb ≠ q := by
    obtain ⟨_, bb⟩ := M52.typ
    exact (Blk.apart b52 bb (by decide)).symm
  have z50 := s50.size
  have z51 := s51.size
  have z52 := s52.size
  have S54 : Step no w o w54 _ := (((((S34.trans s40).trans s46).trans' s50 fun a ha => .inr (by rw [ha]; omega)).trans' s51 fun a ha => .inr (by rw [ha]; omega)).trans s52).trans' s54 fun a ha => .inr (by rw [ha]; omega)
  have G54 : RmG w54 _ ⟨q, k, j, ra, rx, rb, (pairOf (OS.init d)).1.2⟩ _ _ 4 (R0 0) (R0 1) (R0 0) :=
    ⟨b54, t54, (((P46.step s50 hqk.symm).step s51 hqk.symm).step s52 id).step s54 hqk.symm, (((Q46.step s50 hqj.symm).step s51 hqj.symm).step s52 id).step s54 hqj.symm,
      by rw [hR0]; exact (((E46.step s50 hqa.symm).step s51 hqa.symm).step s52 id).step s54 hqa.symm, by rw [hR1]; exact (((F46.step s50 hqx.symm).step s51 hqx.symm).step s52 id).step s54 hqx.symm, by rw [hR0]; exact M52.step s54 hqb, by rw [hR0, hR1]; show (0 : Int) ≠ 1; decide⟩
  obtain ⟨B, hB⟩ : ∃ B : RB, (⟨q, k, j, ra, rx, rb, (pairOf (OS.init d)).1.2⟩ : RB) = B := ⟨_, rfl⟩
  have hBq : q = B.q := by rw [← hB]
  have hov : B.over w.heap.size := by rw [← hB]; exact ⟨by show w.heap.size ≤ q; omega, by show w.heap.size ≤ k; omega, by show w.heap.size ≤ j; omega, by show w.heap.size ≤ ra; omega, by show w.heap.size ≤ rx; omega, by show w.heap.size ≤ rb; omega⟩
  rw [hB] at G54
  generalize grow w52 _ = o54 at *
  clear E46 F46 P46 Q46 M52 b54 t54 b52 t52 b51 t51 b50 t50 P34 Q34 E40 b46 b40 b34 b33 b27 b21 b15 b8 P5 P8 Q6 Q8 P15 Q15 P21 Q21 P27 Q27 P33 Q33
  refine (Q6j s54.ok _).mono fun x w58 ⟨o58, sa0, sc0, he, s58, r58, hc58⟩ => ⟨_, _, _, _, he, ?_⟩
  refine (Q68 s58.ok _).mono fun x w62 ⟨o62, ta0, tc0, he, s62, r62, hc62⟩ => ⟨_, _, _, _, he, fun w66 q1 q2 X66 hp66 => ?_⟩
  obtain ⟨s66, M66⟩ := Step.priv X66 hp66 s62.ok
  have G66 := ((G54.no s58).no s62).no s66
  have S66 := ((S54.trans s58).trans s62).trans s66
  have u : B.under w62.heap.size := ((G54.no s58).no s62).under
  have hq1 := (hp66 q1 (by simp)).1
  have hq2 := (hp66 q2 (by simp)).1
  have z66 := s66.size
  have ha66 : w62.heap.size ≤ w66.heap.size := z66
  obtain ⟨N, hN⟩ : ∃ N, w62.heap.size = N := ⟨_, rfl⟩
  have hwN : w.heap.size ≤ w62.heap.size := ((S54.trans s58).trans s62).size
  rw [hN] at u hq1 hq2 ha66 hwN
  refine ⟨NRI d w o B q1 q2 many, many, ⟨0, X0, _, R0, [], [], _, sa0, sc0, ta0, tc0, by rw [hlast, hsm]; rfl, rfl, S66, G66, I0, by rw [hsm]; exact (r58.step s62).step s66, by rw [hsm]; exact r62.step s66, by rw [hsm]; exact hc62, M66⟩, ?_⟩
  clear G66 I0 M66 s66 X66 hp66 s62 s58 G54
  rintro m w77 last n L71a L71n L71c ep72 L73a L73n L73c ep74 ⟨t, X, S, R, K, O, o77, sa, sc, ta, tc, hv, hmt, s77, A77, I, hsr, htr, htc, M77⟩
  cases hv
  have ok77 := s77.ok
  have N77 : N ≤ w77.heap.size := by have := (M77 q1 (by simp)).1; omega
  refine ⟨fun ht => ?_, fun ht => ?_⟩
  · have ht : t < many := by omega
    have P := I.pi
    have hus := I.us
    have hul : S.used.length < 10000000 := by omega
    have BB := P.begin hul
    have hlr := P.last_rng
    have hepX : X.sm.ep = (t : Int) - 1 := by have := P.ep; have := I.len; omega
    have happ : applyM X.sm (beginK S X.sm X.last).1 = (⟨X.sm.ml, X.sm.ep + 1⟩, 0) := by rw [BB.app, if_neg (by omega)]
    have hkN := u.k
    have hjN := u.j
    have haN := u.a
    have hxN := u.x
    have hbN := u.b
    have far1 : ∀ p ∈ [q1, q2], N ≤ p := fun p hp => by
      simp only [List.mem_cons, List.not_mem_nil, or_false] at hp
      rcases hp with rfl | rfl <;> assumption
    refine ⟨_, A77.bk.celli 0 (by rw [hBq]; rfl) rfl, fun w83 L82 X83 hp83 => ?_⟩
    obtain ⟨s83, M83⟩ := Step.priv X83 hp83 ok77
    have A83 := A77.no s83
    have hL : ∀ i, i ∈ L82 → N ≤ i := fun i hi => by have := (hp83 i hi).1; omega
    refine (Q5v (s := X.sm) (last := X.last) A83.orc s83.ok P.ki.inv.ok (by omega) (hsr.step s83) P.ok hlr.1 hlr.2 P.known P.ne).mono fun x w93 ⟨o93, wa, wc, oa, oc, ws, he, s93, P93, C93, hwc, hoc⟩ => ⟨_, _, _, _, _, _, _, _, _, _, _, _, he, M83.keep s93 (fun p hp e => by have := hL p hp; omega), (M77.step s83).keep s93 (fun p hp e => by have := far1 p hp; omega), fun w163 p97 X163 hp163 => ?_⟩
    have A93 := A83.toOrc s93 P93
    obtain ⟨s163, M163⟩ := Step.join X163 s93.ok (M83.step s93) hp163
    have A163 := A93.far u s163 hL
    have z83 := s83.size
    have z93 := s93.size
    have z163 := s163.size
    have h97 : N ≤ p97 := by
      rcases (hp163 p97 (by simp)).1 with h | h
      · exact hL _ h
      · omega
    refine ⟨_, A163.bk.celli 1 (by rw [hBq]; rfl) rfl, fun w101 L100 X101 hp101 => ?_⟩
    obtain ⟨s101, M101⟩ := Step.priv X101 hp101 s163.ok
    have A101 := A163.no s101
    have hL100 : ∀ i, i ∈ L100 → N ≤ i := fun i hi => by have := (hp101 i hi).1; omega
    have M101b : Mine [q1, q2, p97] w101 _ := fun p hp => by
      rcases List.mem_cons.1 hp with rfl | hp
      · exact ((((M77.step s83).step s93).step s163).step s101) _ (by simp)
      · rcases List.mem_cons.1 hp with rfl | hp
        · exact ((((M77.step s83).step s93).step s163).step s101) _ (by simp)
        · exact (M163.step s101) _ hp
    have far3 : ∀ p ∈ [q1, q2, p97], N ≤ p := fun p hp => by
      simp only [List.mem_cons, List.not_mem_nil, or_false] at hp
      rcases hp with rfl | rfl | rfl <;> assumption
    have tr101 := (((htr.step s83).step s93).step s163).step s101
    refine (Q4S (s := X.sm) (last := X.last) A101.rof P.ki.inv.ok (by omega) tr101 P.ok hlr.1 hlr.2 P.known P.ne).mono fun x w111 ⟨o111, wa2, wc2, oa2, oc2, ws2, he, s111, Q111, C111, hwc2, hoc2⟩ => ⟨_, _, _, _, _, _, _, _, _, _, _, _, he, M101.keep s111 (fun p hp e => by have := hL100 p hp; omega), M101b.keep s111 (fun p hp e => by have := far3 p hp; omega), fun h => absurd rfl h, fun _ w162 p117 X162 hp162 => ?_⟩
    have A111 := A101.toRof s111 Q111
    obtain ⟨s162, M162⟩ := Step.join X162 s111.ok (M101.step s111) hp162
    have A162 := A111.far u s162 hL100
    have z101 := s101.size
    have z111 := s111.size
    have z162 := s162.size
    have h117 : N ≤ p117 := by
      rcases (hp162 p117 (by simp)).1 with h | h
      · exact hL100 _ h
      · omega
    have C162 := (((C93.step s163).step s101).step s111).step s162
    have D162 := C111.step s162
    have sr162 := (((((hsr.step s83).step s93).step s163).step s101).step s111).step s162
    have tr162 := (tr101.step s111).step s162
    have M162b : Mine [q1, q2, p97, p117] w162 _ := fun p hp => by
      rcases List.mem_cons.1 hp with rfl | hp
      · exact ((M101b.step s111).step s162) _ (by simp)
      · rcases List.mem_cons.1 hp with rfl | hp
        · exact ((M101b.step s111).step s162) _ (by simp)
        · rcases List.mem_cons.1 hp with rfl | hp
          · exact ((M101b.step s111).step s162) _ (by simp)
          · exact M162 _ hp
    have far4 : ∀ p ∈ [q1, q2, p97, p117], N ≤ p := fun p hp => by
      simp only [List.mem_cons, List.not_mem_nil, or_false] at hp
      rcases hp with rfl | rfl | rfl | rfl <;> assumption
    have S162 : Step no w o w162 _ := ((((((s77.trans s83).trans' s93 fun a ha => .inr (by rw [ha]; exact hov.k)).trans' s163 fun a ha => .inr (by have := hL a ha; omega)).trans s101).trans' s111 fun a ha => .inr (by rw [ha]; exact hov.j)).trans' s162 fun a ha => .inr (by have := hL100 a ha; omega))
    clear A93 A83 A101 A111 A163 M101 M101b M163 M83 P93 Q111 C93 C111 tr101 s163 s101 s111 s93 s83
    refine (Q5o (s := X.sm) (cg := (beginK S X.sm X.last).1) sr162 s162.ok P.ok C162.ws C162.m C162.n C162.ol).mono fun x w122 ⟨o122, a122, c122, he, s122, r122, hc122⟩ => ?_
    rw [happ] at he r122 hc122
    refine ⟨_, _, _, _, _, he, M162b.keep s122 (fun _ _ => id), fun w124 p125 X124 hp124 => ?_⟩
    obtain ⟨s124, M124⟩ := Step.priv X124 hp124 s122.ok
    have C124 := (C162.step s122).step s124
    have D124 := (D162.step s122).step s124
    have M124b : Mine [q1, q2, p97, p117, p125] w124 _ := fun p hp => by
      rcases List.mem_cons.1 hp with rfl | hp
      · exact ((M162b.step s122).step s124) _ (by simp)
      · rcases List.mem_cons.1 hp with rfl | hp
        · exact ((M162b.step s122).step s124) _ (by simp)
        · rcases List.mem_cons.1 hp with rfl | hp
          · exact ((M162b.step s122).step s124) _ (by simp)
          · rcases List.mem_cons.1 hp with rfl | hp
            · exact ((M162b.step s122).step s124) _ (by simp)
            · exact M124 _ hp
    refine (Q4K (s := X.sm) (cg := (beginK S X.sm X.last).1) ((tr162.step s122).step s124) s124.ok P.ok htc D124.ws D124.m D124.n D124.ol).mono fun x w130 ⟨o130, a130, c130, he, s130, r130, hc130⟩ => ?_
    rw [happ] at he r130 hc130
    refine ⟨_, _, _, _, _, he, M124b.keep s130 (fun _ _ => id), fun h => absurd rfl h, fun _ => ⟨fun h => absurd rfl h, fun _ w140 X140 => ?_⟩⟩
    have M130 := (M162b.step s122).step s124 |>.step s130
    have s140 : Step (fun i => i ∈ [q1, q2]) w130 _ w140 _ := Step.stores X140 s130.ok (M130.sub (M := [q1, q2]) (by simp)) (fun b hb => by rcases hb with rfl | rfl <;> simp)
    have M140 := M130.step s140
    have A140 := (((A162.no s122).no s124).no s130).far u s140 far1
    have S140 := (((S162.trans s122).trans s124).trans s130).trans' s140 fun a ha => .inr (by have := far1 a ha; omega)
    have C140 := (C124.step s130).step s140
    have D140 := (D124.step s130).step s140
    have sr140 := ((r122.step s124).step s130).step s140
    have tr140 := r130.step s140
    have hlen : ∀ i, i < 4 → (R i).keys.length = (R i).olds.length ∧ (R i).keys.length = t ∧ ∀ b ∈ (R i).olds, b.length < 1000000 := fun i hi => by
      obtain ⟨_, _, r3, m', _, r4⟩ := P.ring i hi
      have h1 := I.len
      rw [r3, r4, Q1U, P.ch.len]
      exact ⟨rfl, h1, P.ch.short⟩
    obtain ⟨l01, l02, l03⟩ := hlen 0 (by decide)
    obtain ⟨l11, l12, l13⟩ := hlen 1 (by decide)
    have hnz : ∀ x ∈ (R 0).keys, x ≠ 0 := fun x hx => by have := P.ch.nz x (by rw [← I.a]; exact hx); omega
    obtain ⟨_, ka, kx, kb, _, _, jb⟩ := A140.ne_o
    have hold : (beginK S X.sm X.last).1.old.length < 1000000 := C140.ol
    have w0 : ∀ i, i < 4 → (learnK (beginK S X.sm X.last).2.2 (R i) (beginK S X.sm X.last).1).1.who = (R i).who := fun i hi => by
      have e1 := (P.next hul hold (by omega) (R' := fun i => (learnK (beginK S X.sm X.last).2.2 (R i) (beginK S X.sm X.last).1).1) fun _ _ => rfl).ring i hi
      exact e1.1.trans (P.ring i hi).1.symm
    refine ⟨_, A140.bk.celli 2 (by rw [hBq]; rfl) rfl, (Q3H A140.a A140.orc s140.ok ka.symm BB.ki.sh l01 (by omega) l03 C140).mono fun x w146 ⟨he, o146, s146, E146⟩ => ⟨_, he, M140.keep s146 (fun p hp e => by have := far4 p hp; omega), ?_⟩⟩
    have A146 := A140.toA s146 E146 (w0 0 (by decide))
    refine ⟨_, A146.bk.celli 3 (by rw [hBq]; rfl) rfl, fun w147 X147 => ?_⟩
    have s147 := Step.of_no X147 s146.ok
    have A147 := A146.no s147
    have C147 := (C140.step s146).step s147
    have M147 := ((M140.step s146).step s147).sub (M := [q1, q2, p117]) (by simp)
    refine (Q3H A147.x A147.orc s147.ok kx.symm BB.ki.sh l11 (by omega) l13 C147).mono fun x w152 ⟨he, o152, s152, E152⟩ => ⟨_, he, M147.keep s152 (fun p hp e => by have := far4 p (by simp only [List.mem_cons, List.not_mem_nil, or_false] at hp ⊢; rcases hp with h | h | h <;> simp [h]); omega), ?_⟩
    have A152 := A147.toX s152 E152 (w0 1 (by decide))
    refine ⟨_, A152.bk.celli 4 (by rw [hBq]; rfl) rfl, _, A152.bk.celli 1 (by rw [hBq]; rfl) rfl, fun w153 X153 => ?_⟩
    have s153 := Step.of_no X153 s152.ok
    have A153 := A152.no s153
    have D153 := (((D140.step s146).step s147).step s152).step s153
    have M153 := (M147.step s152).step s153 |>.sub (M := [q1, q2]) (by simp)
    refine (Q4W A153.b A153.rof (by omega) jb.symm l01 (by omega) hnz D153 hoc2).mono fun x w160 ⟨he, o160, s160, E160⟩ => ⟨_, he, M153.keep s160 (fun p hp e => by have := far1 p hp; omega), by omega, by omega, many - (t + 1), by omega, ?_⟩
    have A160 := A153.toB s160 E160
    have S160 := ((((S140.trans' s146 fun a ha => .inr (by rw [ha]; exact hov.a)).trans s147).trans' s152 fun a ha => .inr (by rw [ha]; exact hov.x)).trans s153).trans' s160 fun a ha => .inr (by rw [ha]; exact hov.b)
    have sr160 := ((((sr140.step s146).step s147).step s152).step s153).step s160
    have tr160 := ((((tr140.step s146).step s147).step s152).step s153).step s160
    exact ⟨t + 1, { X with last := (beginK S X.sm X.last).2.1, sm := ⟨X.sm.ml, X.sm.ep + 1⟩, tm := ⟨X.sm.ml, X.sm.ep + 1⟩ }, _, fun i => (learnK (beginK S X.sm X.last).2.2 (R i) (beginK S X.sm X.last).1).1, _, _, o160, a122, c122, a130, c130, rfl, by omega, S160, by rw [show 4 + 10 * (t + 1) = 4 + 10 * t + 10 by omega]; exact A160, I.next (by omega) hold, sr160, tr160, hc130, M153.step s160⟩
  · have ht : t = many := by omega
    subst ht
    exact ⟨q, o77, rfl, B, X, S, R, K, O, hBq.symm, s77, A77, I, hov⟩
end
open W (OwnB)
def placeOK (w i e : Int) : Bool := decide (0 ≤ w ∧ w < 8 ∧ 0 ≤ i ∧ i < 200 ∧ 0 ≤ e ∧ e < 20)
theorem placeF (w i e : Int) : Q0e.F w i e = placeOK w i e := by
  unfold Q0e.F placeOK
  by_cases h1 : w ≥ 0
  · rw [if_pos h1]
    by_cases h2 : w < 8
    · rw [if_pos h2]
      by_cases h3 : i ≥ 0
      · rw [if_pos h3]
        by_cases h4 : i < 200
        · rw [if_pos h4]
          by_cases h5 : e ≥ 0
          · rw [if_pos h5, decide_eq_decide]; omega
          · rw [if_neg h5, eq_comm, decide_eq_false_iff_not]; omega
        · rw [if_neg h4, eq_comm, decide_eq_false_iff_not]; omega
      · rw [if_neg h3, eq_comm, decide_eq_false_iff_not]; omega
    · rw [if_neg h2, eq_comm, decide_eq_false_iff_not]; omega
  · rw [if_neg h1, eq_comm, decide_eq_false_iff_not]; omega
def sealP (S : OS) (R : Rng) (w i e : Int) (p : List UInt8) : (List UInt8 × Int) × OS :=
  if placeOK w i e = true then (if (keyK R e).2 ≠ 0 then (([], (keyK R e).2), S) else sealOf S (keyK R e).1 (boundL w i e) p) else (([], 1), S)
def openP (S : OS) (R : Rng) (e : Ent) : List UInt8 × Int :=
  if Q1W e = true then (if e.ep < 0 then ([], 10) else if (keyK R e.ep).2 ≠ 0 then ([], (keyK R e.ep).2) else openOf S (keyK R e.ep).1 (boundL e.w e.i e.ep) e.body) else ([], 1)
theorem Q5I (x y z : Int) : (boundL x y z).length ≤ 30 := by
  have g1 := W.numL_le x.toNat
  have g2 := W.numL_le y.toNat
  have g3 := W.numL_le (W.zig z)
  unfold boundL; simp only [List.length_append]; omega
section
variable {w w' : World} {o o' : Own} {q k : Nat} {S : OS} {R : Rng} {pa : Option Addr} {pc : Nat} {p : List UInt8} {wv iv ev : Int}
theorem useSeal (h : EG w o q k R) (hP : POrc w o k S) (ok : Tags w o) (hS : S.ok) (hlen : S.used.length < 1000000) (hr : placeOK wv iv ev = true) (hp : Row w o pa (bytesV p)) (hpl : p.length ≤ 1000000) :
    Calls Try.prog 28 #[.agg #[.int .i64 wv, .int .i64 iv, .int .i64 ev], .func (.func 29) #[.pointer (some (blk k))] #[], .pointer (some (blk q)), .slice pa p.length pc] w (Gb (fun j => j = k) w o (sealP S R wv iv ev p).1 fun w' o' => POrc w' o' k (sealP S R wv iv ev p).2) := by
  refine (Q0L.go _ _ _ _ _ _ _ _ _ _ (R := fun v w' => ∃ o' a' c', v = .tuple #[.slice a' (sealP S R wv iv ev p).1.1.length c', .int .i64 (sealP S R wv iv ev p).1.2] ∧ Step (fun j => j = k) w o w' o' ∧ Row w' o' a' (bytesV (sealP S R wv iv ev p).1.1) ∧ (sealP S R wv iv ev p).1.1.length ≤ c' ∧ POrc w' o' k (sealP S R wv iv ev p).2) ?_).mono fun e w' ⟨v, he, o', a', c', hv, hw⟩ => ⟨o', a', c', by rw [he, hv], hw⟩
  have hr' : 0 ≤ wv ∧ wv < 8 ∧ 0 ≤ iv ∧ iv < 200 ∧ 0 ≤ ev ∧ ev < 20 := of_decide_eq_true hr
  unfold Q0L.N
  intro w7 p8 X7 hp8
  obtain ⟨s7, M7⟩ := Step.priv X7 hp8 ok
  refine (Q4H (h.step s7 id) ev).mono fun x w12 ⟨he, hw⟩ => ⟨_, _, he, (by rw [hw]; exact Keep.refl _ _), fun hk => ?_, fun hk => ?_⟩
  · subst hw
    have e1 : sealP S R wv iv ev p = (([], (keyK R ev).2), S) := by unfold sealP; rw [if_pos hr, if_pos hk]
    rw [e1]
    exact ⟨_, none, 0, rfl, s7.none, Row.nil _ _ _, Nat.le_refl _, hP.step s7 id⟩
  · subst hw
    have e1 : sealP S R wv iv ev p = sealOf S (keyK R ev).1 (boundL wv iv ev) p := by unfold sealP; rw [if_pos hr, if_neg (fun h => h hk)]
    rw [e1]
    refine (Q3S (x := wv) (y := iv) (z := ev) (by omega) (by omega) (by omega) (by omega)).mono fun x w16 ⟨ba, bc, he, hO, X16⟩ => ⟨_, _, _, he, by kernel_rfl, ?_⟩
    have s16 := Step.of_no X16 s7.ok
    have rb : Row w16 (grow w12 (tags w o [p8])) ba (bytesV (boundL wv iv ev)) := Q1B hO X16
    have hbl := Q5I wv iv ev
    refine (SealO ((hP.step s7 id).step s16 id) s16.ok hS hlen (keyK R ev).1 (bc := bc) (pc := pc) rb ((hp.step s7).step s16) (by omega) hpl).mono fun e w20 ⟨o20, a', c', he, s20, hrow, hc, hP'⟩ => ⟨_, _, _, _, he, o20, a', c', rfl, (s7.trans s16).none.trans s20, hrow, hc, hP'⟩
theorem Q2e (h : EG w o q k R) (hP : POrc w o k S) (ok : Tags w o) (hS : S.ok) (hlen : S.used.length < 1000000) (wv iv ev : Int) (hp : Row w o pa (bytesV p)) (hpl : p.length ≤ 1000000) :
    Calls Try.prog 8 #[.pointer (some (blk k)), .pointer (some (blk q)), .int .i64 wv, .int .i64 iv, .int .i64 ev, .slice pa p.length pc] w (Gb (fun j => j = k) w o (sealP S R wv iv ev p).1 fun w' o' => POrc w' o' k (sealP S R wv iv ev p).2) := by
  refine (Q1b.go _ _ _ _ _ _ _ _ (R := fun v w' => ∃ o' a' c', v = .tuple #[.slice a' (sealP S R wv iv ev p).1.1.length c', .int .i64 (sealP S R wv iv ev p).1.2] ∧ Step (fun j => j = k) w o w' o' ∧ Row w' o' a' (bytesV (sealP S R wv iv ev p).1.1) ∧ (sealP S R wv iv ev p).1.1.length ≤ c' ∧ POrc w' o' k (sealP S R wv iv ev p).2) ?_).mono fun e w' ⟨v, he, o', a', c', hv, hw⟩ => ⟨o', a', c', by rw [he, hv], hw⟩
  unfold Q1b.N
  rw [placeF]
  refine ⟨fun hf w9 X9 => ?_, fun hr w9 X9 => ?_⟩
  · have e1 : sealP S R wv iv ev p = (([], 1), S) := by unfold sealP; rw [hf]; rfl
    rw [e1]
    have s9 := Step.of_no X9 ok
    exact ⟨_, none, 0, rfl, s9.none, Row.nil _ _ _, Nat.le_refl _, hP.step s9 id⟩
  · have s9 := Step.of_no X9 ok
    exact (useSeal (h.step s9 id) (hP.step s9 id) s9.ok hS hlen hr (hp.step s9) hpl).mono fun e w20 ⟨o20, a', c', he, s20, hrow, hc, hP'⟩ => ⟨_, _, _, _, he, o20, a', c', rfl, s9.none.trans s20, hrow, hc, hP'⟩
theorem useOpen {e : Ent} (h : EG w o q k R) (hP : POrc w o k S) (ok : Tags w o) (hr : placeOK e.w e.i e.ep = true) (hS : Short S) {ea : Option Addr} {ec : Nat} (he : Row w o ea (bytesV e.body)) (hel : e.body.length < 1000000) (hec : e.body.length ≤ ec) :
    Calls Try.prog 28 #[.agg #[.int .i64 e.w, .int .i64 e.i, .int .i64 e.ep], .func (.func 31) #[.pointer (some (blk k))] #[], .pointer (some (blk q)), .slice ea e.body.length ec] w
      (Gb no w o (if (keyK R e.ep).2 ≠ 0 then ([], (keyK R e.ep).2) else openOf S (keyK R e.ep).1 (boundL e.w e.i e.ep) e.body) fun _ _ => True) := by
  obtain ⟨r, hr0⟩ : ∃ r, (if (keyK R e.ep).2 ≠ 0 then ([], (keyK R e.ep).2) else openOf S (keyK R e.ep).1 (boundL e.w e.i e.ep) e.body) = r := ⟨_, rfl⟩
  rw [hr0]
  refine (Q0L.go _ _ _ _ _ _ _ _ _ _ (R := fun v w' => ∃ o' a' c', v = .tuple #[.slice a' r.1.length c', .int .i64 r.2] ∧ Step no w o w' o' ∧ Row w' o' a' (bytesV r.1) ∧ r.1.length ≤ c' ∧ True) ?_).mono fun e w' ⟨v, he, o', a', c', hv, hw⟩ => ⟨o', a', c', by rw [he, hv], hw⟩
  have hr' : 0 ≤ e.w ∧ e.w < 8 ∧ 0 ≤ e.i ∧ e.i < 200 ∧ 0 ≤ e.ep ∧ e.ep < 20 := of_decide_eq_true hr
  unfold Q0L.N
  intro w7 p8 X7 hp8
  obtain ⟨s7, M7⟩ := Step.priv X7 hp8 ok
  refine (Q4H (h.step s7 id) e.ep).mono fun x w12 ⟨hx, hw⟩ => ⟨_, _, hx, (by rw [hw]; exact Keep.refl _ _), fun hk => ?_, fun hk => ?_⟩
  · subst hw
    rw [if_pos hk] at hr0
    subst hr0
    exact ⟨_, none, 0, rfl, s7, Row.nil _ _ _, Nat.le_refl _, trivial⟩
  · subst hw
    rw [if_neg (fun h => h hk)] at hr0
    refine (Q3S (x := e.w) (y := e.i) (z := e.ep) (by omega) (by omega) (by omega) (by omega)).mono fun x w16 ⟨ba, bc, hx, hO, X16⟩ => ⟨_, _, _, hx, by kernel_rfl, ?_⟩
    have s16 := Step.of_no X16 s7.ok
    have rb : Row w16 (grow w12 (tags w o [p8])) ba (bytesV (boundL e.w e.i e.ep)) := Q1B hO X16
    have hop := OpenO ((hP.step s7 id).step s16 id) s16.ok (keyK R e.ep).1 (bc := bc) (xc := ec) rb.1 ((he.step s7).step s16).1 hel hec (fun s hs => hS _ s hs)
    rw [hr0] at hop
    exact hop.mono fun x w20 ⟨o20, a', c', hx, s20, hrow, hc, _⟩ => ⟨_, _, _, _, hx, o20, a', c', rfl, (s7.trans s16).trans s20, hrow, hc, trivial⟩
theorem Q1R {e : Ent} (h : EG w o q k R) (hP : POrc w o k S) (ok : Tags w o) (hS : Short S) {ea : Option Addr} {ec : Nat} (he : Row w o ea (bytesV e.body)) (hel : e.body.length < 1000000) (hec : e.body.length ≤ ec) :
    Calls Try.prog 9 #[.pointer (some (blk k)), .pointer (some (blk q)), entV e ea ec] w (Gb no w o (openP S R e) fun _ _ => True) := by
  refine (Q1a.go _ _ _ _ _ _ _ _ _ _ _ _ (R := fun v w' => ∃ o' a' c', v = .tuple #[.slice a' (openP S R e).1.length c', .int .i64 (openP S R e).2] ∧ Step no w o w' o' ∧ Row w' o' a' (bytesV (openP S R e).1) ∧ (openP S R e).1.length ≤ c' ∧ True) ?_).mono fun x w' ⟨v, he, o', a', c', hv, hw⟩ => ⟨o', a', c', by rw [he, hv], hw⟩
  unfold Q1a.N
  rw [Q5F]
  refine ⟨fun hf w9 X9 => ?_, fun hr => ⟨fun hneg w9 X9 => ?_, fun hpos w9 X9 => ?_⟩⟩
  · have e1 : openP S R e = ([], 1) := by unfold openP; rw [hf]; rfl
    rw [e1]
    exact ⟨_, none, 0, rfl, Step.of_no X9 ok, Row.nil _ _ _, Nat.le_refl _, trivial⟩
  · have e1 : openP S R e = ([], 10) := by unfold openP; rw [if_pos hr, if_pos hneg]
    rw [e1]
    exact ⟨_, none, 0, rfl, Step.of_no X9 ok, Row.nil _ _ _, Nat.le_refl _, trivial⟩
  · have e1 : openP S R e = (if (keyK R e.ep).2 ≠ 0 then ([], (keyK R e.ep).2) else openOf S (keyK R e.ep).1 (boundL e.w e.i e.ep) e.body) := by unfold openP; rw [if_pos hr, if_neg (by omega)]
    have s9 := Step.of_no X9 ok
    have hr2 := (Q2J e).1 hr
    have hpl : placeOK e.w e.i e.ep = true := decide_eq_true (by omega)
    rw [e1]
    exact (useOpen (h.step s9 id) (hP.step s9 id) s9.ok hpl hS (he.step s9) hel hec).mono fun x w20 ⟨o20, a', c', hx, s20, hrow, hc, _⟩ => ⟨_, _, _, _, hx, o20, a', c', rfl, s9.trans s20, hrow, hc, trivial⟩
end
def classG (n : Nat) : Nat → Nat → Int
  | 0, t => -1
  | k + 1, t => if n = 8 + sizeN t then (t : Int) else classG n k (t + 1)
def classS (n : Nat) : Int := classG n 7 0
theorem Q5V {c : Int} (h0 : 0 ≤ c) (h1 : c < 7) : classS (8 + sizeN c) = c := by
  obtain ⟨t, rfl⟩ := Int.eq_ofNat_of_zero_le h0
  have ht : t < 7 := by omega
  clear h0 h1
  exact seven (P := fun t : Nat => classS (8 + sizeN t) = t) ht (by decide) (by decide) (by decide) (by decide) (by decide) (by decide) (by decide)
section
variable {w w' : World} {o o' : Own}
theorem Q3d (e : Ent) (ea : Option Addr) (ec : Nat) (w : World) : Calls Try.prog 12 #[entV e ea ec] w (Ret (.int .i64 (classS e.body.length)) fun w' => Ext no w w') := by
  refine (Q14.go _ _ _ _ _ _ _ _ _ _ (R := fun v w' => v = .int .i64 (classS e.body.length) ∧ Ext no w w') ?_).mono fun x w' ⟨v, he, hv, hw⟩ => ⟨by rw [he, hv], hw⟩
  unfold Q14.N
  intro w10 p11 X10 hp
  have hc : Q0H.F = 7 := rfl
  rw [hc]
  refine ⟨fun m vs w1 => ∃ t : Nat, vs = [.int .i64 t] ∧ m + t = 7 ∧ classS e.body.length = classG e.body.length m t ∧ Ext no w w1, 7, ⟨0, rfl, rfl, rfl, X10⟩, ?_⟩
  rintro m w15 i ⟨t, hv, hm, hcl, X15⟩
  cases hv
  refine ⟨fun ht w17 X17 => ?_, fun ht => ?_⟩
  · obtain ⟨m, rfl⟩ : ∃ k, m = k + 1 := ⟨m - 1, by omega⟩
    have hs := Q1n (t : Int)
    refine (Q2y (t : Int)).mono fun x w20 ⟨he, hw⟩ => ⟨_, he, (by rw [hw]; exact Keep.refl _ _), by omega, by omega, fun heq => ?_, fun hne => ⟨by omega, by omega, m, by omega, t + 1, rfl, by omega, ?_, by rw [hw]; exact X15.trans X17⟩⟩
    · have : e.body.length = 8 + sizeN (t : Int) := by omega
      refine ⟨?_, by rw [hw]; exact X15.trans X17⟩
      rw [hcl]; unfold classG; rw [if_pos this]
    · rw [hcl]; show (if _ then _ else _) = _; rw [if_neg (by omega)]
  · have : m = 0 := by omega
    subst this
    exact ⟨by rw [hcl]; rfl, X15⟩
end
open W (OwnB)
theorem Q3i {x y z u v t : Int} (hx : x < 9223372036854775808) (hy : y < 9223372036854775808) (hz0 : -9223372036854775808 ≤ z) (hz : z < 9223372036854775808) (hu : u < 9223372036854775808) (hv : v < 9223372036854775808) (ht0 : -9223372036854775808 ≤ t) (ht : t < 9223372036854775808) :
    boundL x y z = boundL u v t ↔ (x.toNat = u.toNat ∧ y.toNat = v.toNat ∧ z = t) := by
  have rd : ∀ (x y z : Int), x < 9223372036854775808 → y < 9223372036854775808 → -9223372036854775808 ≤ z → z < 9223372036854775808 →
      (W.numR (boundL x y z, 0)).1 = x.toNat ∧ (W.numR (W.numR (boundL x y z, 0)).2).1 = y.toNat ∧ (W.intR (W.numR (W.numR (boundL x y z, 0)).2).2).1 = z := fun x y z hx hy hz0 hz => by
    have e1 : boundL x y z = numL x.toNat ++ (numL y.toNat ++ (numL (W.zig z) ++ [])) := by unfold boundL; simp
    have q1 := W.numR_write (n := x.toNat) (by omega) (numL y.toNat ++ (numL (W.zig z) ++ []))
    have q2 := W.numR_write (n := y.toNat) (by omega) (numL (W.zig z) ++ [])
    have q3 := Q6i hz0 hz []
    rw [e1, q1]
    refine ⟨rfl, ?_, ?_⟩
    · show (W.numR (_, 0)).1 = _
      rw [q2]
    · show (W.intR (W.numR (_, 0)).2).1 = _
      rw [q2]
      show (W.intR (_, 0)).1 = _
      rw [q3]
  constructor
  · intro h
    obtain ⟨a1, a2, a3⟩ := rd x y z hx hy hz0 hz
    obtain ⟨b1, b2, b3⟩ := rd u v t hu hv ht0 ht
    rw [h] at a1 a2 a3
    exact ⟨a1.symm.trans b1, a2.symm.trans b2, a3.symm.trans b3⟩
  · rintro ⟨h1, h2, h3⟩
    unfold boundL
    rw [h1, h2, h3]
theorem Q6h {S : OS} (h : S.ok) (s : MS) (last : Int) : (beginK S s last).2.1 ∈ (beginK S s last).2.2.keys := by
  have ok1 := (Q4g h).1
  have kin := key_in S
  have f := Q1L (keyOf S).1 (nowM s.ml) (keyOf S).2 ok1
  have hk : (keyOf S).1 ∈ (wrapsL (keyOf S).2 (keyOf S).1 (nowM s.ml)).1.keys := by rw [f.2.1]; exact kin
  unfold beginK
  split
  · show (keyOf S).1 ∈ (sealOf _ _ _ _).2.keys
    unfold sealOf
    rw [if_pos hk]
    split
    · exact hk
    · show _ ∈ (freshOf _).2.keys
      rw [(Q0R _).2.1]; exact hk
  · exact hk
section
variable {S : OS} {R : Rng} {w i e : Int} {p : List UInt8}
theorem Q4e (h : KI S) (hl : S.used.length < 100000000) (hk : (sealP S R w i e p).1.2 = 0) :
    placeOK w i e = true ∧ (keyK R e).2 = 0 ∧ 0 ≤ classOf p.length ∧ (sealP S R w i e p).1.1.length = 8 + sizeN (classOf p.length) ∧ alook (sealP S R w i e p).2.sealed (handL (sealP S R w i e p).1.1) = some ⟨(keyK R e).1, boundL w i e, p⟩ := by
  unfold sealP at hk ⊢
  by_cases h1 : placeOK w i e = true
  · rw [if_pos h1] at hk ⊢
    by_cases h2 : (keyK R e).2 ≠ 0
    · rw [if_pos h2] at hk; exact absurd hk h2
    · rw [if_neg h2] at hk ⊢
      unfold sealOf at hk ⊢
      by_cases h3 : (keyK R e).1 ∈ S.keys
      · rw [if_pos h3] at hk ⊢
        by_cases h4 : classOf p.length < 0
        · rw [if_pos h4] at hk; cases hk
        · rw [if_neg h4] at hk ⊢
          obtain ⟨f1, f2, f3, f4, f5⟩ := Q1F h.inv
          have hsz := Q2h h.inv.ok
          have hfit := f1.fit (by omega) f4
          refine ⟨h1, by omega, by omega, by rw [Q13], ?_⟩
          show alook (aput S.sealed (freshOf S).1 _) ((handL (boxL (freshOf S).1.toNat _) : Nat) : Int) = _
          rw [Q2w (by omega), Q1k, if_pos (by omega)]
      · rw [if_neg h3] at hk; cases hk
  · rw [if_neg h1] at hk; cases hk
theorem Q60 (hk : (sealP S R w i e p).1.2 ≠ 0) : (sealP S R w i e p).1.1 = [] := by
  unfold sealP at hk ⊢
  split at hk
  · rename_i h1
    rw [if_pos h1]
    split at hk
    · rename_i h2; rw [if_pos h2]
    · rename_i h2
      rw [if_neg h2]
      unfold sealOf at hk ⊢
      split at hk
      · rename_i h3
        rw [if_pos h3]
        split at hk
        · rename_i h4; rw [if_pos h4]
        · exact absurd rfl hk
      · rename_i h3; rw [if_neg h3]
  · rename_i h1; rw [if_neg h1]
theorem Q3c (h : KI S) (hp : p.length ≤ 1000000) : Short (sealP S R w i e p).2 := by
  unfold sealP
  split
  · split
    · exact h.sh
    · unfold sealOf
      split
      · split
        · exact h.sh
        · intro x s hs
          have hs : alook (aput S.sealed (freshOf S).1 _) x = some s := hs
          rw [Q1k] at hs
          split at hs
          · cases hs; exact hp
          · exact h.sh x s hs
      · exact h.sh
  · exact h.sh
theorem Q6s (hp : (sealP S R w i e p).1.2 = 0 → True) : (sealP S R w i e p).1.1.length ≤ 1032 := by
  unfold sealP
  split
  · split
    · simp
    · unfold sealOf
      split
      · split
        · simp
        · show (boxL _ _).length ≤ _
          rw [Q13]
          have := Q1n (classOf p.length)
          omega
      · simp
  · simp
theorem Q64 {b : List UInt8} {key : Int} {bd : List UInt8} (hb : b.length = 8 + sizeN (classOf p.length)) (hs : alook S.sealed (handL b) = some ⟨key, bd, p⟩) (k' : Int) (bd' : List UInt8) :
    openOf S k' bd' b = if key ≠ k' then ([], 11) else if bd ≠ bd' then ([], 5) else (p, 0) := by
  unfold openOf
  rw [hs]
  show (if _ then _ else _) = _
  rw [if_neg (fun h => h hb)]
end
theorem Q2T {S : OS} {R : Rng} {p b : List UInt8} {key : Int} {bd : List UInt8} (hb : b.length = 8 + sizeN (classOf p.length)) (hs : alook S.sealed (handL b) = some ⟨key, bd, p⟩) {w i e pv : Int} (hpl : placeOK w i e = true) (hpv : pv = 0 ↔ i = 0) (hk : (keyK R e).2 = 0) :
    openP S R ⟨w, i, pv, 1, w, e, b, 0⟩ = if key ≠ (keyK R e).1 then ([], 11) else if bd ≠ boundL w i e then ([], 5) else (p, 0) := by
  have h1 : 0 ≤ w ∧ w < 8 ∧ 0 ≤ i ∧ i < 200 ∧ 0 ≤ e ∧ e < 20 := of_decide_eq_true hpl
  have h2 := Q1n (classOf p.length)
  have hr : Q1W ⟨w, i, pv, 1, w, e, b, 0⟩ = true := decide_eq_true (by
    show _ ∧ _ ∧ _ ∧ _ ∧ _ ∧ _ ∧ _ ∧ _ ∧ _ ∧ _ ∧ (pv = 0 ↔ i = 0)
    exact ⟨h1.1, h1.2.1, h1.2.2.1, h1.2.2.2.1, by show (-1 : Int) ≤ e; omega, h1.2.2.2.2.2, by show (0 : Int) < 1; decide, by show (1 : Int) ≤ 1099511627776; decide, rfl, by show b.length ≤ 1100; omega, hpv⟩)
  unfold openP
  rw [if_pos hr]
  show (if e < 0 then _ else if (keyK R e).2 ≠ 0 then _ else openOf S (keyK R e).1 (boundL w i e) b) = _
  rw [if_neg (by omega), if_neg (fun h => h hk), Q64 hb hs]
theorem Q5r {R : Rng} {t : Nat} {e : Int} (hk : R.keys = List.replicate t 0) (h0 : 0 ≤ e) (h1 : e < t) : keyK R e = (0, 11) := by
  unfold keyK
  obtain ⟨n, rfl⟩ := Int.eq_ofNat_of_zero_le h0
  have hz : (List.replicate t (0 : Int))[n]?.getD 0 = 0 := by rw [List.getElem?_replicate]; split <;> rfl
  rw [hk, if_neg (by rw [List.length_replicate]; omega), Int.toNat_natCast, if_pos hz]
theorem Q6l {S : OS} {R : Rng} {p b : List UInt8} {w i e pw qi qe : Int} (hb : b.length = 8 + sizeN (classOf p.length)) (hs : alook S.sealed (handL b) = some ⟨(keyK R e).1, boundL w i e, p⟩) (hpl : placeOK w i e = true) (hk : (keyK R e).2 = 0) :
    (openP S R ⟨pw, qi, if qi > 0 then 1 else 0, 1, pw, qe, b, 0⟩).2 = 0 ↔ (pw = w ∧ qi = i ∧ qe = e) := by
  have h1 : 0 ≤ w ∧ w < 8 ∧ 0 ≤ i ∧ i < 200 ∧ 0 ≤ e ∧ e < 20 := of_decide_eq_true hpl
  by_cases hr : Q1W ⟨pw, qi, if qi > 0 then 1 else 0, 1, pw, qe, b, 0⟩ = true
  · have h2 : 0 ≤ pw ∧ pw < 8 ∧ 0 ≤ qi ∧ qi < 200 ∧ -1 ≤ qe ∧ qe < 20 := by
      have := (Q2J _).1 hr
      exact ⟨this.1, this.2.1, this.2.2.1, this.2.2.2.1, this.2.2.2.2.1, this.2.2.2.2.2.1⟩
    by_cases hq : qe < 0
    · have e1 : openP S R ⟨pw, qi, if qi > 0 then 1 else 0, 1, pw, qe, b, 0⟩ = ([], 10) := by unfold openP; rw [if_pos hr]; exact if_pos hq
      rw [e1]
      exact ⟨fun h => (by cases h), fun h => by omega⟩
    · have hq2 : placeOK pw qi qe = true := decide_eq_true (by omega)
      by_cases hk2 : (keyK R qe).2 = 0
      · rw [Q2T hb hs hq2 (by split <;> omega) hk2]
        by_cases he : qe = e
        · subst he
          rw [if_neg (fun h => h rfl)]
          have hinj := Q3i (x := w) (y := i) (z := qe) (u := pw) (v := qi) (t := qe) (by omega) (by omega) (by omega) (by omega) (by omega) (by omega) (by omega) (by omega)
          by_cases hbd : boundL w i qe = boundL pw qi qe
          · have := hinj.1 hbd
            rw [if_neg (fun h => h hbd)]
            exact ⟨fun _ => by omega, fun _ => rfl⟩
          · rw [if_pos hbd]
            exact ⟨fun h => (by cases h), fun h => absurd (hinj.2 (by omega)) hbd⟩
        · have hbd : boundL w i e ≠ boundL pw qi qe := fun h => he (by
            have := (Q3i (x := w) (y := i) (z := e) (u := pw) (v := qi) (t := qe) (by omega) (by omega) (by omega) (by omega) (by omega) (by omega) (by omega) (by omega)).1 h
            exact this.2.2.symm)
          constructor
          · intro h
            split at h
            · cases h
            · cases h
          · exact fun h => absurd h.2.2 he
      · have e1 : openP S R ⟨pw, qi, if qi > 0 then 1 else 0, 1, pw, qe, b, 0⟩ = ([], (keyK R qe).2) := by unfold openP; rw [if_pos hr]; exact (if_neg hq).trans (if_pos hk2)
        rw [e1]
        exact ⟨fun h => absurd h hk2, fun h => absurd (by rw [h.2.2]; exact hk) hk2⟩
  · have e1 : openP S R ⟨pw, qi, if qi > 0 then 1 else 0, 1, pw, qe, b, 0⟩ = ([], 1) := by unfold openP; exact if_neg hr
    rw [e1]
    refine ⟨fun h => (by cases h), fun h => absurd (decide_eq_true ?_) hr⟩
    have h2 := Q1n (classOf p.length)
    show _ ∧ _ ∧ _ ∧ _ ∧ _ ∧ _ ∧ _ ∧ _ ∧ _ ∧ _ ∧ ((if qi > 0 then (1 : Int) else 0) = 0 ↔ qi = 0)
    obtain ⟨rfl, rfl, rfl⟩ := h
    exact ⟨h1.1, h1.2.1, h1.2.2.1, h1.2.2.2.1, by show (-1 : Int) ≤ qe; omega, h1.2.2.2.2.2, by show (0 : Int) < 1; decide, by show (1 : Int) ≤ 1099511627776; decide, rfl, by show b.length ≤ 1100; omega, by split <;> omega⟩
section
variable {w w' : World} {o o' : Own} {d : List Int} {many : Nat} {B : RB} {X : WD} {S : OS} {R : Nat → Rng} {K : List Int} {O : List (List UInt8)}
theorem RI.key (h : RI d many X S R K O) {e : Nat} (he : e < many) : keyK (R 0) e = (K[e]?.getD 0, 0) := Q6n h.a (by rw [h.len]; exact he) h.pi.ch.nz
theorem RI.one (hd : OInv (OS.init d)) (h : RI d 1 X S R K O) : K[0]?.getD 0 ∈ S.keys := by
  have e := h.det
  have e1 : roomK d 1 = ((beginK (roomK d 0).1 (roomK d 0).2.1 (roomK d 0).2.2.1).2.2, ⟨(roomK d 0).2.1.ml, (roomK d 0).2.1.ep + 1⟩, (beginK (roomK d 0).1 (roomK d 0).2.1 (roomK d 0).2.2.1).2.1, (roomK d 0).2.2.2 ++ [(beginK (roomK d 0).1 (roomK d 0).2.1 (roomK d 0).2.2.1).2.1]) := rfl
  rw [e1] at e
  have hS : (beginK (roomK d 0).1 (roomK d 0).2.1 (roomK d 0).2.2.1).2.2 = S := congrArg Prod.fst e
  have hK : (roomK d 0).2.2.2 ++ [(beginK (roomK d 0).1 (roomK d 0).2.1 (roomK d 0).2.2.1).2.1] = K := congrArg (fun x => x.2.2.2) e
  have hK : [(beginK (roomK d 0).1 (roomK d 0).2.1 (roomK d 0).2.2.1).2.1] = K := hK
  have p1 := (Q2j hd).1
  have p2 := (Q2j p1).1
  have hb := Q6h (S := (roomK d 0).1) p2.ok (roomK d 0).2.1 (roomK d 0).2.2.1
  rw [← hK, ← hS]
  exact hb
theorem RI.used (h : RI d many X S R K O) (hm : many ≤ 4) : S.used.length < 1000 := by have := h.us; omega
theorem Q4j (ok : Tags w o) : Calls Try.prog 6 #[] w (fun x w' => ∃ o', x = .returned (.bool true) ∧ Step no w o w' o') := by
  refine (Q0x.go (R := fun v w' => ∃ o', v = .bool true ∧ Step no w o w' o') ?_).mono fun x w' ⟨v, he, o', hv, h⟩ => ⟨o', by rw [he, hv], h⟩
  unfold Q0x.N
  refine (Q1K (d := []) (many := 1) ok (Row.nil _ _ _) (Nat.le_refl _) (fun x hx => by cases hx) (by simp) (by decide)).mono fun x w3 ⟨q, o3, he, B, X, S, R, K, O, hq, s3, A3, I, hov⟩ => ⟨_, he, fun h => (by cases h), fun _ => ⟨_, rfl, ?_⟩⟩
  subst hq
  have hus := I.used (by decide)
  refine ⟨_, A3.bk.celli 0 rfl rfl, _, A3.bk.celli 2 rfl rfl, fun w11 q12 X11 hb11 hq12 hq12' => ?_⟩
  have s11 := Step.of_no X11 s3.ok
  have A11 := A3.no s11
  obtain ⟨w16, hr16, hrow16, X16⟩ := litB Try.underlying25 Try.underlying5 [120] X11 hb11 hq12
  have s16 := Step.of_no X16 s3.ok
  have A16 := A3.no s16
  have r16 : Row w16 (grow w3 o3) (some (blk q12)) (bytesV [120]) := Row.fresh hrow16 fun ad ha => by cases ha; exact hq12
  refine ⟨A11.bk.celli 2 rfl rfl, A11.bk.celli 0 rfl rfl, _, _, _, w16, hr16, A16.bk.celli 2 rfl rfl, A16.bk.celli 0 rfl rfl, ?_⟩
  have hin : OInv (OS.init []) := OInv.init (l := []) (fun x hx => by cases hx)
  have hkey := I.key (e := 0) (by decide)
  have hmem := I.one hin
  have hsl : (sealP S (R 0) 1 0 0 [120]).1.2 = 0 := by
    have e1 : sealP S (R 0) 1 0 0 [120] = sealOf S (K[0]?.getD 0) (boundL 1 0 0) [120] := by
      unfold sealP
      rw [if_pos (by decide)]
      have hk2 : keyK (R 0) 0 = (K[0]?.getD 0, 0) := hkey
      rw [hk2]; exact if_neg (fun h => h rfl)
    rw [e1]
    unfold sealOf
    rw [if_pos hmem, if_neg (by decide)]
  refine (Q2e A16.a A16.orc s16.ok I.pi.ki.inv.ok (by omega) 1 0 0 r16 (by simp)).mono fun x w22 ⟨o22, ba, bc, he, s22, r22, hbc, P22⟩ => ⟨_, _, _, _, he, ?_⟩
  obtain ⟨g1, g2, g3, g4, g5⟩ := Q4e I.pi.ki (by omega) hsl
  have hsh := Q3c (R := R 0) (w := 1) (i := 0) (e := 0) (p := [120]) I.pi.ki (by simp)
  have hle : (sealP S (R 0) 1 0 0 [120]).1.1.length ≤ 1032 := by
    have := Q1n (classOf ([120] : List UInt8).length); omega
  have A22 := A16.toOrc s22 P22
  rw [hsl]
  generalize (sealP S (R 0) 1 0 0 [120]).1.1 = b at *
  generalize (sealP S (R 0) 1 0 0 [120]).2 = S2 at *
  refine ⟨_, A22.bk.celli 0 rfl rfl, _, A22.bk.celli 2 rfl rfl, fun w25 p30 X25 hp30 => ?_⟩
  obtain ⟨s25, M25⟩ := Step.priv X25 hp30 s22.ok
  have A25 := A22.no s25
  have hkk : (keyK (R 0) 0).2 = 0 := congrArg Prod.snd hkey
  have o1 : openP S2 (R 0) ⟨1, 0, 0, 1, 1, 0, b, 0⟩ = ([120], 0) := by
    rw [Q2T g4 g5 (by decide) (by decide) hkk, if_neg (fun h => h rfl), if_neg (fun h => h rfl)]
  have o2 : openP S2 (R 0) ⟨1, 1, 5, 1, 1, 0, b, 0⟩ = ([], 5) := by
    rw [Q2T g4 g5 (by decide) (by decide) hkk, if_neg (fun h => h rfl), if_pos (by decide)]
  have op1 := Q1R (e := ⟨1, 0, 0, 1, 1, 0, b, 0⟩) (ec := bc) A25.a A25.orc s25.ok hsh (r22.step s25) (by show b.length < 1000000; omega) hbc
  rw [o1] at op1
  refine op1.mono fun x w34 ⟨o34, ta, tc, he, s34, r34, htc, _⟩ => ⟨_, _, _, _, he, M25.keep s34 (fun _ _ => id), fun w37 X37 => ?_⟩
  have A34 := A25.no s34
  have M34 := M25.step s34
  have s37 : Step (fun i => i ∈ [p30]) w34 _ w37 _ := Step.stores X37 s34.ok M34 (fun b hb => by simp [hb])
  have h30 := (hp30 p30 (by simp)).1
  have u22 := A22.under
  have A37 := A34.far u22 s37 (fun j hj => by simp at hj; rw [hj]; exact h30)
  have M37 := M34.step s37
  have op2 := Q1R (e := ⟨1, 1, 5, 1, 1, 0, b, 0⟩) (ec := bc) A37.a A37.orc s37.ok hsh (((r22.step s25).step s34).step s37) (by show b.length < 1000000; omega) hbc
  rw [o2] at op2
  refine ⟨_, A37.bk.celli 0 rfl rfl, _, A37.bk.celli 2 rfl rfl, op2.mono fun x w45 ⟨o45, ta2, tc2, he, s45, r45, _⟩ => ⟨_, _, _, _, he, M37.keep s45 (fun _ _ => id), fun _ => ⟨fun _ => ?_, fun h => absurd rfl h⟩, fun h => absurd rfl h⟩⟩
  have S45 : Step no w o w45 o45 := (((((s3.trans s16).trans' s22 fun a ha => .inr (by rw [ha]; exact hov.k)).trans s25).trans s34).trans' s37 fun a ha => .inr (by simp at ha; rw [ha]; have := ((s3.trans s16).trans' s22 fun a ha => .inr (by rw [ha]; exact hov.k)).size; omega)).trans s45
  refine ⟨_, Q4i Try.underlying25 Try.underlying5 Try.underlying9 ((r34.step s37).step s45).1, fun _ => ⟨fun _ => ?_, fun h => absurd rfl h⟩, fun h => absurd (by rfl) h⟩
  refine (Q3d ⟨1, 1, 5, 1, 1, 0, b, 0⟩ ba bc w45).mono fun x w54 ⟨he, X54⟩ => ⟨_, he, _, ?_, S45.trans (Step.of_no X54 S45.ok)⟩
  have hc : classS b.length = 0 := by rw [g4]; decide
  show Value.bool (classS b.length == 0) = .bool true
  rw [hc]; rfl
end
end Go.Proofs.Ytgeakpldocfccaa