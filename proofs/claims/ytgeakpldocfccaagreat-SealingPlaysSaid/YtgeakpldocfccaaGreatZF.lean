/- Epochs, plainly: what Begin tells, and what a ring learns of it. -/
import Derived.Test.YtgeakpldocfccaaGreatZE
import Derived.Test.YtgeakpldocfccaaGreatZA
set_option linter.unusedVariables false
set_option linter.unusedSimpArgs false
set_option maxRecDepth 20000
set_option maxHeartbeats 4000000
namespace Go.Proofs.YtgeakpldocfccaaGreat
open Go Go.Mx Go.Proofs
structure KI (S : OS) : Prop where
  inv : OInv S
  su : ∀ x s, alook S.sealed x = some s → x ∈ S.used
  wu : ∀ x s, alook S.wrapped x = some s → x ∈ S.used
  sh : Short S
structure KLe (S S' : OS) : Prop where
  pb : S'.publics = S.publics
  sl : ∀ x s, alook S.sealed x = some s → alook S'.sealed x = some s
  wr : ∀ x s, alook S.wrapped x = some s → alook S'.wrapped x = some s
  us : ∀ x ∈ S.used, x ∈ S'.used
theorem KLe.refl (S : OS) : KLe S S := ⟨rfl, fun _ _ h => h, fun _ _ h => h, fun _ h => h⟩
theorem KLe.trans {S T U : OS} (a : KLe S T) (b : KLe T U) : KLe S U := ⟨b.pb.trans a.pb, fun x s h => b.sl x s (a.sl x s h), fun x s h => b.wr x s (a.wr x s h), fun x h => b.us x (a.us x h)⟩
theorem KLe.open {S S' : OS} (h : KLe S S') {k : Int} {b x p : List UInt8} (ho : openOf S k b x = (p, 0)) : openOf S' k b x = (p, 0) := by
  unfold openOf at ho ⊢
  cases hs : alook S.sealed (handL x) with
  | none => rw [hs] at ho; cases ho
  | some s => rw [hs] at ho; rw [h.sl _ _ hs]; exact ho
theorem Q2s {S : OS} (h : S.ok) : (freshOf S).2.used.length = S.used.length + 1 := by
  obtain ⟨_, _, a3, _⟩ := Q1p h
  rw [a3]; simp
theorem KI.key {S : OS} (h : KI S) : KI (keyOf S).2 ∧ KLe S (keyOf S).2 ∧ (keyOf S).1 ∉ S.used ∧ (keyOf S).1 ≠ 0 ∧ (keyOf S).1 ∈ (keyOf S).2.used ∧ (keyOf S).2.used.length = S.used.length + 1 := by
  obtain ⟨c1, c2, c3, c4, c5, c6, c7, c8⟩ := Q0W S
  obtain ⟨f1, f2, f3, f4, f5⟩ := Q1L h.inv
  have e7 : (keyOf S).2.sealed = S.sealed := c7
  have e8 : (keyOf S).2.wrapped = S.wrapped := c8
  exact ⟨⟨keyInv h.inv, fun x s e => f2.used _ (h.su x s (by rw [← e7]; exact e)), fun x s e => f2.used _ (h.wu x s (by rw [← e8]; exact e)), fun x s e => h.sh x s (by rw [← e7]; exact e)⟩,
    ⟨c4, fun x s e => by rw [e7]; exact e, fun x s e => by rw [e8]; exact e, f2.used⟩, f3, f5, f4, Q2s h.inv.ok⟩
theorem KI.wrap {S : OS} (h : KI S) {p key : Int} (hp : (alook S.publics p).isSome) (hk : key ∈ S.keys) (hl : S.used.length < 100000000) :
    KI (wrapOf S p key).2 ∧ KLe S (wrapOf S p key).2 ∧ (wrapOf S p key).1.1.length = 16 ∧ alook (wrapOf S p key).2.wrapped (handL (wrapOf S p key).1.1) = some (p, key) ∧ (wrapOf S p key).2.keys = S.keys ∧ (wrapOf S p key).2.used.length = S.used.length + 1 := by
  obtain ⟨c1, c2, c3, c4, c5, c6, c7, c8⟩ := Q0W S
  obtain ⟨f1, f2, f3, f4, f5⟩ := Q1L h.inv
  have hsz := Q2s h.inv.ok
  have hfit := f1.fit (by omega) f4
  have hi := wrapInv h.inv p key
  rw [Q3w hp hk] at hi ⊢
  have hle : ∀ x v, alook S.wrapped x = some v → alook (aput S.wrapped (freshOf S).1 (p, key)) x = some v := fun x v e => by
    rw [Q1u, if_neg (fun e' => f3 (by rw [e']; exact h.wu x v e))]; exact e
  refine ⟨⟨hi, fun x s e => f2.used _ (h.su x s (by rw [← c7]; exact e)), fun x s e => ?_, fun x s e => h.sh x s (by rw [← c7]; exact e)⟩, ⟨c4, fun x s e => by show alook (freshOf S).2.sealed x = _; rw [c7]; exact e, hle, f2.used⟩, by rw [Q1c], ?_, c2, hsz⟩
  · have e : alook (aput S.wrapped (freshOf S).1 (p, key)) x = some s := e
    rw [Q1u] at e
    split at e
    · rename_i hx; subst hx; exact f4
    · exact f2.used _ (h.wu x s e)
  · show alook (aput S.wrapped (freshOf S).1 (p, key)) ((handL (boxL (freshOf S).1.toNat 8) : Nat) : Int) = _
    rw [Q2K (by omega), Q1u, if_pos (by omega)]
theorem KI.sealK {S : OS} (h : KI S) {key : Int} {b p : List UInt8} (hk : key ∈ S.keys) (hp : p.length = 8) (hl : S.used.length < 100000000) :
    KI (sealOf S key b p).2 ∧ KLe S (sealOf S key b p).2 ∧ (sealOf S key b p).1.1.length = 24 ∧ openOf (sealOf S key b p).2 key b (sealOf S key b p).1.1 = (p, 0) ∧ (sealOf S key b p).2.used.length = S.used.length + 1 := by
  obtain ⟨c1, c2, c3, c4, c5, c6, c7, c8⟩ := Q0W S
  obtain ⟨f1, f2, f3, f4, f5⟩ := Q1L h.inv
  have hsz := Q2s h.inv.ok
  have hfit := f1.fit (by omega) f4
  have hi := sealInv h.inv key b p
  have hc : classOf p.length = 0 := by rw [hp]; decide
  have hE : sealOf S key b p = ((boxL (freshOf S).1.toNat (sizeN (classOf p.length)), 0), { (freshOf S).2 with sealed := aput S.sealed (freshOf S).1 ⟨key, b, p⟩ }) := by
    unfold sealOf; rw [if_pos hk, if_neg (by omega)]
  rw [hE] at hi ⊢
  have hz : sizeN (classOf p.length) = 16 := by rw [hc]; decide
  have hle : ∀ x v, alook S.sealed x = some v → alook (aput S.sealed (freshOf S).1 (⟨key, b, p⟩ : Sealed)) x = some v := fun x v e => by
    rw [Q1u, if_neg (fun e' => f3 (by rw [e']; exact h.su x v e))]; exact e
  refine ⟨⟨hi, fun x s e => ?_, fun x s e => f2.used _ (h.wu x s (by rw [← c8]; exact e)), fun x s e => ?_⟩, ⟨c4, hle, fun x s e => by show alook (freshOf S).2.wrapped x = _; rw [c8]; exact e, f2.used⟩, by rw [Q1c, hz], ?_, hsz⟩
  · have e : alook (aput S.sealed (freshOf S).1 (⟨key, b, p⟩ : Sealed)) x = some s := e
    rw [Q1u] at e
    split at e
    · rename_i hx; subst hx; exact f4
    · exact f2.used _ (h.su x s e)
  · have e : alook (aput S.sealed (freshOf S).1 (⟨key, b, p⟩ : Sealed)) x = some s := e
    rw [Q1u] at e
    split at e
    · cases e; show p.length ≤ _; omega
    · exact h.sh x s e
  · have hL : alook (aput S.sealed (freshOf S).1 (⟨key, b, p⟩ : Sealed)) ((handL (boxL (freshOf S).1.toNat (sizeN (classOf p.length))) : Nat) : Int) = some ⟨key, b, p⟩ := by
      rw [Q2K (by omega), Q1u, if_pos (by omega)]
    unfold openOf
    rw [hL]
    show (if _ then _ else if _ then _ else if _ then _ else _) = _
    rw [if_neg (by rw [Q1c]; exact fun h => h rfl), if_neg (fun h => h rfl), if_neg (fun h => h rfl)]
theorem Q32 (key : Int) : ∀ (l : List Mem) (S : OS), KI S → key ∈ S.keys → (∀ m ∈ l, (alook S.publics m.pub).isSome) → S.used.length + l.length < 100000000 →
    KI (wrapsL S key l).1 ∧ KLe S (wrapsL S key l).1 ∧ (wrapsL S key l).2.map Prod.fst = l.map Mem.who ∧ (wrapsL S key l).1.keys = S.keys ∧ (wrapsL S key l).1.used.length = S.used.length + l.length ∧
    ∀ p ∈ (wrapsL S key l).2, ∃ m ∈ l, p.1 = m.who ∧ p.2.length = 16 ∧ alook (wrapsL S key l).1.wrapped (handL p.2) = some (m.pub, key)
  | [], S, h, hk, hp, hl => ⟨h, KLe.refl _, rfl, rfl, rfl, fun p hp => by cases hp⟩
  | m :: r, S, h, hk, hp, hl => by
    simp only [List.length_cons] at hl
    obtain ⟨a1, a2, a3, a4, a5, a6⟩ := h.wrap (hp m (by simp)) hk (by omega)
    obtain ⟨b1, b2, b3, b4, b5, b6⟩ := Q32 key r (wrapOf S m.pub key).2 a1 (by rw [a5]; exact hk) (fun x hx => by rw [a2.pb]; exact hp x (by simp [hx])) (by omega)
    refine ⟨b1, a2.trans b2, ?_, b4.trans a5, ?_, ?_⟩
    · show m.who :: (wrapsL (wrapOf S m.pub key).2 key r).2.map Prod.fst = _
      rw [b3]; rfl
    · show (wrapsL (wrapOf S m.pub key).2 key r).1.used.length = S.used.length + (r.length + 1); omega
    · intro p hp'
      rcases List.mem_cons.1 (show p ∈ (m.who, (wrapOf S m.pub key).1.1) :: (wrapsL (wrapOf S m.pub key).2 key r).2 from hp') with rfl | hp'
      · exact ⟨m, by simp, rfl, a3, b2.wr _ _ a4⟩
      · obtain ⟨m', hm, e1, e2, e3⟩ := b6 p hp'
        exact ⟨m', by simp [hm], e1, e2, e3⟩
structure BK (S : OS) (s : MS) (last : Int) : Prop where
  ki : KI (beginK S s last).2.2
  le : KLe S (beginK S s last).2.2
  len : (beginK S s last).2.2.used.length ≤ S.used.length + 10
  nz : (beginK S s last).2.1 ≠ 0
  new : (beginK S s last).2.1 ∉ S.used
  us : (beginK S s last).2.1 ∈ (beginK S s last).2.2.used
  kd : (beginK S s last).1.kd = 3
  right : rightM (beginK S s last).1 = true
  app : applyM s (beginK S s last).1 = if s.ep + 1 ≥ 20 then (MS.z, 2) else (⟨s.ml, s.ep + 1⟩, 0)
  opens : 0 ≤ s.ep → openOf (beginK S s last).2.2 (beginK S s last).2.1 (boundE (s.ep + 1)) (beginK S s last).1.old = (boxL last.toNat 0, 0)
  box : ∀ p ∈ (beginK S s last).1.ws, ∃ m ∈ nowM s.ml, p.1 = m.who ∧ p.2.length = 16 ∧ alook (beginK S s last).2.2.wrapped (handL p.2) = some (m.pub, (beginK S s last).2.1)
  whos : (beginK S s last).1.ws.map Prod.fst = (nowM s.ml).map Mem.who
theorem Q3W : ∀ {l : List (Int × List UInt8)} {last : Int}, l.Pairwise (fun a b => a.1 < b.1) → (∀ x ∈ l, last < x.1) → (∀ x ∈ l, x.2.length = 16 ∧ 0 ≤ x.1 ∧ x.1 < 8) → boxesGo last l = true
  | [], last, _, _, _ => rfl
  | x :: r, last, hp, h1, h2 => by
    have h3 := List.pairwise_cons.1 hp
    have hx := h2 x (by simp)
    have := Q3W h3.2 (last := x.1) h3.1 fun y hy => h2 y (by simp [hy])
    unfold boxesGo
    rw [this]
    simp [hx, h1 x (by simp)]
theorem Q4p {l : List Mem} {m : Mem} (h : m ∈ nowM l) : m ∈ l ∧ m.to_ = -1 := by
  unfold nowM at h
  simpa using h
theorem Q4H {S : OS} {s : MS} {last : Int} (h : KI S) (hs : s.ok) (hp : ∀ m ∈ nowM s.ml, (alook S.publics m.pub).isSome) (hne : nowM s.ml ≠ []) (hl : S.used.length < 10000000) : BK S s last := by
  obtain ⟨a1, a2, a3, a4, a5, a6⟩ := h.key
  have h8 := hs.le
  have hnl : (nowM s.ml).length ≤ 8 := Nat.le_trans (List.length_filter_le _ _) h8
  have hki := key_in S
  obtain ⟨b1, b2, b3, b4, b5, b6⟩ := Q32 (keyOf S).1 (nowM s.ml) (keyOf S).2 a1 hki (fun m hm => by rw [a2.pb]; exact hp m hm) (by omega)
  obtain ⟨d1, d2, d3, d4, d5⟩ := b1.sealK (key := (keyOf S).1) (b := boundE (s.ep + 1)) (p := boxL last.toNat 0) (by rw [b4]; exact hki) (by rw [Q1c]) (by omega)
  have hpw : ((wrapsL (keyOf S).2 (keyOf S).1 (nowM s.ml)).2.map Prod.fst).Pairwise (· < ·) := by
    rw [b3, List.pairwise_map]
    exact hs.sorted.filter _
  have hws : boxesP (wrapsL (keyOf S).2 (keyOf S).1 (nowM s.ml)).2 = true := by
    unfold boxesP
    have hne2 : (wrapsL (keyOf S).2 (keyOf S).1 (nowM s.ml)).2 ≠ [] := fun e => by
      rw [e] at b3
      exact hne (List.map_eq_nil_iff.1 b3.symm)
    have hr : ∀ x ∈ (wrapsL (keyOf S).2 (keyOf S).1 (nowM s.ml)).2, x.2.length = 16 ∧ 0 ≤ x.1 ∧ x.1 < 8 := fun x hx => by
      obtain ⟨m, hm, e1, e2, _⟩ := b6 x hx
      have := hs.who m (Q4p hm).1
      rw [e1]; exact ⟨e2, this⟩
    rw [Q3W (List.pairwise_map.1 hpw) (fun x hx => by have := (hr x hx).2; omega) hr]
    simp [hne2]
  have hright : ∀ old : List UInt8, old.length = 0 ∨ old.length = 24 → rightM ⟨3, 0, 0, 0, (wrapsL (keyOf S).2 (keyOf S).1 (nowM s.ml)).2, old⟩ = true := fun old ho => by
    unfold rightM
    show (if (0 : Int) ≤ 0 ∧ (0 : Int) < 8 then (if ((3 : Int) == 3) = boxesP (wrapsL (keyOf S).2 (keyOf S).1 (nowM s.ml)).2 then _ else false) else false) = true
    rw [if_pos (by decide), hws, if_pos rfl]
    show (if (3 : Int) ≠ 3 ∧ ¬ ((wrapsL (keyOf S).2 (keyOf S).1 (nowM s.ml)).2 = [] ∧ old = []) then false else if (3 : Int) = 1 then decide ((0 : Int) ≠ 0 ∧ (0 : Int) = 0) else if (3 : Int) = 2 then decide ((0 : Int) ≠ 0 ∧ (0 : Int) = 0 ∧ 0 ≤ (0 : Int) ∧ (0 : Int) ≤ 200) else if (3 : Int) = 3 then decide ((0 : Int) = 0 ∧ (0 : Int) = 0 ∧ (0 : Int) = 0 ∧ (old.length = 0 ∨ old.length = 24)) else false) = true
    rw [if_neg (fun h => h.1 rfl), if_neg (by decide), if_neg (by decide), if_pos rfl]
    exact decide_eq_true ⟨rfl, rfl, rfl, ho⟩
  have happ : ∀ old : List UInt8, (old.length = 0 ∨ old.length = 24) → ((old.length : Int) == 0) = decide (s.ep < 0) → applyM s ⟨3, 0, 0, 0, (wrapsL (keyOf S).2 (keyOf S).1 (nowM s.ml)).2, old⟩ = if s.ep + 1 ≥ 20 then (MS.z, 2) else (⟨s.ml, s.ep + 1⟩, 0) := fun old ho he => by
    unfold applyM
    rw [if_pos (hright old ho)]
    show (if (3 : Int) = 1 then _ else if (3 : Int) = 2 then _ else beginM s ⟨3, 0, 0, 0, (wrapsL (keyOf S).2 (keyOf S).1 (nowM s.ml)).2, old⟩) = _
    rw [if_neg (by decide), if_neg (by decide)]
    unfold beginM
    by_cases h20 : s.ep + 1 ≥ 20
    · rw [if_pos h20, if_pos h20]
    · rw [if_neg h20, if_neg h20]
      show (if ((old.length : Int) == 0) = decide (s.ep < 0) then (if (nowM s.ml).map Mem.who = (wrapsL (keyOf S).2 (keyOf S).1 (nowM s.ml)).2.map Prod.fst then _ else _) else _) = _
      rw [if_pos he, if_pos b3.symm]
  by_cases hep : 0 ≤ s.ep
  · have hE : beginK S s last = (⟨3, 0, 0, 0, (wrapsL (keyOf S).2 (keyOf S).1 (nowM s.ml)).2, (sealOf (wrapsL (keyOf S).2 (keyOf S).1 (nowM s.ml)).1 (keyOf S).1 (boundE (s.ep + 1)) (boxL last.toNat 0)).1.1⟩, (keyOf S).1, (sealOf (wrapsL (keyOf S).2 (keyOf S).1 (nowM s.ml)).1 (keyOf S).1 (boundE (s.ep + 1)) (boxL last.toNat 0)).2) := by
      unfold beginK; exact if_pos hep
    have hold : ((((sealOf (wrapsL (keyOf S).2 (keyOf S).1 (nowM s.ml)).1 (keyOf S).1 (boundE (s.ep + 1)) (boxL last.toNat 0)).1.1.length : Nat) : Int) == 0) = decide (s.ep < 0) := by
      rw [d3, decide_eq_false (by omega)]; rfl
    constructor <;> rw [hE]
    · exact d1
    · exact (a2.trans b2).trans d2
    · show (sealOf _ _ _ _).2.used.length ≤ _; omega
    · exact a4
    · exact a3
    · exact d2.us _ (b2.us _ a5)
    · exact hright _ (.inr d3)
    · exact happ _ (.inr d3) hold
    · exact fun _ => d4
    · intro p hp'
      obtain ⟨m, hm, e1, e2, e3⟩ := b6 p hp'
      exact ⟨m, hm, e1, e2, d2.wr _ _ e3⟩
    · exact b3
  · have hE : beginK S s last = (⟨3, 0, 0, 0, (wrapsL (keyOf S).2 (keyOf S).1 (nowM s.ml)).2, []⟩, (keyOf S).1, (wrapsL (keyOf S).2 (keyOf S).1 (nowM s.ml)).1) := by
      unfold beginK; exact if_neg hep
    have hold : (((([] : List UInt8).length : Nat) : Int) == 0) = decide (s.ep < 0) := by
      rw [decide_eq_true (by omega)]; rfl
    constructor <;> rw [hE]
    · exact b1
    · exact a2.trans b2
    · show (wrapsL _ _ _).1.used.length ≤ _; omega
    · exact a4
    · exact a3
    · exact b2.us _ a5
    · exact hright _ (.inl rfl)
    · exact happ _ (.inl rfl) hold
    · exact fun h => absurd h hep
    · exact b6
    · exact b3
theorem BK.told {S : OS} {s : MS} {last : Int} (h : BK S s last) {R : Rng} (h1 : ∃ m ∈ nowM s.ml, m.who = R.who) (h2 : ∀ m ∈ nowM s.ml, m.who = R.who → alook S.publics m.pub = some R.secret) : toldBy (beginK S s last).2.2 R (beginK S s last).1 = ((beginK S s last).2.1, 0) := by
  obtain ⟨m, hm, hw⟩ := h1
  unfold toldBy
  cases hf : (beginK S s last).1.ws.find? (fun p => p.1 == R.who) with
  | none =>
    have hmem : m.who ∈ (beginK S s last).1.ws.map Prod.fst := by rw [h.whos]; exact List.mem_map_of_mem hm
    obtain ⟨p, hp, e⟩ := List.mem_map.1 hmem
    have := List.find?_eq_none.1 hf p hp
    simp [e, hw] at this
  | some p =>
    have hp := List.mem_of_find?_eq_some hf
    have he : p.1 = R.who := by have := List.find?_some hf; simpa using this
    obtain ⟨m', hm', e1, e2, e3⟩ := h.box p hp
    show Q1a _ _ _ = _
    unfold Q1a
    rw [e3]
    show (if _ then _ else if _ then _ else _) = _
    rw [if_neg (by rw [e2]; exact fun h => h rfl), if_neg (by
      rw [h.le.pb]
      show ¬ (alook S.publics m'.pub).getD 0 ≠ _
      rw [h2 m' hm' (by rw [← e1]; exact he)]
      exact fun h => h rfl)]
theorem BK.other {S : OS} {s : MS} {last : Int} (h : BK S s last) {R : Rng} (h1 : ∀ m ∈ nowM s.ml, m.who ≠ R.who) : toldBy (beginK S s last).2.2 R (beginK S s last).1 = (0, 11) := by
  unfold toldBy
  cases hf : (beginK S s last).1.ws.find? (fun p => p.1 == R.who) with
  | none => rfl
  | some p =>
    have hp := List.mem_of_find?_eq_some hf
    have he : p.1 = R.who := by have := List.find?_some hf; simpa using this
    obtain ⟨m', hm', e1, _⟩ := h.box p hp
    exact absurd (by rw [← e1]; exact he) (h1 m' hm')
def mkK (K : List Int) (m e : Nat) : List Int := (List.range K.length).map fun d => if d < m ∨ e ≤ d then K[d]?.getD 0 else 0
theorem Q1Y (K : List Int) (m e : Nat) : (mkK K m e).length = K.length := by simp [mkK]
theorem mkK_get {K : List Int} {m e d : Nat} (hd : d < K.length) : (mkK K m e)[d]?.getD 0 = if d < m ∨ e ≤ d then K[d]?.getD 0 else 0 := by
  unfold mkK
  rw [List.getElem?_map, List.getElem?_range hd]; rfl
theorem Q4l {K : List Int} {m e : Nat} (h : e ≤ m) : mkK K m e = K := by
  refine List.ext_getElem? fun d => ?_
  unfold mkK
  rw [List.getElem?_map]
  by_cases hd : d < K.length
  · rw [List.getElem?_range hd]
    show some (if d < m ∨ e ≤ d then K[d]?.getD 0 else 0) = _
    rw [if_pos (by omega), List.getElem?_eq_getElem hd]; rfl
  · rw [List.getElem?_eq_none (by simp; omega), List.getElem?_eq_none (by omega)]; rfl
theorem Q6N (K : List Int) (m : Nat) (hm : m ≤ K.length) (x : Int) : mkK K m K.length ++ [x] = mkK (K ++ [x]) m K.length := by
  unfold mkK
  rw [List.length_append, List.length_singleton, List.range_succ, List.map_append]
  congr 1
  · refine List.map_congr_left fun d hd => ?_
    have hd := List.mem_range.1 hd
    rw [List.getElem?_append_left hd]
  · show [x] = [if K.length < m ∨ K.length ≤ K.length then (K ++ [x])[K.length]?.getD 0 else 0]
    rw [if_pos (.inr (Nat.le_refl _))]; simp
theorem Q5D (K : List Int) (m : Nat) (hm : m ≤ K.length) (x : Int) : mkK K m K.length ++ [0] = mkK (K ++ [x]) m (K.length + 1) := by
  unfold mkK
  rw [List.length_append, List.length_singleton, List.range_succ, List.map_append]
  congr 1
  · refine List.map_congr_left fun d hd => ?_
    have hd := List.mem_range.1 hd
    rw [List.getElem?_append_left hd]
    by_cases h : d < m
    · rw [if_pos (.inl h), if_pos (.inl h)]
    · rw [if_neg (by omega), if_neg (by omega)]
  · show [(0 : Int)] = [if K.length < m ∨ K.length + 1 ≤ K.length then (K ++ [x])[K.length]?.getD 0 else 0]
    rw [if_neg (by omega)]
structure Chain (S : OS) (K : List Int) (O : List (List UInt8)) : Prop where
  len : O.length = K.length
  nz : ∀ x ∈ K, 0 < x ∧ x < 18446744073709551616
  link : ∀ e, e + 1 < K.length → openOf S (K[e + 1]?.getD 0) (boundE ((e + 1 : Nat) : Int)) (O[e + 1]?.getD []) = (boxL (K[e]?.getD 0).toNat 0, 0)
  short : ∀ b ∈ O, b.length < 1000000
theorem Chain.pos {S : OS} {K : List Int} {O : List (List UInt8)} (h : Chain S K O) {d : Nat} (hd : d < K.length) : 0 < K[d]?.getD 0 ∧ K[d]?.getD 0 < 18446744073709551616 := by
  rw [List.getElem?_eq_getElem hd]; exact h.nz _ (List.getElem_mem hd)
theorem Q69 {h : Nat} (hh : h < 18446744073709551616) : valOf (boxL h 0) = h := by
  have := Q2K hh 0
  unfold handL at this
  rw [if_neg (by rw [Q1c]; omega), boxL_eq, List.drop_left' (by rfl), List.take_left' (by rfl), if_neg (by simp)] at this
  rw [boxL_eq, List.replicate_zero, List.append_nil]; exact this
theorem Q4W {S : OS} {K : List Int} {O : List (List UInt8)} (h : Chain S K O) (m : Nat) : ∀ (e : Nat), e < K.length → backK S O e (mkK K m e) = K
  | 0, _ => Q4l (Nat.zero_le _)
  | e + 1, he => by
    unfold backK
    by_cases hem : e < m
    · rw [if_neg, Q4l hem]
      rintro ⟨⟨_, h2⟩, _⟩
      rw [mkK_get (by omega), if_pos (.inl hem)] at h2
      have := (h.pos (d := e) (by omega)).1
      omega
    · have h1 : (mkK K m (e + 1))[e + 1]?.getD 0 = K[e + 1]?.getD 0 := by rw [mkK_get he, if_pos (.inr (Nat.le_refl _))]
      have h0 : (mkK K m (e + 1))[e]?.getD 0 = 0 := by rw [mkK_get (by omega), if_neg (by omega)]
      have hp := h.pos (d := e + 1) he
      have hp0 := h.pos (d := e) (by omega)
      have hl := h.link e he
      rw [if_pos]
      · rw [h1, hl]
        have : ((valOf (boxL (K[e]?.getD 0).toNat 0) : Nat) : Int) = K[e]?.getD 0 := by rw [Q69 (by omega)]; omega
        show backK S O e ((mkK K m (e + 1)).set e ((valOf (boxL (K[e]?.getD 0).toNat 0) : Nat) : Int)) = K
        rw [this]
        have hset : (mkK K m (e + 1)).set e (K[e]?.getD 0) = mkK K m e := by
          refine List.ext_getElem? fun d => ?_
          rw [List.getElem?_set]
          split
          · rename_i hde; subst hde
            rw [if_pos (by rw [Q1Y]; omega)]
            unfold mkK
            rw [List.getElem?_map, List.getElem?_range (by omega)]
            show _ = some (if _ then _ else _)
            rw [if_pos (.inr (Nat.le_refl _))]
          · rename_i hde
            unfold mkK
            rw [List.getElem?_map, List.getElem?_map]
            by_cases hd : d < K.length
            · rw [List.getElem?_range hd]
              show some (if d < m ∨ e + 1 ≤ d then _ else _) = some (if d < m ∨ e ≤ d then _ else _)
              have hiff : (d < m ∨ e + 1 ≤ d) ↔ (d < m ∨ e ≤ d) := by omega
              simp only [hiff]
            · rw [List.getElem?_eq_none (by simp; omega)]; rfl
        rw [hset]
        exact Q4W h m e (by omega)
      · unfold tells
        rw [h1, h0, hl]
        exact ⟨⟨by omega, rfl⟩, rfl, by rw [Q1c]⟩
set_option maxRecDepth 100000
set_option maxRecDepth 20000
structure WD where
  k : Nat
  j : Nat
  pub : Nat → Int
  rq : Nat → Option Nat
  mq : Nat → Option Nat
  sm : MS
  tm : MS
  sec : Nat → Int
  last : Int
section
variable {w w' w1 w2 : World} {o o' o1 : Own} {q k p N m i : Nat} {K : Nat → Prop} {X : WD} {a : Option Addr} {c : Nat}
theorem Blk.apart {t t' : TypeId} {cs cs' : List Value} (h : Blk w p t cs) (k : Blk w q t' cs') (hn : t ≠ t') : p ≠ q := fun e => by
  subst e
  have : some (Obj.cells cs.toArray t) = some (Obj.cells cs'.toArray t') := h.symm.trans k
  cases this; exact hn rfl
theorem POrc.typ {S : OS} (h : POrc w o k S) : ∃ cs, Blk w k 103 cs := by
  obtain ⟨g, rfl, h1, _⟩ := h
  obtain ⟨da, dc, hb, _⟩ := h1.st
  exact ⟨_, hb⟩
theorem Rof.typ {S : OS} {n : Nat} (h : Rof w o k S n) : ∃ cs, Blk w k 54 cs := by
  obtain ⟨d, R, ⟨R', _, h1⟩, _⟩ := h.ex
  obtain ⟨da, dc, la, lc, hb, _⟩ := h1.at_
  exact ⟨_, hb⟩
theorem EG.typ {R : Rng} (h : EG w o q k R) : ∃ cs, Blk w q 109 cs := by
  obtain ⟨ka, kc, oa, oc, ol, hb, _⟩ := h.mem
  exact ⟨_, hb⟩
theorem MG.typ {R : Rng} (h : MG w o q R) : ∃ cs, Blk w q 61 cs := by
  obtain ⟨ka, kc, oa, oc, ol, hb, _⟩ := h.mem
  exact ⟨_, hb⟩
theorem EG.diff {R R' : Rng} {k' q' : Nat} (h : EG w o q k R) (h' : EG w o q' k' R') (hn : R.who ≠ R'.who) : q ≠ q' := fun e => by
  subst e
  have e2 := h.who.symm.trans h'.who
  simp at e2
  exact hn e2
end
section
variable {w w' w1 w2 : World} {o o' o1 : Own} {q k p N m n i : Nat} {K : Nat → Prop} {X : WD} {S T : OS} {R M : Nat → Rng}
end
theorem Q3h (S : OS) : (pairOf S).2.sealed = S.sealed := by
  obtain ⟨c1, c2, c3, c4, c5, c6, c7, c8⟩ := Q0W S
  obtain ⟨d1, d2, d3, d4, d5, d6, d7, d8⟩ := Q0W { (freshOf S).2 with secrets := badd S.secrets (freshOf S).1 }
  show (freshOf { (freshOf S).2 with secrets := badd S.secrets (freshOf S).1 }).2.sealed = _
  rw [d7]; exact c7
theorem Q37 (S : OS) : (pairOf S).2.wrapped = S.wrapped := by
  obtain ⟨c1, c2, c3, c4, c5, c6, c7, c8⟩ := Q0W S
  obtain ⟨d1, d2, d3, d4, d5, d6, d7, d8⟩ := Q0W { (freshOf S).2 with secrets := badd S.secrets (freshOf S).1 }
  show (freshOf { (freshOf S).2 with secrets := badd S.secrets (freshOf S).1 }).2.wrapped = _
  rw [d8]; exact c8
section
variable {w w' : World} {o o' : Own}
end
section
variable {w w' w1 w2 : World} {o o' o1 : Own} {q k p N m n i : Nat} {K : Nat → Prop} {X : WD} {S T : OS} {R M : Nat → Rng}
end
structure PI (X : WD) (S : OS) (R : Nat → Rng) (K : List Int) (O : List (List UInt8)) : Prop where
  ki : KI S
  pub : ∀ i, i < 4 → alook S.publics (X.pub i) = some (X.sec i)
  st : X.tm = X.sm
  ok : X.sm.ok
  mem : ∀ m ∈ X.sm.ml, ∃ i : Nat, i < 4 ∧ m.who = i ∧ m.pub = X.pub i
  fr : ∀ m ∈ X.sm.ml, m.fr ≤ X.sm.ep + 1
  zero : ∃ m ∈ X.sm.ml, m.who = 0 ∧ m.to_ = -1
  ep : (K.length : Int) = X.sm.ep + 1
  ch : Chain S K O
  last : X.last = K.getLast?.getD 0
  ring : ∀ i : Nat, i < 4 → (R i).who = i ∧ (R i).secret = X.sec i ∧ (R i).olds = O ∧ ∃ m, m ≤ K.length ∧ (R i).keys = mkK K m K.length
theorem PI.ne {X : WD} {S : OS} {R : Nat → Rng} {K : List Int} {O : List (List UInt8)} (h : PI X S R K O) : nowM X.sm.ml ≠ [] := fun e => by
  obtain ⟨m, hm, _, ht⟩ := h.zero
  have : m ∈ nowM X.sm.ml := by unfold nowM; simp [hm, ht]
  rw [e] at this; cases this
theorem PI.known {X : WD} {S : OS} {R : Nat → Rng} {K : List Int} {O : List (List UInt8)} (h : PI X S R K O) : ∀ m ∈ nowM X.sm.ml, (alook S.publics m.pub).isSome := fun m hm => by
  obtain ⟨i, hi, _, e⟩ := h.mem m (Q4p hm).1
  rw [e, h.pub i hi]; rfl
theorem PI.begin {X : WD} {S : OS} {R : Nat → Rng} {K : List Int} {O : List (List UInt8)} (h : PI X S R K O) (hl : S.used.length < 10000000) : BK S X.sm X.last := Q4H h.ki h.ok h.known h.ne hl
theorem PI.last_rng {X : WD} {S : OS} {R : Nat → Rng} {K : List Int} {O : List (List UInt8)} (h : PI X S R K O) : 0 ≤ X.last ∧ X.last < 18446744073709551616 := by
  rw [h.last]
  cases hk : K.getLast? with
  | none => exact ⟨by decide, by decide⟩
  | some x => have := h.ch.nz x (List.mem_of_getLast? hk); exact ⟨by show 0 ≤ x; omega, by show x < _; omega⟩
theorem PI.chain {X : WD} {S : OS} {R : Nat → Rng} {K : List Int} {O : List (List UInt8)} (h : PI X S R K O) (hl : S.used.length < 10000000) (hold : (beginK S X.sm X.last).1.old.length < 1000000) :
    Chain (beginK S X.sm X.last).2.2 (K ++ [(beginK S X.sm X.last).2.1]) (O ++ [(beginK S X.sm X.last).1.old]) := by
  have B := h.begin hl
  have hlen := h.ch.len
  have hfit := B.ki.inv.fit (by have := B.len; omega) B.us
  refine ⟨by simp [hlen], fun x hx => ?_, fun e he => ?_, fun b hb => ?_⟩
  · rcases List.mem_append.1 hx with hx | hx
    · exact h.ch.nz x hx
    · have := B.nz
      simp at hx; subst hx
      omega
  · have he : e + 1 < K.length + 1 := by simpa using he
    by_cases hee : e + 1 < K.length
    · rw [List.getElem?_append_left hee, List.getElem?_append_left (by omega), List.getElem?_append_left (by omega)]
      exact B.le.open (h.ch.link e hee)
    · have hee : e + 1 = K.length := by omega
      have hep : 0 ≤ X.sm.ep := by have := h.ep; omega
      have hop := B.opens hep
      have e1 : (K ++ [(beginK S X.sm X.last).2.1])[e + 1]?.getD 0 = (beginK S X.sm X.last).2.1 := by rw [hee]; simp
      have e2 : (O ++ [(beginK S X.sm X.last).1.old])[e + 1]?.getD [] = (beginK S X.sm X.last).1.old := by rw [hee, ← hlen]; simp
      have e3 : (K ++ [(beginK S X.sm X.last).2.1])[e]?.getD 0 = X.last := by
        rw [List.getElem?_append_left (by omega), h.last, List.getLast?_eq_getElem?, show K.length - 1 = e by omega]
      rw [e1, e2, e3, show ((e + 1 : Nat) : Int) = X.sm.ep + 1 by have := h.ep; omega]
      exact hop
  · rcases List.mem_append.1 hb with hb | hb
    · exact h.ch.short b hb
    · simp at hb; subst hb; exact hold
theorem PI.in_ {X : WD} {S : OS} {R : Nat → Rng} {K : List Int} {O : List (List UInt8)} (h : PI X S R K O) (hl : S.used.length < 10000000) (hold : (beginK S X.sm X.last).1.old.length < 1000000) (hep : X.sm.ep + 1 < 20) {i : Nat} (hi : i < 4) (hm : ∃ m ∈ nowM X.sm.ml, m.who = i) :
    learnK (beginK S X.sm X.last).2.2 (R i) (beginK S X.sm X.last).1 = ({ R i with keys := K ++ [(beginK S X.sm X.last).2.1], olds := O ++ [(beginK S X.sm X.last).1.old] }, 0) := by
  have B := h.begin hl
  have C := h.chain hl hold
  obtain ⟨r1, r2, r3, m, hm', r4⟩ := h.ring i hi
  have hkl : (R i).keys.length = K.length := by rw [r4, Q1Y]
  have ht := B.told (R := R i) (by rw [r1]; exact hm) fun m' hm2 hw => by
    obtain ⟨d, hd, e1, e2⟩ := h.mem m' (Q4p hm2).1
    have : d = i := by rw [r1, e1] at hw; omega
    subst this
    rw [e2, r2]; exact h.pub d hd
  unfold learnK
  rw [if_neg (by rw [B.kd, B.right]; simp), if_neg (by have := h.ep; omega), ht, hkl, r3, r4]
  dsimp only
  rw [Q6N K m hm', Q4W C m K.length (by simp)]
theorem PI.out_ {X : WD} {S : OS} {R : Nat → Rng} {K : List Int} {O : List (List UInt8)} (h : PI X S R K O) (hl : S.used.length < 10000000) (hep : X.sm.ep + 1 < 20) {i : Nat} (hi : i < 4) (hm : ∀ m ∈ nowM X.sm.ml, m.who ≠ i) :
    ∃ m, m ≤ K.length ∧ learnK (beginK S X.sm X.last).2.2 (R i) (beginK S X.sm X.last).1 = ({ R i with keys := mkK (K ++ [(beginK S X.sm X.last).2.1]) m (K.length + 1), olds := O ++ [(beginK S X.sm X.last).1.old] }, 11) := by
  have B := h.begin hl
  obtain ⟨r1, r2, r3, m, hm', r4⟩ := h.ring i hi
  have hkl : (R i).keys.length = K.length := by rw [r4, Q1Y]
  have ht := B.other (R := R i) (by rw [r1]; exact hm)
  refine ⟨m, hm', ?_⟩
  unfold learnK
  rw [if_neg (by rw [B.kd, B.right]; simp), if_neg (by have := h.ep; omega), ht, hkl, r3, r4]
  dsimp only
  rw [Q5D K m hm' (beginK S X.sm X.last).2.1]
  have hb : backK (beginK S X.sm X.last).2.2 (O ++ [(beginK S X.sm X.last).1.old]) K.length (mkK (K ++ [(beginK S X.sm X.last).2.1]) m (K.length + 1)) = mkK (K ++ [(beginK S X.sm X.last).2.1]) m (K.length + 1) := by
    cases hK : K.length with
    | zero => rfl
    | succ e =>
      unfold backK
      rw [if_neg]
      rintro ⟨⟨h1, _⟩, _⟩
      rw [mkK_get (by simp; omega), if_neg (by omega)] at h1
      exact h1 rfl
  rw [hb]
theorem PI.next {X : WD} {S : OS} {R R' : Nat → Rng} {K : List Int} {O : List (List UInt8)} (h : PI X S R K O) (hl : S.used.length < 10000000) (hold : (beginK S X.sm X.last).1.old.length < 1000000) (hep : X.sm.ep + 1 < 20)
    (hR : ∀ i, i < 4 → R' i = (learnK (beginK S X.sm X.last).2.2 (R i) (beginK S X.sm X.last).1).1) :
    PI { X with last := (beginK S X.sm X.last).2.1, sm := ⟨X.sm.ml, X.sm.ep + 1⟩, tm := ⟨X.sm.ml, X.sm.ep + 1⟩ } (beginK S X.sm X.last).2.2 R' (K ++ [(beginK S X.sm X.last).2.1]) (O ++ [(beginK S X.sm X.last).1.old]) := by
  have B := h.begin hl
  have he := h.ep
  have h0 := h.ok.ep0
  refine ⟨B.ki, fun i hi => by rw [B.le.pb]; exact h.pub i hi, rfl, ⟨h.ok.sorted, h.ok.who, by show -1 ≤ X.sm.ep + 1; omega, hep⟩, h.mem, fun m hm => by have := h.fr m hm; show m.fr ≤ X.sm.ep + 1 + 1; omega, h.zero, by simp; omega, h.chain hl hold, by simp, fun i hi => ?_⟩
  rw [hR i hi]
  obtain ⟨r1, r2, r3, _⟩ := h.ring i hi
  by_cases hm : ∃ m ∈ nowM X.sm.ml, m.who = i
  · rw [h.in_ hl hold hep hi hm]
    exact ⟨r1, r2, rfl, K.length + 1, by simp, by simp [Q4l]⟩
  · obtain ⟨m, hm', e⟩ := h.out_ hl hep hi fun m hm1 hm2 => hm ⟨m, hm1, hm2⟩
    rw [e]
    exact ⟨r1, r2, rfl, m, by simp; omega, by simp⟩
theorem Q6j {R : Rng} {K : List Int} {e : Nat} (hk : R.keys = K) (he : e < K.length) (hz : ∀ x ∈ K, 0 < x ∧ x < 18446744073709551616) : keyK R e = (K[e]?.getD 0, 0) := by
  unfold keyK
  have := hz _ (List.getElem_mem he)
  rw [hk, if_neg (by omega), Int.toNat_natCast, if_neg (by rw [List.getElem?_eq_getElem he]; show ¬ (K[e] = 0); omega)]
open W (OwnB GivesW numR countR doneR zig unzig intR)
def Q16.M (n1 : Int) (R : RW) (w : World) : Prop :=
 bif decide (n1 ≥ 0) then (
 Calls Tryz.prog 53 #[.int .u64 (IntKind.u64.wrap ((IntKind.u64.wrap n1) * 2))] w fun a6 a9 => ∃ (a1 : Option Addr) (a0 a2 : Nat), a6 = .returned (.slice a1 a0 a2) ∧
 R (.slice a1 a0 a2) a9) else (
 Calls Tryz.prog 53 #[.int .u64 (IntKind.u64.wrap ((IntKind.u64.wrap ((IntKind.u64.wrap (IntKind.i64.wrap (0 - (IntKind.i64.wrap (n1 + 1))))) * 2)) + 1))] w fun a8 a7 => ∃ (a5 : Option Addr) (a3 a4 : Nat), a8 = .returned (.slice a5 a3 a4) ∧
 R (.slice a5 a3 a4) a7)

theorem Q16.ok (n1 : Int) {R : RW} {w : World} (h : Q16.M n1 R w) : Calls Tryz.prog 74 #[.int .i64 n1] w fun e w' => ∃ v, e = .returned v ∧ R v w' :=
  Q0i follows (H := []) (args := [.int .i64 n1]) (cast (by kernel_rfl) h)

def Q16.N (n1 : Int) (R : RW) (w : World) : Prop :=
 (n1 ≥ 0 →
 Calls Tryz.prog 53 #[.int .u64 (IntKind.u64.wrap ((IntKind.u64.wrap n1) * 2))] w fun a8 a7 => ∃ (a1 : Option Addr) (a4 a5 : Nat), a8 = .returned (.slice a1 a4 a5) ∧
 R (.slice a1 a4 a5) a7) ∧
 (n1 < 0 →
 (-9223372036854775808 : Int) ≤ (n1 + 1) ∧ (n1 + 1) < 9223372036854775808 ∧
 (-9223372036854775808 : Int) ≤ (0 - (n1 + 1)) ∧ (0 - (n1 + 1)) < 9223372036854775808 ∧
 Calls Tryz.prog 53 #[.int .u64 (IntKind.u64.wrap ((IntKind.u64.wrap ((IntKind.u64.wrap (0 - (n1 + 1))) * 2)) + 1))] w fun a6 a9 => ∃ (a2 : Option Addr) (a3 a0 : Nat), a6 = .returned (.slice a2 a3 a0) ∧
 R (.slice a2 a3 a0) a9)

theorem Q16.up (n1 : Int) {R : RW} {w : World} (h : Q16.N n1 R w) : Q16.M n1 R w := by
  unfold Q16.M
  unfold Q16.N at h
  refine bif_of (fun c2 => ?_) (fun c2 => ?_)
  ·have h := h.1 (of_decide_eq_true c2)
   refine h.mono fun aa a9 h => ?_
   obtain ⟨a1, a4, a5, he, h⟩ := h
   refine ⟨a1, a4, a5, he, ?_⟩
   exact h
  have h := h.2 (Int.not_le.1 (of_decide_eq_false c2))
  obtain ⟨a6, a7, h⟩ := h
  try rw [w64 a6 a7]
  obtain ⟨a6, a7, h⟩ := h
  try rw [w64 a6 a7]
  refine h.mono fun a8 ab h => ?_
  obtain ⟨a2, a3, a0, he, h⟩ := h
  refine ⟨a2, a3, a0, he, ?_⟩
  exact h

theorem Q16.go (n1 : Int) {R : RW} {w : World} (h : Q16.N n1 R w) : Calls Tryz.prog 74 #[.int .i64 n1] w fun e w' => ∃ v, e = .returned v ∧ R v w' := Q16.ok n1 (Q16.up n1 h)
section
variable {w w' : World} {a : Option Addr} {c N p : Nat} {bs : List UInt8} {k : Int}
/-! ### the reference's -/
theorem Q6m {n : Int} (h0 : -9223372036854775808 ≤ n) (h1 : n < 9223372036854775808) :
    Calls Tryz.prog 74 #[.int .i64 n] w (fun e w' => ∃ a' c', e = .returned (.slice a' (numL (zig n)).length c') ∧ OwnB w.heap.size w' a' c' (numL (zig n)) ∧ Ext no w w') := by
  refine (Q16.go _ (R := fun v w' => ∃ a' c', v = (.slice a' (numL (zig n)).length c') ∧ OwnB w.heap.size w' a' c' (numL (zig n)) ∧ Ext no w w') ?_).mono fun e w' ⟨v, he, a, c, hv, hw⟩ => ⟨a, c, by rw [he, hv], hw⟩
  unfold Q16.N
  have hz := W.zig_lt h0 h1
  refine ⟨fun hn => ?_, fun hn => ?_⟩
  · rw [wu64 (n := n) (by omega) (by omega), wu64 (n := n * 2) (by omega) (by omega)]
    have e : n * 2 = ((zig n : Nat) : Int) := by unfold zig; rw [if_pos (by omega)]; omega
    rw [e]
    exact (W.rNum_spec (zig n) w hz).mono fun e w5 ⟨a', c', he, hO, hx⟩ => ⟨a', _, c', he, a', c', rfl, hO, hx⟩
  · refine ⟨by omega, by omega, by omega, by omega, ?_⟩
    rw [wu64 (n := 0 - (n + 1)) (by omega) (by omega), wu64 (n := (0 - (n + 1)) * 2) (by omega) (by omega), wu64 (by omega) (by omega)]
    have e : (0 - (n + 1)) * 2 + 1 = ((zig n : Nat) : Int) := by unfold zig; rw [if_neg (by omega)]; omega
    rw [e]
    exact (W.rNum_spec (zig n) w hz).mono fun e w5 ⟨a', c', he, hO, hx⟩ => ⟨a', _, c', he, a', c', rfl, hO, hx⟩
end
open W (OwnB GivesW numR countR doneR zig unzig intR)
def Q0x.M (n1 a0 a1 : Int) (R : RW) (w : World) : Prop :=
 bif decide (n1 ≥ a0) then (
 R (.bool (decide (n1 < a1))) w) else (
 R (.bool false) w)

theorem Q0x.ok (n1 a0 a1 : Int) {R : RW} {w : World} (h : Q0x.M n1 a0 a1 R w) : Calls Tryz.prog 75 #[.int .i64 n1, .int .i64 a0, .int .i64 a1] w fun e w' => ∃ v, e = .returned v ∧ R v w' :=
  Q0i follows (H := []) (args := [.int .i64 n1, .int .i64 a0, .int .i64 a1]) (cast (by kernel_rfl) h)

def Q0x.N (n1 a0 a1 : Int) (R : RW) (w : World) : Prop :=
 (n1 ≥ a0 →
 R (.bool (decide (n1 < a1))) w) ∧
 (n1 < a0 →
 R (.bool false) w)

theorem Q0x.up (n1 a0 a1 : Int) {R : RW} {w : World} (h : Q0x.N n1 a0 a1 R w) : Q0x.M n1 a0 a1 R w := by
  unfold Q0x.M
  unfold Q0x.N at h
  refine bif_of (fun c4 => ?_) (fun c4 => ?_)
  ·have h := h.1 (of_decide_eq_true c4)
   exact h
  have h := h.2 (Int.not_le.1 (of_decide_eq_false c4))
  exact h

theorem Q0x.go (n1 a0 a1 : Int) {R : RW} {w : World} (h : Q0x.N n1 a0 a1 R w) : Calls Tryz.prog 75 #[.int .i64 n1, .int .i64 a0, .int .i64 a1] w fun e w' => ∃ v, e = .returned v ∧ R v w' := Q0x.ok n1 a0 a1 (Q0x.up n1 a0 a1 h)
theorem Q0x.run (n1 a0 a1 : Int) {V : Value} {Q : World → Prop} {w : World} (h : Q0x.N n1 a0 a1 (fun v w' => v = V ∧ Q w') w) : Calls Tryz.prog 75 #[.int .i64 n1, .int .i64 a0, .int .i64 a1] w (Ret V Q) := (Q0x.go n1 a0 a1 h).mono fun e w' ⟨v, he, hv, hq⟩ => ⟨by rw [he, hv], hq⟩

def Q0x.F (n1 a0 a1 : Int) : Bool :=
  if n1 ≥ a0 then
    (decide (n1 < a1))
  else
    false
theorem Q0x.pure (n1 a0 a1 : Int) {w : World} : Calls Tryz.prog 75 #[.int .i64 n1, .int .i64 a0, .int .i64 a1] w (Ret (.bool (Q0x.F n1 a0 a1)) fun w' => Ext no w w') := by
  refine Q0x.run n1 a0 a1 ?_
  unfold Q0x.N
  refine ⟨fun c0 => ?_, fun c0 => ?_⟩
  ·exact ⟨by unfold Q0x.F; rw [if_pos c0], Ext.refl _ _⟩
  ·exact ⟨by unfold Q0x.F; rw [if_neg (show ¬ (n1 ≥ a0) from by omega)], Ext.refl _ _⟩

def Q0X.M (a0 : Int) (R : RW) (w : World) : Prop :=
 bif decide (a0 ≥ 0) then (
 R (.bool (decide (a0 < 8))) w) else (
 R (.bool false) w)

theorem Q0X.ok (a0 : Int) {R : RW} {w : World} (h : Q0X.M a0 R w) : Calls Tryz.prog 95 #[.int .i64 a0] w fun e w' => ∃ v, e = .returned v ∧ R v w' :=
  Q0i follows (H := []) (args := [.int .i64 a0]) (cast (by kernel_rfl) h)

def Q0X.N (a0 : Int) (R : RW) (w : World) : Prop :=
 (a0 ≥ 0 →
 R (.bool (decide (a0 < 8))) w) ∧
 (a0 < 0 →
 R (.bool false) w)

theorem Q0X.up (a0 : Int) {R : RW} {w : World} (h : Q0X.N a0 R w) : Q0X.M a0 R w := by
  unfold Q0X.M
  unfold Q0X.N at h
  refine bif_of (fun c2 => ?_) (fun c2 => ?_)
  ·have h := h.1 (of_decide_eq_true c2)
   exact h
  have h := h.2 (Int.not_le.1 (of_decide_eq_false c2))
  exact h

theorem Q0X.go (a0 : Int) {R : RW} {w : World} (h : Q0X.N a0 R w) : Calls Tryz.prog 95 #[.int .i64 a0] w fun e w' => ∃ v, e = .returned v ∧ R v w' := Q0X.ok a0 (Q0X.up a0 h)
theorem Q0X.run (a0 : Int) {V : Value} {Q : World → Prop} {w : World} (h : Q0X.N a0 (fun v w' => v = V ∧ Q w') w) : Calls Tryz.prog 95 #[.int .i64 a0] w (Ret V Q) := (Q0X.go a0 h).mono fun e w' ⟨v, he, hv, hq⟩ => ⟨by rw [he, hv], hq⟩

def Q0X.F (a0 : Int) : Bool :=
  if a0 ≥ 0 then
    (decide (a0 < 8))
  else
    false
theorem Q0X.pure (a0 : Int) {w : World} : Calls Tryz.prog 95 #[.int .i64 a0] w (Ret (.bool (Q0X.F a0)) fun w' => Ext no w w') := by
  refine Q0X.run a0 ?_
  unfold Q0X.N
  refine ⟨fun c0 => ?_, fun c0 => ?_⟩
  ·exact ⟨by unfold Q0X.F; rw [if_pos c0], Ext.refl _ _⟩
  ·exact ⟨by unfold Q0X.F; rw [if_neg (show ¬ (a0 ≥ 0) from by omega)], Ext.refl _ _⟩

def Q0Z.M (a2 a3 : Int) (R : RW) (w : World) : Prop :=
 thenW (w.alloc (.cells #[.int .i64 a2, .int .i64 a3] 28)) fun a1 =>
 ∃ (T4 : Int), a1.cell? ((blk w.heap.size).add 0) = some (.int .i64 T4) ∧
 bif decide (T4 > 0) then (
 ∃ (T5 : Int), a1.cell? ((blk w.heap.size).add 0) = some (.int .i64 T5) ∧
 bif decide (T5 ≤ 1099511627776) then (
 ∃ (W6 : Int), a1.cell? ((blk w.heap.size).add 1) = some (.int .i64 W6) ∧
 Calls Tryz.prog 95 #[.int .i64 W6] a1 fun a4 a5 => ∃ (a0 : Bool), a4 = .returned (.bool a0) ∧
 R (.bool a0) a5) else (
 R (.bool false) a1)) else (
 R (.bool false) a1)

theorem Q0Z.ok (a0 a1 : Int) {R : RW} {w : World} (h : Q0Z.M a0 a1 R w) : Calls Tryz.prog 76 #[.agg #[.int .i64 a0, .int .i64 a1]] w fun e w' => ∃ v, e = .returned v ∧ R v w' :=
  Q0i follows (H := []) (args := [.agg #[.int .i64 a0, .int .i64 a1]]) (cast (by kernel_rfl) h)

def Q0Z.N (a1 a3 : Int) (R : RW) (w : World) : Prop :=
 (a1 > 0 →
 (a1 ≤ 1099511627776 →
 ∀ (a2 : World), Ext no w a2 →
 R (.bool (Q0X.F a3)) a2) ∧
 ((1099511627776 : Int) < a1 →
 ∀ (a0 : World), Ext no w a0 →
 R (.bool false) a0)) ∧
 (a1 ≤ 0 →
 ∀ (a0 : World), Ext no w a0 →
 R (.bool false) a0)

theorem Q0Z.up (a1 a0 : Int) {R : RW} {w : World} (h : Q0Z.N a1 a0 R w) : Q0Z.M a1 a0 R w := by
  unfold Q0Z.M
  unfold Q0Z.N at h
  refine Q01 fun a4 e3 => ?_
  have a2 := Blk.of_new e3
  have a6 := ((Ext.refl no w)).size
  have a3 := (Ext.refl no w).x_alloc e3
  refine ⟨a1, a2.celli 0 rfl rfl, ?_⟩
  refine bif_fo (fun c4 => ?_) (fun c4 => ?_)
  ·have h := h.2 (Int.not_lt.1 (of_decide_eq_false c4))
   have h := h a4 a3
   exact h
  have h := h.1 (of_decide_eq_true c4)
  refine ⟨a1, a2.celli 0 rfl rfl, ?_⟩
  refine bif_fo (fun c5 => ?_) (fun c5 => ?_)
  ·have h := h.2 (Int.not_le.1 (of_decide_eq_false c5))
   have h := h a4 a3
   exact h
  have h := h.1 (of_decide_eq_true c5)
  refine ⟨a0, a2.celli 1 rfl rfl, ?_⟩
  refine (Q0X.pure a0).mono fun ee ww6 ⟨he, hxx⟩ => ⟨(Q0X.F a0), he, ?_⟩
  have a5 := a3.trans hxx
  have h := h ww6 a5
  exact h

theorem Q0Z.go (a0 a1 : Int) {R : RW} {w : World} (h : Q0Z.N a0 a1 R w) : Calls Tryz.prog 76 #[.agg #[.int .i64 a0, .int .i64 a1]] w fun e w' => ∃ v, e = .returned v ∧ R v w' := Q0Z.ok a0 a1 (Q0Z.up a0 a1 h)
theorem Q0Z.run (a0 a1 : Int) {V : Value} {Q : World → Prop} {w : World} (h : Q0Z.N a0 a1 (fun v w' => v = V ∧ Q w') w) : Calls Tryz.prog 76 #[.agg #[.int .i64 a0, .int .i64 a1]] w (Ret V Q) := (Q0Z.go a0 a1 h).mono fun e w' ⟨v, he, hv, hq⟩ => ⟨by rw [he, hv], hq⟩

def Q0Z.F (a0 a1 : Int) : Bool :=
  if a0 > 0 then
    if a0 ≤ 1099511627776 then
      (Q0X.F a1)
    else
      false
  else
    false
theorem Q0Z.pure (a0 a1 : Int) {w : World} : Calls Tryz.prog 76 #[.agg #[.int .i64 a0, .int .i64 a1]] w (Ret (.bool (Q0Z.F a0 a1)) fun w' => Ext no w w') := by
  refine Q0Z.run a0 a1 ?_
  unfold Q0Z.N
  refine ⟨fun c0 => ?_, fun c0 => ?_⟩
  ·refine ⟨fun c1 => ?_, fun c1 => ?_⟩
   ·intro w' hx; exact ⟨by unfold Q0Z.F; rw [if_pos c0, if_pos c1], hx⟩
   ·intro w' hx; exact ⟨by unfold Q0Z.F; rw [if_pos c0, if_neg (show ¬ (a0 ≤ 1099511627776) from by omega)], hx⟩
  ·intro w' hx; exact ⟨by unfold Q0Z.F; rw [if_neg (show ¬ (a0 > 0) from by omega)], hx⟩

def Q0Q.M (b2 bf bn bo bq be : Int) (ba : Option Addr) (b9 bd : Nat) (bp : Int) (R : RW) (w : World) : Prop :=
 thenW (w.alloc (.cells #[.int .i64 b2, .int .i64 bf, .int .u64 bn, .int .i64 bo, .int .i64 bq, .int .i64 be, .slice ba b9 bd, .int .u64 bp] 30)) fun c1 =>
 ∃ (ab : Int), c1.cell? ((blk w.heap.size).add 0) = some (.int .i64 ab) ∧
 Calls Tryz.prog 75 #[.int .i64 ab, .int .i64 0, .int .i64 8] c1 fun bs b1 => ∃ (a5 : Bool), bs = .returned (.bool a5) ∧
 bif !a5 then (
 bif !a5 then (
 R (.bool false) b1) else (
 ∃ (bj bg : Int), cellsAt b1 ((blk w.heap.size).add 3) [.int .i64 bj, .int .i64 bg] 0 ∧
 Calls Tryz.prog 76 #[.agg #[.int .i64 bj, .int .i64 bg]] b1 fun br a2 => ∃ (a9 : Bool), br = .returned (.bool a9) ∧
 bif !a9 then (
 bif !a9 then (
 R (.bool false) a2) else (
 ∃ (au : Int), a2.cell? ((blk w.heap.size).add 2) = some (.int .u64 au) ∧
 ∃ (ag : Int), a2.cell? ((blk w.heap.size).add 1) = some (.int .i64 ag) ∧
 R (.bool ((au == 0) == (ag == 0))) a2)) else (
 ∃ (bx : Int), a2.cell? (((blk w.heap.size).add 3).add 1) = some (.int .i64 bx) ∧
 ∃ (a3 : Int), a2.cell? ((blk w.heap.size).add 0) = some (.int .i64 a3) ∧
 bif bx != a3 then (
 bif bx != a3 then (
 R (.bool false) a2) else (
 ∃ (b4 : Int), a2.cell? ((blk w.heap.size).add 2) = some (.int .u64 b4) ∧
 ∃ (ap : Int), a2.cell? ((blk w.heap.size).add 1) = some (.int .i64 ap) ∧
 R (.bool ((b4 == 0) == (ap == 0))) a2)) else (
 ∃ (bb : Option Addr) (al b7 : Nat), a2.cell? ((blk w.heap.size).add 6) = some (.slice bb al b7) ∧
 bif decide ((al : Int) > 1100) then (
 R (.bool false) a2) else (
 ∃ (b0 : Int), a2.cell? ((blk w.heap.size).add 2) = some (.int .u64 b0) ∧
 ∃ (ah : Int), a2.cell? ((blk w.heap.size).add 1) = some (.int .i64 ah) ∧
 R (.bool ((b0 == 0) == (ah == 0))) a2))))) else (
 ∃ (ae : Int), b1.cell? ((blk w.heap.size).add 1) = some (.int .i64 ae) ∧
 Calls Tryz.prog 75 #[.int .i64 ae, .int .i64 0, .int .i64 200] b1 fun bu az => ∃ (a6 : Bool), bu = .returned (.bool a6) ∧
 bif !a6 then (
 bif !a6 then (
 R (.bool false) az) else (
 ∃ (bk bl : Int), cellsAt az ((blk w.heap.size).add 3) [.int .i64 bk, .int .i64 bl] 0 ∧
 Calls Tryz.prog 76 #[.agg #[.int .i64 bk, .int .i64 bl]] az fun bt a0 => ∃ (a8 : Bool), bt = .returned (.bool a8) ∧
 bif !a8 then (
 bif !a8 then (
 R (.bool false) a0) else (
 ∃ (b3 : Int), a0.cell? ((blk w.heap.size).add 2) = some (.int .u64 b3) ∧
 ∃ (ai : Int), a0.cell? ((blk w.heap.size).add 1) = some (.int .i64 ai) ∧
 R (.bool ((b3 == 0) == (ai == 0))) a0)) else (
 ∃ (c0 : Int), a0.cell? (((blk w.heap.size).add 3).add 1) = some (.int .i64 c0) ∧
 ∃ (a7 : Int), a0.cell? ((blk w.heap.size).add 0) = some (.int .i64 a7) ∧
 bif c0 != a7 then (
 bif c0 != a7 then (
 R (.bool false) a0) else (
 ∃ (aw : Int), a0.cell? ((blk w.heap.size).add 2) = some (.int .u64 aw) ∧
 ∃ (an : Int), a0.cell? ((blk w.heap.size).add 1) = some (.int .i64 an) ∧
 R (.bool ((aw == 0) == (an == 0))) a0)) else (
 ∃ (b6 : Option Addr) (am b5 : Nat), a0.cell? ((blk w.heap.size).add 6) = some (.slice b6 am b5) ∧
 bif decide ((am : Int) > 1100) then (
 R (.bool false) a0) else (
 ∃ (ax : Int), a0.cell? ((blk w.heap.size).add 2) = some (.int .u64 ax) ∧
 ∃ (aj : Int), a0.cell? ((blk w.heap.size).add 1) = some (.int .i64 aj) ∧
 R (.bool ((ax == 0) == (aj == 0))) a0))))) else (
 ∃ (aq : Int), az.cell? ((blk w.heap.size).add 5) = some (.int .i64 aq) ∧
 Calls Tryz.prog 75 #[.int .i64 aq, .int .i64 (-1), .int .i64 20] az fun bz bm => ∃ (ac : Bool), bz = .returned (.bool ac) ∧
 bif !ac then (
 R (.bool false) bm) else (
 ∃ (bi bh : Int), cellsAt bm ((blk w.heap.size).add 3) [.int .i64 bi, .int .i64 bh] 0 ∧
 Calls Tryz.prog 76 #[.agg #[.int .i64 bi, .int .i64 bh]] bm fun bw a1 => ∃ (aa : Bool), bw = .returned (.bool aa) ∧
 bif !aa then (
 bif !aa then (
 R (.bool false) a1) else (
 ∃ (ay : Int), a1.cell? ((blk w.heap.size).add 2) = some (.int .u64 ay) ∧
 ∃ (ao : Int), a1.cell? ((blk w.heap.size).add 1) = some (.int .i64 ao) ∧
 R (.bool ((ay == 0) == (ao == 0))) a1)) else (
 ∃ (bv : Int), a1.cell? (((blk w.heap.size).add 3).add 1) = some (.int .i64 bv) ∧
 ∃ (a4 : Int), a1.cell? ((blk w.heap.size).add 0) = some (.int .i64 a4) ∧
 bif bv != a4 then (
 bif bv != a4 then (
 R (.bool false) a1) else (
 ∃ (av : Int), a1.cell? ((blk w.heap.size).add 2) = some (.int .u64 av) ∧
 ∃ (af : Int), a1.cell? ((blk w.heap.size).add 1) = some (.int .i64 af) ∧
 R (.bool ((av == 0) == (af == 0))) a1)) else (
 ∃ (b8 : Option Addr) (ad bc : Nat), a1.cell? ((blk w.heap.size).add 6) = some (.slice b8 ad bc) ∧
 bif decide ((ad : Int) > 1100) then (
 R (.bool false) a1) else (
 ∃ (ar : Int), a1.cell? ((blk w.heap.size).add 2) = some (.int .u64 ar) ∧
 ∃ (ak : Int), a1.cell? ((blk w.heap.size).add 1) = some (.int .i64 ak) ∧
 R (.bool ((ar == 0) == (ak == 0))) a1))))))

theorem Q0Q.ok (a0 a3 a6 a7 a8 a1 : Int) (a4 : Option Addr) (a2 a5 : Nat) (a9 : Int) {R : RW} {w : World} (h : Q0Q.M a0 a3 a6 a7 a8 a1 a4 a2 a5 a9 R w) : Calls Tryz.prog 33 #[.agg #[.int .i64 a0, .int .i64 a3, .int .u64 a6, .int .i64 a7, .int .i64 a8, .int .i64 a1, .slice a4 a2 a5, .int .u64 a9]] w fun e w' => ∃ v, e = .returned v ∧ R v w' :=
  Q0i follows (H := []) (args := [.agg #[.int .i64 a0, .int .i64 a3, .int .u64 a6, .int .i64 a7, .int .i64 a8, .int .i64 a1, .slice a4 a2 a5, .int .u64 a9]]) (cast (by kernel_rfl) h)

def Q0Q.N (a0 a2 a7 a6 a5 a3 : Int) (ab : Option Addr) (a4 ac : Nat) (ad : Int) (R : RW) (w : World) : Prop :=
 ((Q0x.F a0 0 8) = false →
 ∀ (a8 : World), Ext no w a8 →
 R (.bool false) a8) ∧
 ((Q0x.F a0 0 8) = true →
 ((Q0x.F a2 0 200) = false →
 ∀ (aa : World), Ext no w aa →
 R (.bool false) aa) ∧
 ((Q0x.F a2 0 200) = true →
 ((Q0x.F a3 (-1) 20) = false →
 ∀ (a9 : World), Ext no w a9 →
 R (.bool false) a9) ∧
 ((Q0x.F a3 (-1) 20) = true →
 ((Q0Z.F a6 a5) = false →
 ∀ (a1 : World), Ext no w a1 →
 R (.bool false) a1) ∧
 ((Q0Z.F a6 a5) = true →
 (a5 ≠ a0 →
 ∀ (a1 : World), Ext no w a1 →
 R (.bool false) a1) ∧
 (a5 = a0 →
 ((a4 : Int) > 1100 →
 ∀ (a1 : World), Ext no w a1 →
 R (.bool false) a1) ∧
 ((a4 : Int) ≤ 1100 →
 ∀ (a1 : World), Ext no w a1 →
 R (.bool ((a7 == 0) == (a2 == 0))) a1))))))

theorem Q0Q.up (a0 a1 a9 a8 a3 a2 : Int) (a5 : Option Addr) (a4 a6 : Nat) (ab : Int) {R : RW} {w : World} (h : Q0Q.N a0 a1 a9 a8 a3 a2 a5 a4 a6 ab R w) : Q0Q.M a0 a1 a9 a8 a3 a2 a5 a4 a6 ab R w := by
  unfold Q0Q.M
  unfold Q0Q.N at h
  refine Q01 fun an e9 => ?_
  have a7 := Blk.of_new e9
  have am := ((Ext.refl no w)).size
  have al := (Ext.refl no w).x_alloc e9
  refine ⟨a0, a7.celli 0 rfl rfl, ?_⟩
  refine (Q0x.pure a0 0 8).mono fun ee ww10 ⟨he, hxx⟩ => ⟨(Q0x.F a0 0 8), he, ?_⟩
  have ad := al.trans hxx
  have a7 := a7.ext hxx id
  refine bif_of (fun ai => ?_) (fun ai => ?_)
  ·have h := h.1 (not_t ai)
   refine bif_tt ai ?_
   have h := h ww10 ad
   exact h
  have h := h.2 (not_f ai)
  refine ⟨a1, a7.celli 1 rfl rfl, ?_⟩
  refine (Q0x.pure a1 0 200).mono fun ee ww13 ⟨he, hxx⟩ => ⟨(Q0x.F a1 0 200), he, ?_⟩
  have ac := ad.trans hxx
  have a7 := a7.ext hxx id
  refine bif_of (fun af => ?_) (fun af => ?_)
  ·have h := h.1 (not_t af)
   refine bif_tt af ?_
   have h := h ww13 ac
   exact h
  have h := h.2 (not_f af)
  refine ⟨a2, a7.celli 5 rfl rfl, ?_⟩
  refine (Q0x.pure a2 (-1) 20).mono fun ee ww16 ⟨he, hxx⟩ => ⟨(Q0x.F a2 (-1) 20), he, ?_⟩
  have ae := ac.trans hxx
  have a7 := a7.ext hxx id
  refine bif_of (fun aj => ?_) (fun aj => ?_)
  ·have h := h.1 (not_t aj)
   have h := h ww16 ae
   exact h
  have h := h.2 (not_f aj)
  refine ⟨a8, a3, ⟨a7.celli 3 rfl rfl, a7.celli 4 rfl rfl, trivial⟩, ?_⟩
  refine (Q0Z.pure a8 a3).mono fun ee ww19 ⟨he, hxx⟩ => ⟨(Q0Z.F a8 a3), he, ?_⟩
  have aa := ae.trans hxx
  have a7 := a7.ext hxx id
  refine bif_of (fun ag => ?_) (fun ag => ?_)
  ·have h := h.1 (not_t ag)
   refine bif_tt ag ?_
   have h := h ww19 aa
   exact h
  have h := h.2 (not_f ag)
  refine ⟨a3, a7.celli 4 rfl rfl, ?_⟩
  refine ⟨a0, a7.celli 0 rfl rfl, ?_⟩
  refine bif_of (fun ah => ?_) (fun ah => ?_)
  ·have h := h.1 (bne_t ah)
   refine bif_tt ah ?_
   have h := h ww19 aa
   exact h
  have h := h.2 (bne_f ah)
  refine ⟨a5, a4, a6, a7.celli 6 rfl rfl, ?_⟩
  refine bif_of (fun ak => ?_) (fun ak => ?_)
  ·have h := h.1 (of_decide_eq_true ak)
   have h := h ww19 aa
   exact h
  have h := h.2 (Int.not_lt.1 (of_decide_eq_false ak))
  refine ⟨a9, a7.celli 2 rfl rfl, ?_⟩
  refine ⟨a1, a7.celli 1 rfl rfl, ?_⟩
  have h := h ww19 aa
  exact h

theorem Q0Q.go (a0 a3 a6 a7 a8 a1 : Int) (a4 : Option Addr) (a2 a5 : Nat) (a9 : Int) {R : RW} {w : World} (h : Q0Q.N a0 a3 a6 a7 a8 a1 a4 a2 a5 a9 R w) : Calls Tryz.prog 33 #[.agg #[.int .i64 a0, .int .i64 a3, .int .u64 a6, .int .i64 a7, .int .i64 a8, .int .i64 a1, .slice a4 a2 a5, .int .u64 a9]] w fun e w' => ∃ v, e = .returned v ∧ R v w' := Q0Q.ok a0 a3 a6 a7 a8 a1 a4 a2 a5 a9 (Q0Q.up a0 a3 a6 a7 a8 a1 a4 a2 a5 a9 h)
theorem Q0Q.run (a0 a3 a6 a7 a8 a1 : Int) (a4 : Option Addr) (a2 a5 : Nat) (a9 : Int) {V : Value} {Q : World → Prop} {w : World} (h : Q0Q.N a0 a3 a6 a7 a8 a1 a4 a2 a5 a9 (fun v w' => v = V ∧ Q w') w) : Calls Tryz.prog 33 #[.agg #[.int .i64 a0, .int .i64 a3, .int .u64 a6, .int .i64 a7, .int .i64 a8, .int .i64 a1, .slice a4 a2 a5, .int .u64 a9]] w (Ret V Q) := (Q0Q.go a0 a3 a6 a7 a8 a1 a4 a2 a5 a9 h).mono fun e w' ⟨v, he, hv, hq⟩ => ⟨by rw [he, hv], hq⟩

def Q0Q.F (a0 a1 a5 a6 a4 a2 : Int) (a7 : Option Addr) (a3 a8 : Nat) (a9 : Int) : Bool :=
  if (Q0x.F a0 0 8) = false then
    false
  else
    if (Q0x.F a1 0 200) = false then
      false
    else
      if (Q0x.F a2 (-1) 20) = false then
        false
      else
        if (Q0Z.F a6 a4) = false then
          false
        else
          if a4 ≠ a0 then
            false
          else
            if (a3 : Int) > 1100 then
              false
            else
              ((a5 == 0) == (a1 == 0))
theorem Q0Q.pure (a1 a3 a6 a7 a8 a2 : Int) (a4 : Option Addr) (a0 a5 : Nat) (a9 : Int) {w : World} : Calls Tryz.prog 33 #[.agg #[.int .i64 a1, .int .i64 a3, .int .u64 a6, .int .i64 a7, .int .i64 a8, .int .i64 a2, .slice a4 a0 a5, .int .u64 a9]] w (Ret (.bool (Q0Q.F a1 a3 a6 a7 a8 a2 a4 a0 a5 a9)) fun w' => Ext no w w') := by
  refine Q0Q.run a1 a3 a6 a7 a8 a2 a4 a0 a5 a9 ?_
  unfold Q0Q.N
  refine ⟨fun c0 => ?_, fun c0 => ?_⟩
  ·intro w' hx; exact ⟨by unfold Q0Q.F; rw [if_pos c0], hx⟩
  ·refine ⟨fun c1 => ?_, fun c1 => ?_⟩
   ·intro w' hx; exact ⟨by unfold Q0Q.F; rw [if_neg (by rw [c0]; decide), if_pos c1], hx⟩
   ·refine ⟨fun c2 => ?_, fun c2 => ?_⟩
    ·intro w' hx; exact ⟨by unfold Q0Q.F; rw [if_neg (by rw [c0]; decide), if_neg (by rw [c1]; decide), if_pos c2], hx⟩
    ·refine ⟨fun c3 => ?_, fun c3 => ?_⟩
     ·intro w' hx; exact ⟨by unfold Q0Q.F; rw [if_neg (by rw [c0]; decide), if_neg (by rw [c1]; decide), if_neg (by rw [c2]; decide), if_pos c3], hx⟩
     ·refine ⟨fun c4 => ?_, fun c4 => ?_⟩
      ·intro w' hx; exact ⟨by unfold Q0Q.F; rw [if_neg (by rw [c0]; decide), if_neg (by rw [c1]; decide), if_neg (by rw [c2]; decide), if_neg (by rw [c3]; decide), if_pos c4], hx⟩
      ·refine ⟨fun c5 => ?_, fun c5 => ?_⟩
       ·intro w' hx; exact ⟨by unfold Q0Q.F; rw [if_neg (by rw [c0]; decide), if_neg (by rw [c1]; decide), if_neg (by rw [c2]; decide), if_neg (by rw [c3]; decide), if_neg (not_not_intro c4), if_pos c5], hx⟩
       ·intro w' hx; exact ⟨by unfold Q0Q.F; rw [if_neg (by rw [c0]; decide), if_neg (by rw [c1]; decide), if_neg (by rw [c2]; decide), if_neg (by rw [c3]; decide), if_neg (not_not_intro c4), if_neg (show ¬ ((a0 : Int) > 1100) from by omega)], hx⟩

def Q0h.M (a1 a2 : Int) (R : RW) (w : World) : Prop :=
 thenW (w.alloc (.cells #[.int .i64 a1, .int .i64 a2] 28)) fun a0 =>
 ∃ (T4 : Int), a0.cell? ((blk w.heap.size).add 0) = some (.int .i64 T4) ∧
 bif decide (T4 ≥ 1) then (
 ∃ (T5 : Int), a0.cell? ((blk w.heap.size).add 0) = some (.int .i64 T5) ∧
 bif decide (T5 ≤ 1099511627776) then (
 ∃ (W6 : Int), a0.cell? ((blk w.heap.size).add 1) = some (.int .i64 W6) ∧
 bif decide (W6 ≥ 0) then (
 ∃ (W7 : Int), a0.cell? ((blk w.heap.size).add 1) = some (.int .i64 W7) ∧
 R (.bool (decide (W7 < 8))) a0) else (
 R (.bool false) a0)) else (
 R (.bool false) a0)) else (
 R (.bool false) a0)

theorem Q0h.ok (a0 a1 : Int) {R : RW} {w : World} (h : Q0h.M a0 a1 R w) : Calls Tryz.prog 79 #[.agg #[.int .i64 a0, .int .i64 a1]] w fun e w' => ∃ v, e = .returned v ∧ R v w' :=
  Q0i follows (H := []) (args := [.agg #[.int .i64 a0, .int .i64 a1]]) (cast (by kernel_rfl) h)

def Q0h.N (a1 a2 : Int) (R : RW) (w : World) : Prop :=
 (a1 ≥ 1 →
 (a1 ≤ 1099511627776 →
 (a2 ≥ 0 →
 ∀ (a0 : World), Ext no w a0 →
 R (.bool (decide (a2 < 8))) a0) ∧
 (a2 < 0 →
 ∀ (a0 : World), Ext no w a0 →
 R (.bool false) a0)) ∧
 ((1099511627776 : Int) < a1 →
 ∀ (a0 : World), Ext no w a0 →
 R (.bool false) a0)) ∧
 (a1 < 1 →
 ∀ (a0 : World), Ext no w a0 →
 R (.bool false) a0)

theorem Q0h.up (a0 a1 : Int) {R : RW} {w : World} (h : Q0h.N a0 a1 R w) : Q0h.M a0 a1 R w := by
  unfold Q0h.M
  unfold Q0h.N at h
  refine Q01 fun a4 e3 => ?_
  have a2 := Blk.of_new e3
  have a5 := ((Ext.refl no w)).size
  have a3 := (Ext.refl no w).x_alloc e3
  refine ⟨a0, a2.celli 0 rfl rfl, ?_⟩
  refine bif_fo (fun c4 => ?_) (fun c4 => ?_)
  ·have h := h.2 (Int.not_le.1 (of_decide_eq_false c4))
   have h := h a4 a3
   exact h
  have h := h.1 (of_decide_eq_true c4)
  refine ⟨a0, a2.celli 0 rfl rfl, ?_⟩
  refine bif_fo (fun c5 => ?_) (fun c5 => ?_)
  ·have h := h.2 (Int.not_le.1 (of_decide_eq_false c5))
   have h := h a4 a3
   exact h
  have h := h.1 (of_decide_eq_true c5)
  refine ⟨a1, a2.celli 1 rfl rfl, ?_⟩
  refine bif_fo (fun c6 => ?_) (fun c6 => ?_)
  ·have h := h.2 (Int.not_le.1 (of_decide_eq_false c6))
   have h := h a4 a3
   exact h
  have h := h.1 (of_decide_eq_true c6)
  refine ⟨a1, a2.celli 1 rfl rfl, ?_⟩
  have h := h a4 a3
  exact h

theorem Q0h.go (a0 a1 : Int) {R : RW} {w : World} (h : Q0h.N a0 a1 R w) : Calls Tryz.prog 79 #[.agg #[.int .i64 a0, .int .i64 a1]] w fun e w' => ∃ v, e = .returned v ∧ R v w' := Q0h.ok a0 a1 (Q0h.up a0 a1 h)
theorem Q0h.run (a0 a1 : Int) {V : Value} {Q : World → Prop} {w : World} (h : Q0h.N a0 a1 (fun v w' => v = V ∧ Q w') w) : Calls Tryz.prog 79 #[.agg #[.int .i64 a0, .int .i64 a1]] w (Ret V Q) := (Q0h.go a0 a1 h).mono fun e w' ⟨v, he, hv, hq⟩ => ⟨by rw [he, hv], hq⟩

def Q0h.F (a0 a1 : Int) : Bool :=
  if a0 ≥ 1 then
    if a0 ≤ 1099511627776 then
      if a1 ≥ 0 then
        (decide (a1 < 8))
      else
        false
    else
      false
  else
    false
theorem Q0h.pure (a0 a1 : Int) {w : World} : Calls Tryz.prog 79 #[.agg #[.int .i64 a0, .int .i64 a1]] w (Ret (.bool (Q0h.F a0 a1)) fun w' => Ext no w w') := by
  refine Q0h.run a0 a1 ?_
  unfold Q0h.N
  refine ⟨fun c0 => ?_, fun c0 => ?_⟩
  ·refine ⟨fun c1 => ?_, fun c1 => ?_⟩
   ·refine ⟨fun c2 => ?_, fun c2 => ?_⟩
    ·intro w' hx; exact ⟨by unfold Q0h.F; rw [if_pos c0, if_pos c1, if_pos c2], hx⟩
    ·intro w' hx; exact ⟨by unfold Q0h.F; rw [if_pos c0, if_pos c1, if_neg (show ¬ (a1 ≥ 0) from by omega)], hx⟩
   ·intro w' hx; exact ⟨by unfold Q0h.F; rw [if_pos c0, if_neg (show ¬ (a0 ≤ 1099511627776) from by omega)], hx⟩
  ·intro w' hx; exact ⟨by unfold Q0h.F; rw [if_neg (show ¬ (a0 ≥ 1) from by omega)], hx⟩

def Q0d.M (ad ak an ao aq aj : Int) (ag : Option Addr) (af ai : Nat) (ap : Int) (R : RW) (w : World) : Prop :=
 thenW (w.alloc (.cells #[.int .i64 ad, .int .i64 ak, .int .u64 an, .int .i64 ao, .int .i64 aq, .int .i64 aj, .slice ag af ai, .int .u64 ap] 30)) fun ab =>
 ∃ (a3 : Int), ab.cell? ((blk w.heap.size).add 0) = some (.int .i64 a3) ∧
 bif decide (a3 ≥ 0) then (
 ∃ (a2 : Int), ab.cell? ((blk w.heap.size).add 0) = some (.int .i64 a2) ∧
 bif decide (a2 < 8) then (
 ∃ (a4 : Int), ab.cell? ((blk w.heap.size).add 1) = some (.int .i64 a4) ∧
 bif decide (a4 ≥ 0) then (
 ∃ (aa : Int), ab.cell? ((blk w.heap.size).add 1) = some (.int .i64 aa) ∧
 bif decide (aa < 200) then (
 ∃ (ac : Int), ab.cell? ((blk w.heap.size).add 2) = some (.int .u64 ac) ∧
 ∃ (a8 : Int), ab.cell? ((blk w.heap.size).add 1) = some (.int .i64 a8) ∧
 bif (ac == 0) == (a8 == 0) then (
 ∃ (am al : Int), cellsAt ab ((blk w.heap.size).add 3) [.int .i64 am, .int .i64 al] 0 ∧
 Calls Tryz.prog 79 #[.agg #[.int .i64 am, .int .i64 al]] ab fun ar a0 => ∃ (a5 : Bool), ar = .returned (.bool a5) ∧
 bif a5 then (
 ∃ (au : Int), a0.cell? (((blk w.heap.size).add 3).add 1) = some (.int .i64 au) ∧
 ∃ (a1 : Int), a0.cell? ((blk w.heap.size).add 0) = some (.int .i64 a1) ∧
 bif au == a1 then (
 ∃ (a6 : Int), a0.cell? ((blk w.heap.size).add 5) = some (.int .i64 a6) ∧
 bif decide (a6 ≥ (-1)) then (
 ∃ (a9 : Int), a0.cell? ((blk w.heap.size).add 5) = some (.int .i64 a9) ∧
 bif decide (a9 < 20) then (
 ∃ (ah : Option Addr) (a7 ae : Nat), a0.cell? ((blk w.heap.size).add 6) = some (.slice ah a7 ae) ∧
 R (.bool (decide ((a7 : Int) ≤ 1100))) a0) else (
 R (.bool false) a0)) else (
 R (.bool false) a0)) else (
 R (.bool false) a0)) else (
 R (.bool false) a0)) else (
 R (.bool false) ab)) else (
 R (.bool false) ab)) else (
 R (.bool false) ab)) else (
 R (.bool false) ab)) else (
 R (.bool false) ab)

theorem Q0d.ok (a0 a3 a6 a7 a8 a1 : Int) (a4 : Option Addr) (a2 a5 : Nat) (a9 : Int) {R : RW} {w : World} (h : Q0d.M a0 a3 a6 a7 a8 a1 a4 a2 a5 a9 R w) : Calls Tryz.prog 35 #[.agg #[.int .i64 a0, .int .i64 a3, .int .u64 a6, .int .i64 a7, .int .i64 a8, .int .i64 a1, .slice a4 a2 a5, .int .u64 a9]] w fun e w' => ∃ v, e = .returned v ∧ R v w' :=
  Q0i follows (H := []) (args := [.agg #[.int .i64 a0, .int .i64 a3, .int .u64 a6, .int .i64 a7, .int .i64 a8, .int .i64 a1, .slice a4 a2 a5, .int .u64 a9]]) (cast (by kernel_rfl) h)

def Q0d.N (a0 a1 a6 a8 a4 a3 : Int) (a9 : Option Addr) (a7 aa : Nat) (ab : Int) (R : RW) (w : World) : Prop :=
 (a0 ≥ 0 →
 (a0 < 8 →
 (a1 ≥ 0 →
 (a1 < 200 →
 ((a6 == 0) = (a1 == 0) →
 ((Q0h.F a8 a4) = true →
 (a4 = a0 →
 (a3 ≥ (-1) →
 (a3 < 20 →
 ∀ (a2 : World), Ext no w a2 →
 R (.bool (decide ((a7 : Int) ≤ 1100))) a2) ∧
 ((20 : Int) ≤ a3 →
 ∀ (a2 : World), Ext no w a2 →
 R (.bool false) a2)) ∧
 (a3 < (-1) →
 ∀ (a2 : World), Ext no w a2 →
 R (.bool false) a2)) ∧
 (a4 ≠ a0 →
 ∀ (a2 : World), Ext no w a2 →
 R (.bool false) a2)) ∧
 ((Q0h.F a8 a4) = false →
 ∀ (a2 : World), Ext no w a2 →
 R (.bool false) a2)) ∧
 ((a6 == 0) ≠ (a1 == 0) →
 ∀ (a5 : World), Ext no w a5 →
 R (.bool false) a5)) ∧
 ((200 : Int) ≤ a1 →
 ∀ (a5 : World), Ext no w a5 →
 R (.bool false) a5)) ∧
 (a1 < 0 →
 ∀ (a5 : World), Ext no w a5 →
 R (.bool false) a5)) ∧
 ((8 : Int) ≤ a0 →
 ∀ (a5 : World), Ext no w a5 →
 R (.bool false) a5)) ∧
 (a0 < 0 →
 ∀ (a5 : World), Ext no w a5 →
 R (.bool false) a5)

theorem Q0d.up (a0 a1 a9 a7 a3 a2 : Int) (a5 : Option Addr) (a4 a6 : Nat) (ab : Int) {R : RW} {w : World} (h : Q0d.N a0 a1 a9 a7 a3 a2 a5 a4 a6 ab R w) : Q0d.M a0 a1 a9 a7 a3 a2 a5 a4 a6 ab R w := by
  unfold Q0d.M
  unfold Q0d.N at h
  refine Q01 fun ad e9 => ?_
  have a8 := Blk.of_new e9
  have an := ((Ext.refl no w)).size
  have ac := (Ext.refl no w).x_alloc e9
  refine ⟨a0, a8.celli 0 rfl rfl, ?_⟩
  refine bif_fo (fun am => ?_) (fun am => ?_)
  ·have h := h.2 (Int.not_le.1 (of_decide_eq_false am))
   have h := h ad ac
   exact h
  have h := h.1 (of_decide_eq_true am)
  refine ⟨a0, a8.celli 0 rfl rfl, ?_⟩
  refine bif_fo (fun al => ?_) (fun al => ?_)
  ·have h := h.2 (Int.not_lt.1 (of_decide_eq_false al))
   have h := h ad ac
   exact h
  have h := h.1 (of_decide_eq_true al)
  refine ⟨a1, a8.celli 1 rfl rfl, ?_⟩
  refine bif_fo (fun af => ?_) (fun af => ?_)
  ·have h := h.2 (Int.not_le.1 (of_decide_eq_false af))
   have h := h ad ac
   exact h
  have h := h.1 (of_decide_eq_true af)
  refine ⟨a1, a8.celli 1 rfl rfl, ?_⟩
  refine bif_fo (fun ah => ?_) (fun ah => ?_)
  ·have h := h.2 (Int.not_lt.1 (of_decide_eq_false ah))
   have h := h ad ac
   exact h
  have h := h.1 (of_decide_eq_true ah)
  refine ⟨a9, a8.celli 2 rfl rfl, ?_⟩
  refine ⟨a1, a8.celli 1 rfl rfl, ?_⟩
  refine bif_fo (fun ai => ?_) (fun ai => ?_)
  ·have h := h.2 (bbeq_f ai)
   have h := h ad ac
   exact h
  have h := h.1 (bbeq_t ai)
  refine ⟨a7, a3, ⟨a8.celli 3 rfl rfl, a8.celli 4 rfl rfl, trivial⟩, ?_⟩
  refine (Q0h.pure a7 a3).mono fun ee ww15 ⟨he, hxx⟩ => ⟨(Q0h.F a7 a3), he, ?_⟩
  have aa := ac.trans hxx
  have a8 := a8.ext hxx id
  refine bif_fo (fun ag => ?_) (fun ag => ?_)
  ·have h := h.2 ag
   have h := h ww15 aa
   exact h
  have h := h.1 ag
  refine ⟨a3, a8.celli 4 rfl rfl, ?_⟩
  refine ⟨a0, a8.celli 0 rfl rfl, ?_⟩
  refine bif_fo (fun ae => ?_) (fun ae => ?_)
  ·have h := h.2 (beq_f ae)
   have h := h ww15 aa
   exact h
  have h := h.1 (beq_t ae)
  refine ⟨a2, a8.celli 5 rfl rfl, ?_⟩
  refine bif_fo (fun aj => ?_) (fun aj => ?_)
  ·have h := h.2 (Int.not_le.1 (of_decide_eq_false aj))
   have h := h ww15 aa
   exact h
  have h := h.1 (of_decide_eq_true aj)
  refine ⟨a2, a8.celli 5 rfl rfl, ?_⟩
  refine bif_fo (fun ak => ?_) (fun ak => ?_)
  ·have h := h.2 (Int.not_lt.1 (of_decide_eq_false ak))
   have h := h ww15 aa
   exact h
  have h := h.1 (of_decide_eq_true ak)
  refine ⟨a5, a4, a6, a8.celli 6 rfl rfl, ?_⟩
  have h := h ww15 aa
  exact h

theorem Q0d.go (a0 a3 a6 a7 a8 a1 : Int) (a4 : Option Addr) (a2 a5 : Nat) (a9 : Int) {R : RW} {w : World} (h : Q0d.N a0 a3 a6 a7 a8 a1 a4 a2 a5 a9 R w) : Calls Tryz.prog 35 #[.agg #[.int .i64 a0, .int .i64 a3, .int .u64 a6, .int .i64 a7, .int .i64 a8, .int .i64 a1, .slice a4 a2 a5, .int .u64 a9]] w fun e w' => ∃ v, e = .returned v ∧ R v w' := Q0d.ok a0 a3 a6 a7 a8 a1 a4 a2 a5 a9 (Q0d.up a0 a3 a6 a7 a8 a1 a4 a2 a5 a9 h)
theorem Q0d.run (a0 a3 a6 a7 a8 a1 : Int) (a4 : Option Addr) (a2 a5 : Nat) (a9 : Int) {V : Value} {Q : World → Prop} {w : World} (h : Q0d.N a0 a3 a6 a7 a8 a1 a4 a2 a5 a9 (fun v w' => v = V ∧ Q w') w) : Calls Tryz.prog 35 #[.agg #[.int .i64 a0, .int .i64 a3, .int .u64 a6, .int .i64 a7, .int .i64 a8, .int .i64 a1, .slice a4 a2 a5, .int .u64 a9]] w (Ret V Q) := (Q0d.go a0 a3 a6 a7 a8 a1 a4 a2 a5 a9 h).mono fun e w' ⟨v, he, hv, hq⟩ => ⟨by rw [he, hv], hq⟩

def Q0d.F (a0 a1 a5 a6 a4 a2 : Int) (a7 : Option Addr) (a3 a8 : Nat) (a9 : Int) : Bool :=
  if a0 ≥ 0 then
    if a0 < 8 then
      if a1 ≥ 0 then
        if a1 < 200 then
          if (a5 == 0) = (a1 == 0) then
            if (Q0h.F a6 a4) = true then
              if a4 = a0 then
                if a2 ≥ (-1) then
                  if a2 < 20 then
                    (decide ((a3 : Int) ≤ 1100))
                  else
                    false
                else
                  false
              else
                false
            else
              false
          else
            false
        else
          false
      else
        false
    else
      false
  else
    false
theorem Q0d.pure (a0 a2 a6 a7 a8 a1 : Int) (a4 : Option Addr) (a3 a5 : Nat) (a9 : Int) {w : World} : Calls Tryz.prog 35 #[.agg #[.int .i64 a0, .int .i64 a2, .int .u64 a6, .int .i64 a7, .int .i64 a8, .int .i64 a1, .slice a4 a3 a5, .int .u64 a9]] w (Ret (.bool (Q0d.F a0 a2 a6 a7 a8 a1 a4 a3 a5 a9)) fun w' => Ext no w w') := by
  refine Q0d.run a0 a2 a6 a7 a8 a1 a4 a3 a5 a9 ?_
  unfold Q0d.N
  refine ⟨fun c0 => ?_, fun c0 => ?_⟩
  ·refine ⟨fun c1 => ?_, fun c1 => ?_⟩
   ·refine ⟨fun c2 => ?_, fun c2 => ?_⟩
    ·refine ⟨fun c3 => ?_, fun c3 => ?_⟩
     ·refine ⟨fun c4 => ?_, fun c4 => ?_⟩
      ·refine ⟨fun c5 => ?_, fun c5 => ?_⟩
       ·refine ⟨fun c6 => ?_, fun c6 => ?_⟩
        ·refine ⟨fun c7 => ?_, fun c7 => ?_⟩
         ·refine ⟨fun c8 => ?_, fun c8 => ?_⟩
          ·intro w' hx; exact ⟨by unfold Q0d.F; rw [if_pos c0, if_pos c1, if_pos c2, if_pos c3, if_pos c4, if_pos c5, if_pos c6, if_pos c7, if_pos c8], hx⟩
          ·intro w' hx; exact ⟨by unfold Q0d.F; rw [if_pos c0, if_pos c1, if_pos c2, if_pos c3, if_pos c4, if_pos c5, if_pos c6, if_pos c7, if_neg (show ¬ (a1 < 20) from by omega)], hx⟩
         ·intro w' hx; exact ⟨by unfold Q0d.F; rw [if_pos c0, if_pos c1, if_pos c2, if_pos c3, if_pos c4, if_pos c5, if_pos c6, if_neg (show ¬ (a1 ≥ (-1)) from by omega)], hx⟩
        ·intro w' hx; exact ⟨by unfold Q0d.F; rw [if_pos c0, if_pos c1, if_pos c2, if_pos c3, if_pos c4, if_pos c5, if_neg c6], hx⟩
       ·intro w' hx; exact ⟨by unfold Q0d.F; rw [if_pos c0, if_pos c1, if_pos c2, if_pos c3, if_pos c4, if_neg (by rw [c5]; decide)], hx⟩
      ·intro w' hx; exact ⟨by unfold Q0d.F; rw [if_pos c0, if_pos c1, if_pos c2, if_pos c3, if_neg c4], hx⟩
     ·intro w' hx; exact ⟨by unfold Q0d.F; rw [if_pos c0, if_pos c1, if_pos c2, if_neg (show ¬ (a2 < 200) from by omega)], hx⟩
    ·intro w' hx; exact ⟨by unfold Q0d.F; rw [if_pos c0, if_pos c1, if_neg (show ¬ (a2 ≥ 0) from by omega)], hx⟩
   ·intro w' hx; exact ⟨by unfold Q0d.F; rw [if_pos c0, if_neg (show ¬ (a0 < 8) from by omega)], hx⟩
  ·intro w' hx; exact ⟨by unfold Q0d.F; rw [if_neg (show ¬ (a0 ≥ 0) from by omega)], hx⟩

structure Ent where
  w : Int
  i : Int
  pv : Int
  t : Int
  tw : Int
  ep : Int
  body : List UInt8
  sg : Int
deriving DecidableEq
def entC (e : Ent) (a : Option Addr) (c : Nat) : List Value := [.int .i64 e.w, .int .i64 e.i, .int .u64 e.pv, .int .i64 e.t, .int .i64 e.tw, .int .i64 e.ep, .slice a e.body.length c, .int .u64 e.sg]
def entV (e : Ent) (a : Option Addr) (c : Nat) : Value := .agg #[.int .i64 e.w, .int .i64 e.i, .int .u64 e.pv, .int .i64 e.t, .int .i64 e.tw, .int .i64 e.ep, .slice a e.body.length c, .int .u64 e.sg]
structure Ent.fit (e : Ent) : Prop where
  pv0 : 0 ≤ e.pv
  pv1 : e.pv < 18446744073709551616
  sg0 : 0 ≤ e.sg
  sg1 : e.sg < 18446744073709551616
def Q2c (e : Ent) : Bool := decide (0 ≤ e.w ∧ e.w < 8 ∧ 0 ≤ e.i ∧ e.i < 200 ∧ -1 ≤ e.ep ∧ e.ep < 20 ∧ 0 < e.t ∧ e.t ≤ 1099511627776 ∧ e.tw = e.w ∧ e.body.length ≤ 1100 ∧ (e.pv = 0 ↔ e.i = 0))
theorem beq_dec (x y : Int) : ((x == 0) == (y == 0)) = decide (x = 0 ↔ y = 0) := by
  rw [Bool.eq_iff_iff, decide_eq_true_eq, beq_iff_eq, Bool.eq_iff_iff, beq_iff_eq, beq_iff_eq]
theorem Q6O (n a b : Int) : Q0x.F n a b = decide (a ≤ n ∧ n < b) := by
  unfold Q0x.F
  by_cases h : n ≥ a
  · rw [if_pos h, decide_eq_decide]; omega
  · rw [if_neg h, eq_comm, decide_eq_false_iff_not]; omega
theorem Q4K (t w : Int) : Q0Z.F t w = decide (0 < t ∧ t ≤ 1099511627776 ∧ 0 ≤ w ∧ w < 8) := by
  unfold Q0Z.F Q0X.F
  by_cases h : t > 0
  · rw [if_pos h]
    by_cases h1 : t ≤ 1099511627776
    · rw [if_pos h1]
      by_cases h2 : w ≥ 0
      · rw [if_pos h2, decide_eq_decide]; omega
      · rw [if_neg h2, eq_comm, decide_eq_false_iff_not]; omega
    · rw [if_neg h1, eq_comm, decide_eq_false_iff_not]; omega
  · rw [if_neg h, eq_comm, decide_eq_false_iff_not]; omega
theorem Q5Q (t w : Int) : Q0h.F t w = decide (0 < t ∧ t ≤ 1099511627776 ∧ 0 ≤ w ∧ w < 8) := by
  unfold Q0h.F
  by_cases h : t ≥ 1
  · rw [if_pos h]
    by_cases h1 : t ≤ 1099511627776
    · rw [if_pos h1]
      by_cases h2 : w ≥ 0
      · rw [if_pos h2, decide_eq_decide]; omega
      · rw [if_neg h2, eq_comm, decide_eq_false_iff_not]; omega
    · rw [if_neg h1, eq_comm, decide_eq_false_iff_not]; omega
  · rw [if_neg h, eq_comm, decide_eq_false_iff_not]; omega
theorem Q5N (e : Ent) (a : Option Addr) (c : Nat) : Q0Q.F e.w e.i e.pv e.t e.tw e.ep a e.body.length c e.sg = Q2c e := by
  unfold Q0Q.F Q2c
  rw [beq_dec]
  simp only [Q6O, Q4K, decide_eq_false_iff_not]
  rw [Bool.eq_iff_iff, decide_eq_true_eq]
  (repeat' split) <;> simp only [Bool.false_eq_true, decide_eq_true_eq, false_iff] <;> omega
theorem Q5O (e : Ent) (a : Option Addr) (c : Nat) : Q0d.F e.w e.i e.pv e.t e.tw e.ep a e.body.length c e.sg = Q2c e := by
  unfold Q0d.F Q2c
  have h : ((e.pv == 0) = (e.i == 0)) ↔ (e.pv = 0 ↔ e.i = 0) := by rw [Bool.eq_iff_iff]; simp
  simp only [Q5Q, h, decide_eq_true_eq, decide_eq_false_iff_not]
  rw [Bool.eq_iff_iff, decide_eq_true_eq]
  (repeat' split) <;> simp only [Bool.false_eq_true, decide_eq_true_eq, false_iff] <;> omega
def boundL (w i e : Int) : List UInt8 := numL w.toNat ++ numL i.toNat ++ numL (zig e)
/-! ### the plain law -/
theorem Q2Z (e : Ent) : Q2c e = true ↔ (0 ≤ e.w ∧ e.w < 8 ∧ 0 ≤ e.i ∧ e.i < 200 ∧ -1 ≤ e.ep ∧ e.ep < 20 ∧ 0 < e.t ∧ e.t ≤ 1099511627776 ∧ e.tw = e.w ∧ e.body.length ≤ 1100 ∧ (e.pv = 0 ↔ e.i = 0)) := decide_eq_true_iff
open W (OwnB GivesW numR countR doneR zig unzig intR)
def Q1o.M (a0 a1 ab : Int) (R : RW) (w : World) : Prop :=
 Calls Tryz.prog 85 #[.slice none 0 0, .int .u64 (IntKind.u64.wrap (if (0 : Int) > a0 then 0 else a0))] w fun ae ah => ∃ (a9 : Option Addr) (a5 a6 : Nat), ae = .returned (.slice a9 a5 a6) ∧
 Calls Tryz.prog 85 #[.slice a9 a5 a6, .int .u64 (IntKind.u64.wrap (if (0 : Int) > a1 then 0 else a1))] ah fun af ag => ∃ (a8 : Option Addr) (aa a7 : Nat), af = .returned (.slice a8 aa a7) ∧
 Calls Tryz.prog 94 #[.slice a8 aa a7, .int .i64 ab] ag fun ad ac => ∃ (a3 : Option Addr) (a2 a4 : Nat), ad = .returned (.slice a3 a2 a4) ∧
 R (.slice a3 a2 a4) ac

theorem Q1o.ok (a0 a1 a2 : Int) {R : RW} {w : World} (h : Q1o.M a0 a1 a2 R w) : Calls Tryz.prog 69 #[.int .i64 a0, .int .i64 a1, .int .i64 a2] w fun e w' => ∃ v, e = .returned v ∧ R v w' :=
  Q0i follows (H := []) (args := [.int .i64 a0, .int .i64 a1, .int .i64 a2]) (cast (by kernel_rfl) h)

def Q1o.N (a0 a1 ab : Int) (R : RW) (w : World) : Prop :=
 Calls Tryz.prog 85 #[.slice none 0 0, .int .u64 (IntKind.u64.wrap (if (0 : Int) > a0 then 0 else a0))] w fun ae ah => ∃ (a9 : Option Addr) (a5 a6 : Nat), ae = .returned (.slice a9 a5 a6) ∧
 Calls Tryz.prog 85 #[.slice a9 a5 a6, .int .u64 (IntKind.u64.wrap (if (0 : Int) > a1 then 0 else a1))] ah fun af ag => ∃ (a8 : Option Addr) (aa a7 : Nat), af = .returned (.slice a8 aa a7) ∧
 Calls Tryz.prog 94 #[.slice a8 aa a7, .int .i64 ab] ag fun ad ac => ∃ (a3 : Option Addr) (a2 a4 : Nat), ad = .returned (.slice a3 a2 a4) ∧
 R (.slice a3 a2 a4) ac

theorem Q1o.up (a0 a1 a2 : Int) {R : RW} {w : World} (h : Q1o.N a0 a1 a2 R w) : Q1o.M a0 a1 a2 R w := by
  unfold Q1o.M
  unfold Q1o.N at h
  refine h.mono fun ae ah h => ?_
  obtain ⟨aa, a6, a7, he, h⟩ := h
  refine ⟨aa, a6, a7, he, ?_⟩
  refine h.mono fun af ag h => ?_
  obtain ⟨a9, ab, a8, he, h⟩ := h
  refine ⟨a9, ab, a8, he, ?_⟩
  refine h.mono fun ad ac h => ?_
  obtain ⟨a4, a3, a5, he, h⟩ := h
  refine ⟨a4, a3, a5, he, ?_⟩
  exact h

theorem Q1o.go (a0 a1 a2 : Int) {R : RW} {w : World} (h : Q1o.N a0 a1 a2 R w) : Calls Tryz.prog 69 #[.int .i64 a0, .int .i64 a1, .int .i64 a2] w fun e w' => ∃ v, e = .returned v ∧ R v w' := Q1o.ok a0 a1 a2 (Q1o.up a0 a1 a2 h)
theorem OwnB.up {N M : Nat} {w : World} {a : Option Addr} {c : Nat} {bs : List UInt8} (h : OwnB N w a c bs) (hM : M ≤ N) : OwnB M w a c bs := ⟨h.own, fun ad ha => ⟨Nat.le_trans hM (h.fr ad ha).1, (h.fr ad ha).2⟩⟩
theorem app {w0 wi w1 : World} {N : Nat} {a xa : Option Addr} {c xc : Nat} {l x : List UInt8} (hB : OwnB N wi a c l) (X : Ext no w0 wi) (h0 : w0.heap.size ≤ N) (hN : N ≤ wi.heap.size) (hx : Ext no wi w1) (hO : RowAt w1 xa (bytesV x)) (hl : l.length + x.length ≤ 100000000) :
    ∃ a' c' w', (Builtin.append_ #[25, 25] 25 #[.slice a l.length c, .slice xa x.length xc]).run Tryz.prog w1 = .ok (.slice a' (l ++ x).length c') w' ∧ OwnB N w' a' c' (l ++ x) ∧ Ext no w0 w' ∧ Ext (fun b => N ≤ b) w1 w' ∧ N ≤ w'.heap.size := by
  obtain ⟨a', c', w', hr, hO2, hx2⟩ := (hB.no hx).append (t := 25) (ty := 25) Tryz.underlying25 (Nat.le_trans hN hx.size) (xc := xc) hO hl
  exact ⟨a', c', w', hr, hO2, (X.trans hx).then hx2 fun b hb => .inr (Nat.le_trans h0 hb), hx2, Nat.le_trans hN (Nat.le_trans hx.size hx2.size)⟩
section
variable {w w' : World} {a : Option Addr} {c N p : Nat} {bs : List UInt8} {k : Int}
theorem Q41 {x y z : Int} (hx : x < 9223372036854775808) (hy : y < 9223372036854775808) (hz0 : -9223372036854775808 ≤ z) (hz : z < 9223372036854775808) :
    Calls Tryz.prog 69 #[.int .i64 x, .int .i64 y, .int .i64 z] w (fun e w' => ∃ a' c', e = .returned (.slice a' (boundL x y z).length c') ∧ OwnB w.heap.size w' a' c' (boundL x y z) ∧ Ext no w w') := by
  refine (Q1o.go x y z (R := fun v w' => ∃ a' c', v = (.slice a' (boundL x y z).length c') ∧ OwnB w.heap.size w' a' c' (boundL x y z) ∧ Ext no w w') ?_).mono fun x w' ⟨v, he, a, c, hv, hw⟩ => ⟨a, c, by rw [he, hv], hw⟩
  unfold Q1o.N
  have e1 : ∀ s : Int, s < 9223372036854775808 → IntKind.u64.wrap (if (0 : Int) > s then 0 else s) = ((s.toNat : Nat) : Int) := fun s hs => by split <;> rw [wu64 (by omega) (by omega)] <;> omega
  rw [e1 x hx, e1 y hy]
  have g1 := W.numL_le x.toNat; have g2 := W.numL_le y.toNat
  refine (W.Num_spec (bs := []) (RowAt.nil _ _) (by simp) (n := x.toNat) (by omega)).mono fun e w6 ⟨a1, c1, he, hO1, X6⟩ => ⟨a1, _, c1, he, ?_⟩
  refine (W.Num_spec hO1.row (by simp; omega) (n := y.toNat) (by omega)).mono fun e w9 ⟨a2, c2, he, hO2, X9⟩ => ⟨a2, _, c2, he, ?_⟩
  refine (W.Int_spec hO2.row (by simp; omega) hz0 hz).mono fun e w12 ⟨a3, c3, he, hO3, X12⟩ => ⟨a3, _, c3, he, a3, c3, ?_, ?_, (X6.trans X9).trans X12⟩
  · unfold boundL; simp
  · exact OwnB.up hO3 (X6.trans X9).size
/-! ### reading -/
end
open W (OwnB GivesW numR countR doneR zig unzig intR)
theorem litB {w w1 : World} {t e : TypeId} (hs : Tryz.prog.underlying t = some (.slice e)) (he : Tryz.prog.underlying e = some (.int .u8)) (bs : List UInt8) {q : Nat} (X : Ext no w w1) (hb : Blk w1 q e (bytesV bs)) (hq : w.heap.size ≤ q) :
    ∃ w2, (convert t t (.slice (some (blk q)) bs.length bs.length)).run Tryz.prog w1 = .ok (.slice (some (blk q)) bs.length bs.length) w2 ∧ RowAt w2 (some (blk q)) (bytesV bs) ∧ Ext no w w2 :=
  ⟨_, Q6e hs he hb, (RowAt.of_blk hb).freeze _ _, X.freeze (.inr hq) _⟩
section
variable {w w' : World} {a : Option Addr} {c N p : Nat} {bs : List UInt8} {k : Int}
end
open W (OwnB GivesW numR countR doneR zig unzig intR)
def Q11.M (a1 a0 ab : Int) (R : RW) (w : World) : Prop :=
 Calls Tryz.prog 53 #[.int .u64 (IntKind.u64.wrap (if (0 : Int) > a1 then 0 else a1))] w fun ao am => ∃ (aa : Option Addr) (a5 a6 : Nat), ao = .returned (.slice aa a5 a6) ∧
 Calls Tryz.prog 53 #[.int .u64 (IntKind.u64.wrap (if (0 : Int) > a0 then 0 else a0))] am fun ap an => ∃ (a8 : Option Addr) (a9 a7 : Nat), ap = .returned (.slice a8 a9 a7) ∧
 ∃ (aj : Option Addr) (ad af : Nat) (ae : World), (Builtin.append_ #[25, 25] 25 #[.slice aa a5 a6, .slice a8 a9 a7]).run Tryz.prog an = .ok (.slice aj ad af) ae ∧
 Calls Tryz.prog 74 #[.int .i64 ab] ae fun ak al => ∃ (a4 : Option Addr) (a3 a2 : Nat), ak = .returned (.slice a4 a3 a2) ∧
 ∃ (ac : Option Addr) (ah ag : Nat) (ai : World), (Builtin.append_ #[25, 25] 25 #[.slice aj ad af, .slice a4 a3 a2]).run Tryz.prog al = .ok (.slice ac ah ag) ai ∧
 R (.slice ac ah ag) ai

theorem Q11.ok (a0 a1 a2 : Int) {R : RW} {w : World} (h : Q11.M a0 a1 a2 R w) : Calls Tryz.prog 32 #[.int .i64 a0, .int .i64 a1, .int .i64 a2] w fun e w' => ∃ v, e = .returned v ∧ R v w' :=
  Q0i follows (H := []) (args := [.int .i64 a0, .int .i64 a1, .int .i64 a2]) (cast (by kernel_rfl) h)

def Q11.N (a1 a0 ab : Int) (R : RW) (w : World) : Prop :=
 Calls Tryz.prog 53 #[.int .u64 (IntKind.u64.wrap (if (0 : Int) > a1 then 0 else a1))] w fun ao am => ∃ (aa : Option Addr) (a5 a6 : Nat), ao = .returned (.slice aa a5 a6) ∧
 Calls Tryz.prog 53 #[.int .u64 (IntKind.u64.wrap (if (0 : Int) > a0 then 0 else a0))] am fun ap an => ∃ (a8 : Option Addr) (a9 a7 : Nat), ap = .returned (.slice a8 a9 a7) ∧
 ∃ (aj : Option Addr) (ad af : Nat) (ae : World), (Builtin.append_ #[25, 25] 25 #[.slice aa a5 a6, .slice a8 a9 a7]).run Tryz.prog an = .ok (.slice aj ad af) ae ∧
 Calls Tryz.prog 74 #[.int .i64 ab] ae fun ak al => ∃ (a4 : Option Addr) (a3 a2 : Nat), ak = .returned (.slice a4 a3 a2) ∧
 ∃ (ac : Option Addr) (ah ag : Nat) (ai : World), (Builtin.append_ #[25, 25] 25 #[.slice aj ad af, .slice a4 a3 a2]).run Tryz.prog al = .ok (.slice ac ah ag) ai ∧
 R (.slice ac ah ag) ai

theorem Q11.up (a1 a0 a2 : Int) {R : RW} {w : World} (h : Q11.N a1 a0 a2 R w) : Q11.M a1 a0 a2 R w := by
  unfold Q11.M
  unfold Q11.N at h
  refine h.mono fun ao am h => ?_
  obtain ⟨ab, a6, a7, he, h⟩ := h
  refine ⟨ab, a6, a7, he, ?_⟩
  refine h.mono fun ap an h => ?_
  obtain ⟨a9, aa, a8, he, h⟩ := h
  refine ⟨a9, aa, a8, he, ?_⟩
  obtain ⟨aj, ad, af, ae, hr, h⟩ := h
  refine ⟨aj, ad, af, ae, hr, ?_⟩
  refine h.mono fun ak al h => ?_
  obtain ⟨a5, a4, a3, he, h⟩ := h
  refine ⟨a5, a4, a3, he, ?_⟩
  obtain ⟨ac, ah, ag, ai, hr, h⟩ := h
  refine ⟨ac, ah, ag, ai, hr, ?_⟩
  exact h

theorem Q11.go (a0 a1 a2 : Int) {R : RW} {w : World} (h : Q11.N a0 a1 a2 R w) : Calls Tryz.prog 32 #[.int .i64 a0, .int .i64 a1, .int .i64 a2] w fun e w' => ∃ v, e = .returned v ∧ R v w' := Q11.ok a0 a1 a2 (Q11.up a0 a1 a2 h)
section
variable {w w' : World} {a : Option Addr} {c N p : Nat} {bs : List UInt8} {k : Int}
theorem Q3k {x y z : Int} (hx : x < 9223372036854775808) (hy : y < 9223372036854775808) (hz0 : -9223372036854775808 ≤ z) (hz : z < 9223372036854775808) :
    Calls Tryz.prog 32 #[.int .i64 x, .int .i64 y, .int .i64 z] w (fun e w' => ∃ a' c', e = .returned (.slice a' (boundL x y z).length c') ∧ OwnB w.heap.size w' a' c' (boundL x y z) ∧ Ext no w w') := by
  refine (Q11.go x y z (R := fun v w' => ∃ a' c', v = (.slice a' (boundL x y z).length c') ∧ OwnB w.heap.size w' a' c' (boundL x y z) ∧ Ext no w w') ?_).mono fun x w' ⟨v, he, a, c, hv, hw⟩ => ⟨a, c, by rw [he, hv], hw⟩
  unfold Q11.N
  have e1 : ∀ s : Int, s < 9223372036854775808 → IntKind.u64.wrap (if (0 : Int) > s then 0 else s) = ((s.toNat : Nat) : Int) := fun s hs => by split <;> rw [wu64 (by omega) (by omega)] <;> omega
  rw [e1 x hx, e1 y hy]
  have g1 := W.numL_le x.toNat; have g2 := W.numL_le y.toNat; have g3 := W.numL_le (zig z)
  refine (W.rNum_spec x.toNat w (by omega)).mono fun e w6 ⟨a1, c1, he, hB, X6⟩ => ⟨a1, _, c1, he, ?_⟩
  refine (W.rNum_spec y.toNat w6 (by omega)).mono fun e w9 ⟨a2, c2, he, hO, X9⟩ => ⟨a2, _, c2, he, ?_⟩
  obtain ⟨a3, c3, w11, hr, hB, Y, XA, hN⟩ := app hB X6 (Nat.le_refl _) X6.size X9 (xc := c2) hO.row (by omega)
  refine ⟨a3, _, c3, w11, hr, ?_⟩
  refine (Q6m hz0 hz).mono fun e w14 ⟨a2, c2, he, hO, X14⟩ => ⟨a2, _, c2, he, ?_⟩
  obtain ⟨a3, c3, w16, hr, hB, Y, XA, hN⟩ := app hB Y (Nat.le_refl _) hN X14 (xc := c2) hO.row (by (try simp only [List.length_append]) <;> omega)
  exact ⟨a3, _, c3, w16, hr, a3, c3, rfl, hB, Y⟩
end
set_option maxRecDepth 100000
def Q0f.M (a9 a6 a5 : Int) (R : RW) (w : World) : Prop :=
 thenW (w.alloc (.cells #[.int .i64 a9, .int .i64 a6, .int .i64 a5] 87)) fun a3 =>
 ∃ (a7 : Int), a3.cell? ((blk w.heap.size).add 0) = some (.int .i64 a7) ∧
 bif decide (a7 ≥ 0) then (
 ∃ (a8 : Int), a3.cell? ((blk w.heap.size).add 0) = some (.int .i64 a8) ∧
 bif decide (a8 < 8) then (
 ∃ (a1 : Int), a3.cell? ((blk w.heap.size).add 1) = some (.int .i64 a1) ∧
 bif decide (a1 ≥ 0) then (
 ∃ (a0 : Int), a3.cell? ((blk w.heap.size).add 1) = some (.int .i64 a0) ∧
 bif decide (a0 < 200) then (
 ∃ (a4 : Int), a3.cell? ((blk w.heap.size).add 2) = some (.int .i64 a4) ∧
 bif decide (a4 ≥ 0) then (
 ∃ (a2 : Int), a3.cell? ((blk w.heap.size).add 2) = some (.int .i64 a2) ∧
 R (.bool (decide (a2 < 20))) a3) else (
 R (.bool false) a3)) else (
 R (.bool false) a3)) else (
 R (.bool false) a3)) else (
 R (.bool false) a3)) else (
 R (.bool false) a3)

theorem Q0f.ok (a2 a1 a0 : Int) {R : RW} {w : World} (h : Q0f.M a2 a1 a0 R w) : Calls Tryz.prog 27 #[.agg #[.int .i64 a2, .int .i64 a1, .int .i64 a0]] w fun e w' => ∃ v, e = .returned v ∧ R v w' :=
  Q0i follows (H := []) (args := [.agg #[.int .i64 a2, .int .i64 a1, .int .i64 a0]]) (cast (by kernel_rfl) h)

def Q0f.N (a3 a0 a1 : Int) (R : RW) (w : World) : Prop :=
 (a3 ≥ 0 →
 (a3 < 8 →
 (a0 ≥ 0 →
 (a0 < 200 →
 (a1 ≥ 0 →
 ∀ (a2 : World), Ext no w a2 →
 R (.bool (decide (a1 < 20))) a2) ∧
 (a1 < 0 →
 ∀ (a2 : World), Ext no w a2 →
 R (.bool false) a2)) ∧
 ((200 : Int) ≤ a0 →
 ∀ (a2 : World), Ext no w a2 →
 R (.bool false) a2)) ∧
 (a0 < 0 →
 ∀ (a2 : World), Ext no w a2 →
 R (.bool false) a2)) ∧
 ((8 : Int) ≤ a3 →
 ∀ (a2 : World), Ext no w a2 →
 R (.bool false) a2)) ∧
 (a3 < 0 →
 ∀ (a2 : World), Ext no w a2 →
 R (.bool false) a2)

theorem Q0f.up (a5 a1 a0 : Int) {R : RW} {w : World} (h : Q0f.N a5 a1 a0 R w) : Q0f.M a5 a1 a0 R w := by
  unfold Q0f.M
  unfold Q0f.N at h
  refine Q01 fun a4 e4 => ?_
  have a2 := Blk.of_new e4
  have a6 := ((Ext.refl no w)).size
  have a3 := (Ext.refl no w).x_alloc e4
  refine ⟨a5, a2.celli 0 rfl rfl, ?_⟩
  refine bif_fo (fun c5 => ?_) (fun c5 => ?_)
  ·have h := h.2 (Int.not_le.1 (of_decide_eq_false c5))
   have h := h a4 a3
   exact h
  have h := h.1 (of_decide_eq_true c5)
  refine ⟨a5, a2.celli 0 rfl rfl, ?_⟩
  refine bif_fo (fun c6 => ?_) (fun c6 => ?_)
  ·have h := h.2 (Int.not_lt.1 (of_decide_eq_false c6))
   have h := h a4 a3
   exact h
  have h := h.1 (of_decide_eq_true c6)
  refine ⟨a1, a2.celli 1 rfl rfl, ?_⟩
  refine bif_fo (fun c7 => ?_) (fun c7 => ?_)
  ·have h := h.2 (Int.not_le.1 (of_decide_eq_false c7))
   have h := h a4 a3
   exact h
  have h := h.1 (of_decide_eq_true c7)
  refine ⟨a1, a2.celli 1 rfl rfl, ?_⟩
  refine bif_fo (fun c8 => ?_) (fun c8 => ?_)
  ·have h := h.2 (Int.not_lt.1 (of_decide_eq_false c8))
   have h := h a4 a3
   exact h
  have h := h.1 (of_decide_eq_true c8)
  refine ⟨a0, a2.celli 2 rfl rfl, ?_⟩
  refine bif_fo (fun c9 => ?_) (fun c9 => ?_)
  ·have h := h.2 (Int.not_le.1 (of_decide_eq_false c9))
   have h := h a4 a3
   exact h
  have h := h.1 (of_decide_eq_true c9)
  refine ⟨a0, a2.celli 2 rfl rfl, ?_⟩
  have h := h a4 a3
  exact h

theorem Q0f.go (a2 a1 a0 : Int) {R : RW} {w : World} (h : Q0f.N a2 a1 a0 R w) : Calls Tryz.prog 27 #[.agg #[.int .i64 a2, .int .i64 a1, .int .i64 a0]] w fun e w' => ∃ v, e = .returned v ∧ R v w' := Q0f.ok a2 a1 a0 (Q0f.up a2 a1 a0 h)
theorem Q0f.run (a2 a1 a0 : Int) {V : Value} {Q : World → Prop} {w : World} (h : Q0f.N a2 a1 a0 (fun v w' => v = V ∧ Q w') w) : Calls Tryz.prog 27 #[.agg #[.int .i64 a2, .int .i64 a1, .int .i64 a0]] w (Ret V Q) := (Q0f.go a2 a1 a0 h).mono fun e w' ⟨v, he, hv, hq⟩ => ⟨by rw [he, hv], hq⟩

def Q0f.F (a2 a1 a0 : Int) : Bool :=
  if a2 ≥ 0 then
    if a2 < 8 then
      if a1 ≥ 0 then
        if a1 < 200 then
          if a0 ≥ 0 then
            (decide (a0 < 20))
          else
            false
        else
          false
      else
        false
    else
      false
  else
    false
theorem Q0f.pure (a2 a0 a1 : Int) {w : World} : Calls Tryz.prog 27 #[.agg #[.int .i64 a2, .int .i64 a0, .int .i64 a1]] w (Ret (.bool (Q0f.F a2 a0 a1)) fun w' => Ext no w w') := by
  refine Q0f.run a2 a0 a1 ?_
  unfold Q0f.N
  refine ⟨fun c0 => ?_, fun c0 => ?_⟩
  ·refine ⟨fun c1 => ?_, fun c1 => ?_⟩
   ·refine ⟨fun c2 => ?_, fun c2 => ?_⟩
    ·refine ⟨fun c3 => ?_, fun c3 => ?_⟩
     ·refine ⟨fun c4 => ?_, fun c4 => ?_⟩
      ·intro w' hx; exact ⟨by unfold Q0f.F; rw [if_pos c0, if_pos c1, if_pos c2, if_pos c3, if_pos c4], hx⟩
      ·intro w' hx; exact ⟨by unfold Q0f.F; rw [if_pos c0, if_pos c1, if_pos c2, if_pos c3, if_neg (show ¬ (a1 ≥ 0) from by omega)], hx⟩
     ·intro w' hx; exact ⟨by unfold Q0f.F; rw [if_pos c0, if_pos c1, if_pos c2, if_neg (show ¬ (a0 < 200) from by omega)], hx⟩
    ·intro w' hx; exact ⟨by unfold Q0f.F; rw [if_pos c0, if_pos c1, if_neg (show ¬ (a0 ≥ 0) from by omega)], hx⟩
   ·intro w' hx; exact ⟨by unfold Q0f.F; rw [if_pos c0, if_neg (show ¬ (a2 < 8) from by omega)], hx⟩
  ·intro w' hx; exact ⟨by unfold Q0f.F; rw [if_neg (show ¬ (a2 ≥ 0) from by omega)], hx⟩

def Q0t.M  (R : RW) (w : World) : Prop :=
 R (.int .i64 7) w

theorem Q0t.ok  {R : RW} {w : World} (h : Q0t.M  R w) : Calls Tryz.prog 37 #[] w fun e w' => ∃ v, e = .returned v ∧ R v w' :=
  Q0i follows (H := []) (args := []) (cast (by kernel_rfl) h)

def Q0t.N  (R : RW) (w : World) : Prop :=
 R (.int .i64 7) w

theorem Q0t.up  {R : RW} {w : World} (h : Q0t.N  R w) : Q0t.M  R w := by
  unfold Q0t.M
  unfold Q0t.N at h
  exact h

theorem Q0t.go  {R : RW} {w : World} (h : Q0t.N  R w) : Calls Tryz.prog 37 #[] w fun e w' => ∃ v, e = .returned v ∧ R v w' := Q0t.ok  (Q0t.up  h)
theorem Q0t.run  {V : Value} {Q : World → Prop} {w : World} (h : Q0t.N  (fun v w' => v = V ∧ Q w') w) : Calls Tryz.prog 37 #[] w (Ret V Q) := (Q0t.go  h).mono fun e w' ⟨v, he, hv, hq⟩ => ⟨by rw [he, hv], hq⟩

def Q0t.F  : Int :=
  7
theorem Q0t.pure  {w : World} : Calls Tryz.prog 37 #[] w (Ret (.int .i64 Q0t.F) fun w' => Ext no w w') := by
  refine Q0t.run ?_
  unfold Q0t.N
  exact ⟨by unfold Q0t.F; rfl, Ext.refl _ _⟩

abbrev Q0P.J1 (am : Int) (ae : Addr) (ad : Nat) (al aj : Array Value) (ak : Option Addr) (ai an : Nat) (R : RW) (a8 : World) : Prop :=
 ∃ (ab : Int), a8.cell? (ae.add 0) = some (.int .i64 ab) ∧
 ∃ (a3 : Int), a8.cell? (ae.add 1) = some (.int .i64 a3) ∧
 ∃ (a4 : Int), a8.cell? (ae.add 2) = some (.int .i64 a4) ∧
 Calls Tryz.prog 69 #[.int .i64 ab, .int .i64 a3, .int .i64 a4] a8 fun af ac => ∃ (a2 : Option Addr) (a0 a1 : Nat), af = .returned (.slice a2 a0 a1) ∧
 bif enters Tryz.prog ad then Calls Tryz.prog ad (al.toList ++ ([.int .u64 am, .slice a2 a0 a1, .slice ak ai an] : List Value) ++ aj.toList).toArray ac (fun ah ag => ∃ (a5 : Option Addr) (a7 a6 : Nat) (aa : Int), ah = .returned (.tuple #[.slice a5 a7 a6, .int .i64 aa]) ∧
 R (.tuple #[.slice a5 a7 a6, .int .i64 aa]) ag) else (∃ (a5 : Option Addr) (a7 a6 : Nat) (aa : Int) (a9 : World), (Q1t ad (al.toList ++ ([.int .u64 am, .slice a2 a0 a1, .slice ak ai an] : List Value) ++ aj.toList).toArray).run Tryz.prog ac = .ok (.tuple #[.slice a5 a7 a6, .int .i64 aa]) a9 ∧
 R (.tuple #[.slice a5 a7 a6, .int .i64 aa]) a9)

def Q0P.M (ad a3 a2 : Int) (a4 : Nat) (a5 a6 : Array Value) (r5 ab : Option Addr) (ae ac : Nat) (R : RW) (w : World) : Prop :=
 thenW (w.alloc (.cells #[.int .i64 ad, .int .i64 a3, .int .i64 a2] 87)) fun aa =>
 ∃ (a1 : Int), aa.cell? ((blk w.heap.size).add 2) = some (.int .i64 a1) ∧
 Calls Tryz.prog 68 #[.pointer r5, .int .i64 a1] aa fun a9 a7 => ∃ (a8 a0 : Int), a9 = .returned (.tuple #[.int .u64 a8, .int .i64 a0]) ∧
 bif a0 != 0 then (
 R (.tuple #[.slice none 0 0, .int .i64 a0]) a7) else (
 Q0P.J1 a8 (blk w.heap.size) a4 a5 a6 ab ae ac R a7)

theorem Q0P.ok (a7 a1 a0 : Int) (a2 : Nat) (a3 a4 : Array Value) (r5 a5 : Option Addr) (a8 a6 : Nat) {R : RW} {w : World} (h : Q0P.M a7 a1 a0 a2 a3 a4 r5 a5 a8 a6 R w) : Calls Tryz.prog 28 #[.agg #[.int .i64 a7, .int .i64 a1, .int .i64 a0], .func (.func a2) a3 a4, .pointer r5, .slice a5 a8 a6] w fun e w' => ∃ v, e = .returned v ∧ R v w' :=
  Q0i follows (H := []) (args := [.agg #[.int .i64 a7, .int .i64 a1, .int .i64 a0], .func (.func a2) a3 a4, .pointer r5, .slice a5 a8 a6]) (cast (by kernel_rfl) h)

def Q0P.N (ao a6 a4 : Int) (a5 : Nat) (a7 a8 : Array Value) (r5 am : Option Addr) (an al : Nat) (R : RW) (w : World) : Prop :=
 ∀ (ae : World) (p8 : Nat), Ext no w ae → Priv w ae [p8] →
 Calls Tryz.prog 68 #[.pointer r5, .int .i64 a4] ae fun ah a9 => ∃ (ab a3 : Int), ah = .returned (.tuple #[.int .u64 ab, .int .i64 a3]) ∧
 Keep [p8] ae a9 ∧
 (a3 ≠ 0 →
 R (.tuple #[.slice none 0 0, .int .i64 a3]) a9) ∧
 (a3 = 0 →
 Calls Tryz.prog 69 #[.int .i64 ao, .int .i64 a6, .int .i64 a4] a9 fun ai aj => ∃ (a1 : Option Addr) (a2 a0 : Nat), ai = .returned (.slice a1 a2 a0) ∧
 enters Tryz.prog a5 = true ∧ Calls Tryz.prog a5 (a7.toList ++ ([.int .u64 ab, .slice a1 a2 a0, .slice am an al] : List Value) ++ a8.toList).toArray aj (fun ag af => ∃ (ac : Option Addr) (aa ad : Nat) (ak : Int), ag = .returned (.tuple #[.slice ac aa ad, .int .i64 ak]) ∧
 R (.tuple #[.slice ac aa ad, .int .i64 ak]) af))

theorem Q0P.up (af a1 a0 : Int) (a7 : Nat) (a4 a5 : Array Value) (r5 ah : Option Addr) (ai ag : Nat) {R : RW} {w : World} (h : Q0P.N af a1 a0 a7 a4 a5 r5 ah ai ag R w) : Q0P.M af a1 a0 a7 a4 a5 r5 ah ai ag R w := by
  unfold Q0P.M
  unfold Q0P.N at h
  refine Q01 fun am e7 => ?_
  have a8 := Blk.of_new e7
  have ak := ((Ext.refl no w)).size
  have ap := (Ext.refl no w).x_alloc e7
  refine ⟨a0, a8.celli 2 rfl rfl, ?_⟩
  have h := h am (w.heap.size) ap (Priv.cons ak a8.lt Priv.nil)
  refine h.mono fun an ar h => ?_
  obtain ⟨ac, a9, he, hk, h⟩ := h
  refine ⟨ac, a9, he, ?_⟩
  have a8 := hk.blk a8 (by simp)
  refine bif_of (fun ab => ?_) (fun ab => ?_)
  ·have h := h.1 (bne_t ab)
   exact h
  have h := h.2 (bne_f ab)
  unfold Q0P.J1
  refine ⟨af, a8.celli 0 rfl rfl, ?_⟩
  refine ⟨a1, a8.celli 1 rfl rfl, ?_⟩
  refine ⟨a0, a8.celli 2 rfl rfl, ?_⟩
  refine h.mono fun aq au h => ?_
  obtain ⟨a3, a6, a2, he, h⟩ := h
  refine ⟨a3, a6, a2, he, ?_⟩
  obtain ⟨hen, h⟩ := h
  refine bif_tt hen ?_
  refine h.mono fun al aj h => ?_
  obtain ⟨ad, aa, ae, ao, he, h⟩ := h
  refine ⟨ad, aa, ae, ao, he, ?_⟩
  exact h

theorem Q0P.go (a7 a1 a0 : Int) (a2 : Nat) (a3 a4 : Array Value) (r5 a5 : Option Addr) (a8 a6 : Nat) {R : RW} {w : World} (h : Q0P.N a7 a1 a0 a2 a3 a4 r5 a5 a8 a6 R w) : Calls Tryz.prog 28 #[.agg #[.int .i64 a7, .int .i64 a1, .int .i64 a0], .func (.func a2) a3 a4, .pointer r5, .slice a5 a8 a6] w fun e w' => ∃ v, e = .returned v ∧ R v w' := Q0P.ok a7 a1 a0 a2 a3 a4 r5 a5 a8 a6 (Q0P.up a7 a1 a0 a2 a3 a4 r5 a5 a8 a6 h)
def Q1k.M (o1 r2 : Option Addr) (am a8 ad : Int) (aa : Option Addr) (ae ab : Nat) (R : RW) (w : World) : Prop :=
 thenW (w.alloc (.cells #[.int .i64 0, .int .i64 0, .int .i64 0] 87)) fun al =>
 putsK al (blk w.heap.size) [.int .i64 am, .int .i64 a8, .int .i64 ad] 0 fun aj =>
 ∃ (ak a0 a3 : Int), cellsAt aj (blk w.heap.size) [.int .i64 ak, .int .i64 a0, .int .i64 a3] 0 ∧
 Calls Tryz.prog 27 #[.agg #[.int .i64 ak, .int .i64 a0, .int .i64 a3]] aj fun ah ac => ∃ (a4 : Bool), ah = .returned (.bool a4) ∧
 bif !a4 then (
 R (.tuple #[.slice none 0 0, .int .i64 1]) ac) else (
 ∃ (af a2 a1 : Int), cellsAt ac (blk w.heap.size) [.int .i64 af, .int .i64 a2, .int .i64 a1] 0 ∧
 Calls Tryz.prog 28 #[.agg #[.int .i64 af, .int .i64 a2, .int .i64 a1], .func (.func 29) #[.pointer o1] #[], .pointer r2, .slice aa ae ab] ac fun ag ai => ∃ (a7 : Option Addr) (a5 a6 : Nat) (a9 : Int), ag = .returned (.tuple #[.slice a7 a5 a6, .int .i64 a9]) ∧
 R (.tuple #[.slice a7 a5 a6, .int .i64 a9]) ai)

theorem Q1k.ok (o1 r2 : Option Addr) (a5 a0 a2 : Int) (a1 : Option Addr) (a4 a3 : Nat) {R : RW} {w : World} (h : Q1k.M o1 r2 a5 a0 a2 a1 a4 a3 R w) : Calls Tryz.prog 6 #[.pointer o1, .pointer r2, .int .i64 a5, .int .i64 a0, .int .i64 a2, .slice a1 a4 a3] w fun e w' => ∃ v, e = .returned v ∧ R v w' :=
  Q0i follows (H := []) (args := [.pointer o1, .pointer r2, .int .i64 a5, .int .i64 a0, .int .i64 a2, .slice a1 a4 a3]) (cast (by kernel_rfl) h)

def Q1k.N (o1 r2 : Option Addr) (ac a0 a1 : Int) (a6 : Option Addr) (a8 a7 : Nat) (R : RW) (w : World) : Prop :=
 ((Q0f.F ac a0 a1) = false →
 ∀ (a9 : World), Ext no w a9 →
 R (.tuple #[.slice none 0 0, .int .i64 1]) a9) ∧
 ((Q0f.F ac a0 a1) = true →
 ∀ (a9 : World), Ext no w a9 →
 Calls Tryz.prog 28 #[.agg #[.int .i64 ac, .int .i64 a0, .int .i64 a1], .func (.func 29) #[.pointer o1] #[], .pointer r2, .slice a6 a8 a7] a9 fun aa ab => ∃ (a4 : Option Addr) (a2 a3 : Nat) (a5 : Int), aa = .returned (.tuple #[.slice a4 a2 a3, .int .i64 a5]) ∧
 R (.tuple #[.slice a4 a2 a3, .int .i64 a5]) ab)

theorem Q1k.up (o1 r2 : Option Addr) (a9 a0 a1 : Int) (a2 : Option Addr) (a4 a3 : Nat) {R : RW} {w : World} (h : Q1k.N o1 r2 a9 a0 a1 a2 a4 a3 R w) : Q1k.M o1 r2 a9 a0 a1 a2 a4 a3 R w := by
  unfold Q1k.M
  unfold Q1k.N at h
  refine Q01 fun aj e7 => ?_
  have a5 := Blk.of_new e7
  have ae := ((Ext.refl no w)).size
  have ag := (Ext.refl no w).x_alloc e7
  refine Q0s (k := 0) (j := 0) a5 (Nat.le_of_ble_eq_true rfl) fun af X8 b8 => ?_
  have ad := ag.x_puts X8 (.inr ae)
  have a5 : Blk af w.heap.size 87 [.int .i64 a9, .int .i64 a0, .int .i64 a1] := b8
  refine ⟨a9, a0, a1, ⟨a5.celli 0 rfl rfl, a5.celli 1 rfl rfl, a5.celli 2 rfl rfl, trivial⟩, ?_⟩
  refine (Q0f.pure a9 a0 a1).mono fun ee ww9 ⟨he, hxx⟩ => ⟨(Q0f.F a9 a0 a1), he, ?_⟩
  have ac := ad.trans hxx
  have a5 := a5.ext hxx id
  refine bif_of (fun ab => ?_) (fun ab => ?_)
  ·have h := h.1 (not_t ab)
   have h := h ww9 ac
   exact h
  have h := h.2 (not_f ab)
  refine ⟨a9, a0, a1, ⟨a5.celli 0 rfl rfl, a5.celli 1 rfl rfl, a5.celli 2 rfl rfl, trivial⟩, ?_⟩
  have h := h ww9 ac
  refine h.mono fun ah ai h => ?_
  obtain ⟨a8, a7, a6, aa, he, h⟩ := h
  refine ⟨a8, a7, a6, aa, he, ?_⟩
  exact h

theorem Q1k.go (o1 r2 : Option Addr) (a5 a0 a2 : Int) (a1 : Option Addr) (a4 a3 : Nat) {R : RW} {w : World} (h : Q1k.N o1 r2 a5 a0 a2 a1 a4 a3 R w) : Calls Tryz.prog 6 #[.pointer o1, .pointer r2, .int .i64 a5, .int .i64 a0, .int .i64 a2, .slice a1 a4 a3] w fun e w' => ∃ v, e = .returned v ∧ R v w' := Q1k.ok o1 r2 a5 a0 a2 a1 a4 a3 (Q1k.up o1 r2 a5 a0 a2 a1 a4 a3 h)
def Q1j.M (o1 r2 : Option Addr) (ag ao av ay ax ar : Int) (ap : Option Addr) (an aq : Nat) (aw : Int) (R : RW) (w : World) : Prop :=
 thenW (w.alloc (.cells #[.int .i64 ag, .int .i64 ao, .int .u64 av, .int .i64 ay, .int .i64 ax, .int .i64 ar, .slice ap an aq, .int .u64 aw] 30)) fun az =>
 ∃ (a0 a6 ad am al a3 : Int) (a2 : Option Addr) (a5 a1 : Nat) (ah : Int), cellsAt az (blk w.heap.size) [.int .i64 a0, .int .i64 a6, .int .u64 ad, .int .i64 am, .int .i64 al, .int .i64 a3, .slice a2 a5 a1, .int .u64 ah] 0 ∧
 Calls Tryz.prog 33 #[.agg #[.int .i64 a0, .int .i64 a6, .int .u64 ad, .int .i64 am, .int .i64 al, .int .i64 a3, .slice a2 a5 a1, .int .u64 ah]] az fun b0 a4 => ∃ (ae : Bool), b0 = .returned (.bool ae) ∧
 bif !ae then (
 R (.tuple #[.slice none 0 0, .int .i64 1]) a4) else (
 ∃ (aa : Int), a4.cell? ((blk w.heap.size).add 5) = some (.int .i64 aa) ∧
 bif decide (aa < 0) then (
 R (.tuple #[.slice none 0 0, .int .i64 10]) a4) else (
 ∃ (a7 : Int), a4.cell? ((blk w.heap.size).add 0) = some (.int .i64 a7) ∧
 ∃ (af : Int), a4.cell? ((blk w.heap.size).add 1) = some (.int .i64 af) ∧
 ∃ (a9 : Int), a4.cell? ((blk w.heap.size).add 5) = some (.int .i64 a9) ∧
 ∃ (ab : Option Addr) (a8 ac : Nat), a4.cell? ((blk w.heap.size).add 6) = some (.slice ab a8 ac) ∧
 Calls Tryz.prog 28 #[.agg #[.int .i64 a7, .int .i64 af, .int .i64 a9], .func (.func 34) #[.pointer o1] #[], .pointer r2, .slice ab a8 ac] a4 fun b1 b2 => ∃ (ak : Option Addr) (aj ai : Nat) (au : Int), b1 = .returned (.tuple #[.slice ak aj ai, .int .i64 au]) ∧
 R (.tuple #[.slice ak aj ai, .int .i64 au]) b2))

theorem Q1j.ok (o1 r2 : Option Addr) (a0 a5 a6 a8 a9 a4 : Int) (a2 : Option Addr) (a1 a3 : Nat) (a7 : Int) {R : RW} {w : World} (h : Q1j.M o1 r2 a0 a5 a6 a8 a9 a4 a2 a1 a3 a7 R w) : Calls Tryz.prog 9 #[.pointer o1, .pointer r2, .agg #[.int .i64 a0, .int .i64 a5, .int .u64 a6, .int .i64 a8, .int .i64 a9, .int .i64 a4, .slice a2 a1 a3, .int .u64 a7]] w fun e w' => ∃ v, e = .returned v ∧ R v w' :=
  Q0i follows (H := []) (args := [.pointer o1, .pointer r2, .agg #[.int .i64 a0, .int .i64 a5, .int .u64 a6, .int .i64 a8, .int .i64 a9, .int .i64 a4, .slice a2 a1 a3, .int .u64 a7]]) (cast (by kernel_rfl) h)

def Q1j.N (o1 r2 : Option Addr) (a1 a5 a8 ac ad a0 : Int) (a2 : Option Addr) (a3 a4 : Nat) (aa : Int) (R : RW) (w : World) : Prop :=
 ((Q0Q.F a1 a5 a8 ac ad a0 a2 a3 a4 aa) = false →
 ∀ (a6 : World), Ext no w a6 →
 R (.tuple #[.slice none 0 0, .int .i64 1]) a6) ∧
 ((Q0Q.F a1 a5 a8 ac ad a0 a2 a3 a4 aa) = true →
 (a0 < 0 →
 ∀ (a6 : World), Ext no w a6 →
 R (.tuple #[.slice none 0 0, .int .i64 10]) a6) ∧
 ((0 : Int) ≤ a0 →
 ∀ (a6 : World), Ext no w a6 →
 Calls Tryz.prog 28 #[.agg #[.int .i64 a1, .int .i64 a5, .int .i64 a0], .func (.func 34) #[.pointer o1] #[], .pointer r2, .slice a2 a3 a4] a6 fun af ag => ∃ (a9 : Option Addr) (ab a7 : Nat) (ae : Int), af = .returned (.tuple #[.slice a9 ab a7, .int .i64 ae]) ∧
 R (.tuple #[.slice a9 ab a7, .int .i64 ae]) ag))

theorem Q1j.up (o1 r2 : Option Addr) (a0 a3 a6 a9 a8 a1 : Int) (a4 : Option Addr) (a2 a5 : Nat) (a7 : Int) {R : RW} {w : World} (h : Q1j.N o1 r2 a0 a3 a6 a9 a8 a1 a4 a2 a5 a7 R w) : Q1j.M o1 r2 a0 a3 a6 a9 a8 a1 a4 a2 a5 a7 R w := by
  unfold Q1j.M
  unfold Q1j.N at h
  refine Q01 fun am aj => ?_
  have aa := Blk.of_new aj
  have an := ((Ext.refl no w)).size
  have ai := (Ext.refl no w).x_alloc aj
  refine ⟨a0, a3, a6, a9, a8, a1, a4, a2, a5, a7, ⟨aa.celli 0 rfl rfl, aa.celli 1 rfl rfl, aa.celli 2 rfl rfl, aa.celli 3 rfl rfl, aa.celli 4 rfl rfl, aa.celli 5 rfl rfl, aa.celli 6 rfl rfl, aa.celli 7 rfl rfl, trivial⟩, ?_⟩
  refine (Q0Q.pure a0 a3 a6 a9 a8 a1 a4 a2 a5 a7).mono fun ee ww12 ⟨he, hxx⟩ => ⟨(Q0Q.F a0 a3 a6 a9 a8 a1 a4 a2 a5 a7), he, ?_⟩
  have ad := ai.trans hxx
  have aa := aa.ext hxx id
  refine bif_of (fun ag => ?_) (fun ag => ?_)
  ·have h := h.1 (not_t ag)
   have h := h ww12 ad
   exact h
  have h := h.2 (not_f ag)
  refine ⟨a1, aa.celli 5 rfl rfl, ?_⟩
  refine bif_of (fun ah => ?_) (fun ah => ?_)
  ·have h := h.1 (of_decide_eq_true ah)
   have h := h ww12 ad
   exact h
  have h := h.2 (Int.not_lt.1 (of_decide_eq_false ah))
  refine ⟨a0, aa.celli 0 rfl rfl, ?_⟩
  refine ⟨a3, aa.celli 1 rfl rfl, ?_⟩
  refine ⟨a1, aa.celli 5 rfl rfl, ?_⟩
  refine ⟨a4, a2, a5, aa.celli 6 rfl rfl, ?_⟩
  have h := h ww12 ad
  refine h.mono fun ak al h => ?_
  obtain ⟨ae, ab, ac, af, he, h⟩ := h
  refine ⟨ae, ab, ac, af, he, ?_⟩
  exact h

theorem Q1j.go (o1 r2 : Option Addr) (a0 a5 a6 a8 a9 a4 : Int) (a2 : Option Addr) (a1 a3 : Nat) (a7 : Int) {R : RW} {w : World} (h : Q1j.N o1 r2 a0 a5 a6 a8 a9 a4 a2 a1 a3 a7 R w) : Calls Tryz.prog 9 #[.pointer o1, .pointer r2, .agg #[.int .i64 a0, .int .i64 a5, .int .u64 a6, .int .i64 a8, .int .i64 a9, .int .i64 a4, .slice a2 a1 a3, .int .u64 a7]] w fun e w' => ∃ v, e = .returned v ∧ R v w' := Q1j.ok o1 r2 a0 a5 a6 a8 a9 a4 a2 a1 a3 a7 (Q1j.up o1 r2 a0 a5 a6 a8 a9 a4 a2 a1 a3 a7 h)
def Q1d.M (a4 aa ac ae ah a9 : Int) (a7 : Option Addr) (a6 a8 : Nat) (af : Int) (R : RW) (w : World) : Prop :=
 thenW (w.alloc (.cells #[.int .i64 a4, .int .i64 aa, .int .u64 ac, .int .i64 ae, .int .i64 ah, .int .i64 a9, .slice a7 a6 a8, .int .u64 af] 30)) fun ap =>
 Calls Tryz.prog 37 #[] ap fun ak al => ∃ (a0 : Int), ak = .returned (.int .i64 a0) ∧
 ∃ (I0 : Nat → List Value → World → Prop) (ao : Nat), I0 ao [.int .i64 0] al ∧ ∀ (an : Nat) (ad : World) (ai : Int), I0 an [.int .i64 ai] ad →
 bif decide (ai < a0) then (
 thenW (ad.drew) fun ag =>
 ∃ (a3 : Option Addr) (a1 a2 : Nat), ag.cell? ((blk w.heap.size).add 6) = some (.slice a3 a1 a2) ∧
 Calls Tryz.prog 38 #[.int .i64 ai] ag fun aj ab => ∃ (a5 : Int), aj = .returned (.int .i64 a5) ∧
 ab.cell? ((blk w.heap.size).add 6) = some (.slice a3 a1 a2) ∧
 bif (a1 : Int) == (IntKind.i64.wrap ((8 : Int) + a5)) then (
 R (.int .i64 ai) ab) else (
 ∃ am, am < an ∧ I0 am [.int .i64 (IntKind.i64.wrap (ai + 1))] ab)) else (
 R (.int .i64 (-1)) ad)

theorem Q1d.ok (a0 a3 a6 a7 a8 a1 : Int) (a4 : Option Addr) (a2 a5 : Nat) (a9 : Int) {R : RW} {w : World} (h : Q1d.M a0 a3 a6 a7 a8 a1 a4 a2 a5 a9 R w) : Calls Tryz.prog 11 #[.agg #[.int .i64 a0, .int .i64 a3, .int .u64 a6, .int .i64 a7, .int .i64 a8, .int .i64 a1, .slice a4 a2 a5, .int .u64 a9]] w fun e w' => ∃ v, e = .returned v ∧ R v w' :=
  Q0i follows (H := [(0, [1, 4], [(5, (.one (.int .i64)))])]) (args := [.agg #[.int .i64 a0, .int .i64 a3, .int .u64 a6, .int .i64 a7, .int .i64 a8, .int .i64 a1, .slice a4 a2 a5, .int .u64 a9]]) (cast (by kernel_rfl) h)

def Q1d.N (a7 ab ad af ai aa : Int) (a8 : Option Addr) (a1 a9 : Nat) (ag : Int) (R : RW) (w : World) : Prop :=
 ∀ (a5 : World) (aj : Nat), Ext no w a5 → Priv w a5 [aj] →
 ∃ (I0 : Nat → List Value → World → Prop) (ak : Nat), I0 ak [.int .i64 0] a5 ∧ ∀ (ah : Nat) (a3 : World) (a2 : Int), I0 ah [.int .i64 a2] a3 →
 (a2 < Q0t.F →
 ∀ (a6 : World), Ext no a3 a6 →
 Calls Tryz.prog 38 #[.int .i64 a2] a6 fun ac a4 => ∃ (a0 : Int), ac = .returned (.int .i64 a0) ∧
 Keep [aj] a6 a4 ∧
 (-9223372036854775808 : Int) ≤ ((8 : Int) + a0) ∧ ((8 : Int) + a0) < 9223372036854775808 ∧
 ((a1 : Int) = ((8 : Int) + a0) →
 R (.int .i64 a2) a4) ∧
 ((a1 : Int) ≠ ((8 : Int) + a0) →
 (-9223372036854775808 : Int) ≤ (a2 + 1) ∧ (a2 + 1) < 9223372036854775808 ∧
 ∃ ae, ae < ah ∧ I0 ae [.int .i64 (a2 + 1)] a4)) ∧
 (Q0t.F ≤ a2 →
 R (.int .i64 (-1)) a3)

theorem Q1d.up (a3 a5 a6 a8 aa a4 : Int) (a1 : Option Addr) (a0 a2 : Nat) (a9 : Int) {R : RW} {w : World} (h : Q1d.N a3 a5 a6 a8 aa a4 a1 a0 a2 a9 R w) : Q1d.M a3 a5 a6 a8 aa a4 a1 a0 a2 a9 R w := by
  unfold Q1d.M
  unfold Q1d.N at h
  refine Q01 fun av e9 => ?_
  have a7 := Blk.of_new e9
  have ap := ((Ext.refl no w)).size
  have ar := (Ext.refl no w).x_alloc e9
  refine (Q0t.pure).mono fun ee ww10 ⟨he, hxx⟩ => ⟨(Q0t.F), he, ?_⟩
  have ag := ar.trans hxx
  have a7 := a7.ext hxx id
  have h := h ww10 (w.heap.size) ag (Priv.cons ap a7.lt Priv.nil)
  obtain ⟨I0, am, h0, h⟩ := h
  refine ⟨fun k vs ww => Blk ww w.heap.size 30 [.int .i64 a3, .int .i64 a5, .int .u64 a6, .int .i64 a8, .int .i64 aa, .int .i64 a4, .slice a1 a0 a2, .int .u64 a9] ∧ I0 k vs ww, am, ⟨a7, h0⟩, fun au ac ao hI => ?_⟩
  obtain ⟨a7, hI⟩ := hI
  have h := h au ac ao hI
  refine bif_fo (fun ae => ?_) (fun ae => ?_)
  ·have h := h.2 (Int.not_lt.1 (of_decide_eq_false ae))
   exact h
  have h := h.1 (of_decide_eq_true ae)
  refine Q01 fun af ak => ?_
  have ai := (Ext.refl no ac).x_drew ak
  have a7 := a7.x_drew ak
  refine ⟨a1, a0, a2, a7.celli 6 rfl rfl, ?_⟩
  have h := h af ai
  refine h.mono fun aq an h => ?_
  obtain ⟨ab, he, hk, h⟩ := h
  refine ⟨ab, he, ?_⟩
  have a7 := hk.blk a7 (by simp)
  refine ⟨a7.celli 6 rfl rfl, ?_⟩
  obtain ⟨aj, ah, h⟩ := h
  try rw [w64 aj ah]
  refine bif_of (fun ad => ?_) (fun ad => ?_)
  ·have h := h.1 (beq_t ad)
   exact h
  have h := h.2 (beq_f ad)
  obtain ⟨aj, ah, h⟩ := h
  try rw [w64 aj ah]
  obtain ⟨al, hk, h⟩ := h
  exact ⟨al, hk, a7, h⟩

theorem Q1d.go (a0 a3 a6 a7 a8 a1 : Int) (a4 : Option Addr) (a2 a5 : Nat) (a9 : Int) {R : RW} {w : World} (h : Q1d.N a0 a3 a6 a7 a8 a1 a4 a2 a5 a9 R w) : Calls Tryz.prog 11 #[.agg #[.int .i64 a0, .int .i64 a3, .int .u64 a6, .int .i64 a7, .int .i64 a8, .int .i64 a1, .slice a4 a2 a5, .int .u64 a9]] w fun e w' => ∃ v, e = .returned v ∧ R v w' := Q1d.ok a0 a3 a6 a7 a8 a1 a4 a2 a5 a9 (Q1d.up a0 a3 a6 a7 a8 a1 a4 a2 a5 a9 h)
def Q1m.M (c1 : Int) (R : RW) (w : World) : Prop :=
 Calls Tryz.prog 82 #[.int .i64 c1] w fun a2 a1 => ∃ (a0 : Int), a2 = .returned (.int .i64 a0) ∧
 R (.int .i64 a0) a1

theorem Q1m.ok (c1 : Int) {R : RW} {w : World} (h : Q1m.M c1 R w) : Calls Tryz.prog 40 #[.int .i64 c1] w fun e w' => ∃ v, e = .returned v ∧ R v w' :=
  Q0i follows (H := []) (args := [.int .i64 c1]) (cast (by kernel_rfl) h)

def Q1m.N (c1 : Int) (R : RW) (w : World) : Prop :=
 Calls Tryz.prog 82 #[.int .i64 c1] w fun a2 a1 => ∃ (a0 : Int), a2 = .returned (.int .i64 a0) ∧
 R (.int .i64 a0) a1

theorem Q1m.up (c1 : Int) {R : RW} {w : World} (h : Q1m.N c1 R w) : Q1m.M c1 R w := by
  unfold Q1m.M
  unfold Q1m.N at h
  refine h.mono fun a2 a1 h => ?_
  obtain ⟨a0, he, h⟩ := h
  refine ⟨a0, he, ?_⟩
  exact h

theorem Q1m.go (c1 : Int) {R : RW} {w : World} (h : Q1m.N c1 R w) : Calls Tryz.prog 40 #[.int .i64 c1] w fun e w' => ∃ v, e = .returned v ∧ R v w' := Q1m.ok c1 (Q1m.up c1 h)
def Q1i.M  (R : RW) (w : World) : Prop :=
 Calls Tryz.prog 37 #[] w fun a2 a5 => ∃ (a0 : Int), a2 = .returned (.int .i64 a0) ∧
 Calls Tryz.prog 40 #[.int .i64 (IntKind.i64.wrap (a0 - 1))] a5 fun a3 a4 => ∃ (a1 : Int), a3 = .returned (.int .i64 a1) ∧
 R (.int .i64 a1) a4

theorem Q1i.ok  {R : RW} {w : World} (h : Q1i.M  R w) : Calls Tryz.prog 13 #[] w fun e w' => ∃ v, e = .returned v ∧ R v w' :=
  Q0i follows (H := []) (args := []) (cast (by kernel_rfl) h)

def Q1i.N  (R : RW) (w : World) : Prop :=
 (-9223372036854775808 : Int) ≤ (Q0t.F - 1) ∧ (Q0t.F - 1) < 9223372036854775808 ∧
 ∀ (a1 : World), Ext no w a1 →
 Calls Tryz.prog 40 #[.int .i64 (Q0t.F - 1)] a1 fun a2 a3 => ∃ (a0 : Int), a2 = .returned (.int .i64 a0) ∧
 R (.int .i64 a0) a3

theorem Q1i.up  {R : RW} {w : World} (h : Q1i.N  R w) : Q1i.M  R w := by
  unfold Q1i.M
  unfold Q1i.N at h
  refine (Q0t.pure).mono fun ee ww1 ⟨he, hxx⟩ => ⟨(Q0t.F), he, ?_⟩
  have a3 := (Ext.refl no w).trans hxx
  obtain ⟨a1, a2, h⟩ := h
  try rw [w64 a1 a2]
  have h := h ww1 a3
  refine h.mono fun a4 a5 h => ?_
  obtain ⟨a0, he, h⟩ := h
  refine ⟨a0, he, ?_⟩
  exact h

theorem Q1i.go  {R : RW} {w : World} (h : Q1i.N  R w) : Calls Tryz.prog 13 #[] w fun e w' => ∃ v, e = .returned v ∧ R v w' := Q1i.ok  (Q1i.up  h)
def Q0z.M (r1 : Option Addr) (a0 : Int) (R : RW) (w : World) : Prop :=
 bif decide (a0 < 0) then (
 R (.tuple #[.int .u64 0, .int .i64 2]) w) else (
 r1.elim False fun a3 =>
 ∃ (ad : Option Addr) (a6 ab : Nat), w.cell? (a3.add 2) = some (.slice ad a6 ab) ∧
 bif decide (a0 ≥ (a6 : Int)) then (
 R (.tuple #[.int .u64 0, .int .i64 2]) w) else (
 r1.elim False fun a5 =>
 ∃ (a4 : Option Addr) (a8 ac : Nat), w.cell? (a5.add 2) = some (.slice a4 a8 ac) ∧
 a4.elim False fun a7 =>
 0 ≤ (a0 : Int) ∧ (a0 : Int) < (a8 : Int) ∧
 ∃ (x8 : Int), w.cell? (a7.add (Int.toNat a0 * 1)) = some (.int .u64 x8) ∧
 bif x8 == 0 then (
 R (.tuple #[.int .u64 0, .int .i64 11]) w) else (
 r1.elim False fun a9 =>
 ∃ (a1 : Option Addr) (a2 aa : Nat), w.cell? (a9.add 2) = some (.slice a1 a2 aa) ∧
 a1.elim False fun af =>
 0 ≤ (a0 : Int) ∧ (a0 : Int) < (a2 : Int) ∧
 ∃ (ae : Int), w.cell? (af.add (Int.toNat a0 * 1)) = some (.int .u64 ae) ∧
 R (.tuple #[.int .u64 ae, .int .i64 0]) w)))

theorem Q0z.ok (r1 : Option Addr) (a0 : Int) {R : RW} {w : World} (h : Q0z.M r1 a0 R w) : Calls Tryz.prog 30 #[.pointer r1, .int .i64 a0] w fun e w' => ∃ v, e = .returned v ∧ R v w' :=
  Q0i follows (H := []) (args := [.pointer r1, .int .i64 a0]) (cast (by kernel_rfl) h)

def Q0z.N (r1 : Option Addr) (a0 : Int) (R : RW) (w : World) : Prop :=
 (a0 < 0 →
 R (.tuple #[.int .u64 0, .int .i64 2]) w) ∧
 ((0 : Int) ≤ a0 →
 ∃ a4 : Addr, r1 = some a4 ∧
 ∃ (aa : Option Addr) (a1 a9 : Nat), w.cell? (a4.add 2) = some (.slice aa a1 a9) ∧
 (a0 ≥ (a1 : Int) →
 R (.tuple #[.int .u64 0, .int .i64 2]) w) ∧
 (a0 < (a1 : Int) →
 ∃ (a5 : Option Addr) (a6 a8 : Nat), w.cell? (a4.add 2) = some (.slice a5 a6 a8) ∧
 ∃ ad : Addr, a5 = some ad ∧
 0 ≤ (a0 : Int) ∧ (a0 : Int) < (a6 : Int) ∧
 ∃ (ab : Int), w.cell? (ad.add (Int.toNat a0 * 1)) = some (.int .u64 ab) ∧
 (ab = 0 →
 R (.tuple #[.int .u64 0, .int .i64 11]) w) ∧
 (ab ≠ 0 →
 ∃ (a3 : Option Addr) (a2 a7 : Nat), w.cell? (a4.add 2) = some (.slice a3 a2 a7) ∧
 ∃ ac : Addr, a3 = some ac ∧
 0 ≤ (a0 : Int) ∧ (a0 : Int) < (a2 : Int) ∧
 ∃ (ae : Int), w.cell? (ac.add (Int.toNat a0 * 1)) = some (.int .u64 ae) ∧
 R (.tuple #[.int .u64 ae, .int .i64 0]) w)))

theorem Q0z.up (r1 : Option Addr) (a0 : Int) {R : RW} {w : World} (h : Q0z.N r1 a0 R w) : Q0z.M r1 a0 R w := by
  unfold Q0z.M
  unfold Q0z.N at h
  refine bif_of (fun c3 => ?_) (fun c3 => ?_)
  ·have h := h.1 (of_decide_eq_true c3)
   exact h
  have h := h.2 (Int.not_lt.1 (of_decide_eq_false c3))
  obtain ⟨a4, ah, h⟩ := h
  refine Q05 ah ?_
  obtain ⟨a7, aa, a8, al, h⟩ := h
  refine ⟨a7, aa, a8, al, ?_⟩
  refine bif_of (fun c7 => ?_) (fun c7 => ?_)
  ·have h := h.1 (of_decide_eq_true c7)
   exact h
  have h := h.2 (Int.not_le.1 (of_decide_eq_false c7))
  refine Q05 ah ?_
  obtain ⟨a5, a9, a6, an, h⟩ := h
  refine ⟨a5, a9, a6, an, ?_⟩
  obtain ⟨ap, aj, h⟩ := h
  refine Q05 aj ?_
  obtain ⟨af, ag, h⟩ := h
  refine ⟨af, ag, ?_⟩
  obtain ⟨am, ae, h⟩ := h
  refine ⟨am, ae, ?_⟩
  refine bif_of (fun ab => ?_) (fun ab => ?_)
  ·have h := h.1 (beq_t ab)
   exact h
  have h := h.2 (beq_f ab)
  refine Q05 ah ?_
  obtain ⟨a1, a3, a2, ad, h⟩ := h
  refine ⟨a1, a3, a2, ad, ?_⟩
  obtain ⟨ao, ac, h⟩ := h
  refine Q05 ac ?_
  obtain ⟨af, ag, h⟩ := h
  refine ⟨af, ag, ?_⟩
  obtain ⟨ak, ai, h⟩ := h
  refine ⟨ak, ai, ?_⟩
  exact h

theorem Q0z.go (r1 : Option Addr) (a0 : Int) {R : RW} {w : World} (h : Q0z.N r1 a0 R w) : Calls Tryz.prog 30 #[.pointer r1, .int .i64 a0] w fun e w' => ∃ v, e = .returned v ∧ R v w' := Q0z.ok r1 a0 (Q0z.up r1 a0 h)
theorem Q0z.run (r1 : Option Addr) (a0 : Int) {V : Value} {Q : World → Prop} {w : World} (h : Q0z.N r1 a0 (fun v w' => v = V ∧ Q w') w) : Calls Tryz.prog 30 #[.pointer r1, .int .i64 a0] w (Ret V Q) := (Q0z.go r1 a0 h).mono fun e w' ⟨v, he, hv, hq⟩ => ⟨by rw [he, hv], hq⟩

abbrev Q0G.J1 (ag : Int) (af : Option Addr) (ae ai ad : Int) (ac : Option Addr) (aj ah : Nat) (R : RW) (a7 : World) : Prop :=
 Calls Tryz.prog 32 #[.int .i64 ae, .int .i64 ai, .int .i64 ad] a7 fun a8 a9 => ∃ (a0 : Option Addr) (a3 a5 : Nat), a8 = .returned (.slice a0 a3 a5) ∧
 Calls Tryz.prog 31 #[.pointer af, .int .u64 ag, .slice a0 a3 a5, .slice ac aj ah] a9 fun ab aa => ∃ (a4 : Option Addr) (a1 a2 : Nat) (a6 : Int), ab = .returned (.tuple #[.slice a4 a1 a2, .int .i64 a6]) ∧
 R (.tuple #[.slice a4 a1 a2, .int .i64 a6]) aa

abbrev Q0G.J2 (a8 a9 : Option Addr) (a6 ab a5 : Int) (a7 : Option Addr) (ac aa : Nat) (R : RW) (a4 : World) : Prop :=
 Calls Tryz.prog 30 #[.pointer a9, .int .i64 a5] a4 fun a3 a2 => ∃ (a1 a0 : Int), a3 = .returned (.tuple #[.int .u64 a1, .int .i64 a0]) ∧
 bif a0 != 0 then (
 R (.tuple #[.slice none 0 0, .int .i64 a0]) a2) else (
 Q0G.J1 a1 a8 a6 ab a5 a7 ac aa R a2)

def Q0G.M (o1 r2 : Option Addr) (a5 a0 a1 : Int) (a2 : Option Addr) (a4 a3 : Nat) (R : RW) (w : World) : Prop :=
 bif decide (a5 < 0) then (
 R (.tuple #[.slice none 0 0, .int .i64 1]) w) else (
 bif decide (a5 ≥ 8) then (
 R (.tuple #[.slice none 0 0, .int .i64 1]) w) else (
 bif decide (a0 < 0) then (
 R (.tuple #[.slice none 0 0, .int .i64 1]) w) else (
 bif decide (a0 ≥ 200) then (
 R (.tuple #[.slice none 0 0, .int .i64 1]) w) else (
 bif decide (a1 < 0) then (
 R (.tuple #[.slice none 0 0, .int .i64 1]) w) else (
 bif decide (a1 ≥ 20) then (
 R (.tuple #[.slice none 0 0, .int .i64 1]) w) else (
 Q0G.J2 o1 r2 a5 a0 a1 a2 a4 a3 R w))))))

theorem Q0G.ok (o1 r2 : Option Addr) (a5 a0 a2 : Int) (a1 : Option Addr) (a4 a3 : Nat) {R : RW} {w : World} (h : Q0G.M o1 r2 a5 a0 a2 a1 a4 a3 R w) : Calls Tryz.prog 7 #[.pointer o1, .pointer r2, .int .i64 a5, .int .i64 a0, .int .i64 a2, .slice a1 a4 a3] w fun e w' => ∃ v, e = .returned v ∧ R v w' :=
  Q0i follows (H := []) (args := [.pointer o1, .pointer r2, .int .i64 a5, .int .i64 a0, .int .i64 a2, .slice a1 a4 a3]) (cast (by kernel_rfl) h)

def Q0G.N (o1 r2 : Option Addr) (af a0 a1 : Int) (ab : Option Addr) (ad ac : Nat) (R : RW) (w : World) : Prop :=
 (af < 0 →
 R (.tuple #[.slice none 0 0, .int .i64 1]) w) ∧
 ((0 : Int) ≤ af →
 (af ≥ 8 →
 R (.tuple #[.slice none 0 0, .int .i64 1]) w) ∧
 (af < 8 →
 (a0 < 0 →
 R (.tuple #[.slice none 0 0, .int .i64 1]) w) ∧
 ((0 : Int) ≤ a0 →
 (a0 ≥ 200 →
 R (.tuple #[.slice none 0 0, .int .i64 1]) w) ∧
 (a0 < 200 →
 (a1 < 0 →
 R (.tuple #[.slice none 0 0, .int .i64 1]) w) ∧
 ((0 : Int) ≤ a1 →
 (a1 ≥ 20 →
 R (.tuple #[.slice none 0 0, .int .i64 1]) w) ∧
 (a1 < 20 →
 Calls Tryz.prog 30 #[.pointer r2, .int .i64 a1] w fun ak ae => ∃ (aa a8 : Int), ak = .returned (.tuple #[.int .u64 aa, .int .i64 a8]) ∧
 (a8 ≠ 0 →
 R (.tuple #[.slice none 0 0, .int .i64 a8]) ae) ∧
 (a8 = 0 →
 Calls Tryz.prog 32 #[.int .i64 af, .int .i64 a0, .int .i64 a1] ae fun ah ag => ∃ (a3 : Option Addr) (a4 a5 : Nat), ah = .returned (.slice a3 a4 a5) ∧
 Calls Tryz.prog 31 #[.pointer o1, .int .u64 aa, .slice a3 a4 a5, .slice ab ad ac] ag fun ai aj => ∃ (a6 : Option Addr) (a2 a7 : Nat) (a9 : Int), ai = .returned (.tuple #[.slice a6 a2 a7, .int .i64 a9]) ∧
 R (.tuple #[.slice a6 a2 a7, .int .i64 a9]) aj)))))))

theorem Q0G.up (o1 r2 : Option Addr) (ai a0 a7 : Int) (a3 : Option Addr) (a5 a4 : Nat) {R : RW} {w : World} (h : Q0G.N o1 r2 ai a0 a7 a3 a5 a4 R w) : Q0G.M o1 r2 ai a0 a7 a3 a5 a4 R w := by
  unfold Q0G.M
  unfold Q0G.N at h
  refine bif_of (fun c7 => ?_) (fun c7 => ?_)
  ·have h := h.1 (of_decide_eq_true c7)
   exact h
  have h := h.2 (Int.not_lt.1 (of_decide_eq_false c7))
  refine bif_of (fun c8 => ?_) (fun c8 => ?_)
  ·have h := h.1 (of_decide_eq_true c8)
   exact h
  have h := h.2 (Int.not_le.1 (of_decide_eq_false c8))
  refine bif_of (fun c9 => ?_) (fun c9 => ?_)
  ·have h := h.1 (of_decide_eq_true c9)
   exact h
  have h := h.2 (Int.not_lt.1 (of_decide_eq_false c9))
  refine bif_of (fun ah => ?_) (fun ah => ?_)
  ·have h := h.1 (of_decide_eq_true ah)
   exact h
  have h := h.2 (Int.not_le.1 (of_decide_eq_false ah))
  refine bif_of (fun ag => ?_) (fun ag => ?_)
  ·have h := h.1 (of_decide_eq_true ag)
   exact h
  have h := h.2 (Int.not_lt.1 (of_decide_eq_false ag))
  refine bif_of (fun af => ?_) (fun af => ?_)
  ·have h := h.1 (of_decide_eq_true af)
   exact h
  have h := h.2 (Int.not_le.1 (of_decide_eq_false af))
  unfold Q0G.J2
  refine h.mono fun an ao h => ?_
  obtain ⟨ac, ad, he, h⟩ := h
  refine ⟨ac, ad, he, ?_⟩
  refine bif_of (fun ae => ?_) (fun ae => ?_)
  ·have h := h.1 (bne_t ae)
   exact h
  have h := h.2 (bne_f ae)
  unfold Q0G.J1
  refine h.mono fun ak aj h => ?_
  obtain ⟨a2, a6, a8, he, h⟩ := h
  refine ⟨a2, a6, a8, he, ?_⟩
  refine h.mono fun al am h => ?_
  obtain ⟨a9, a1, aa, ab, he, h⟩ := h
  refine ⟨a9, a1, aa, ab, he, ?_⟩
  exact h

theorem Q0G.go (o1 r2 : Option Addr) (a5 a0 a2 : Int) (a1 : Option Addr) (a4 a3 : Nat) {R : RW} {w : World} (h : Q0G.N o1 r2 a5 a0 a2 a1 a4 a3 R w) : Calls Tryz.prog 7 #[.pointer o1, .pointer r2, .int .i64 a5, .int .i64 a0, .int .i64 a2, .slice a1 a4 a3] w fun e w' => ∃ v, e = .returned v ∧ R v w' := Q0G.ok o1 r2 a5 a0 a2 a1 a4 a3 (Q0G.up o1 r2 a5 a0 a2 a1 a4 a3 h)
abbrev Q0v.J1 (al : Int) (ae : Addr) (ak : Option Addr) (R : RW) (ai : World) : Prop :=
 thenW (ai.drew) fun aa =>
 ∃ (a4 : Int), aa.cell? (ae.add 0) = some (.int .i64 a4) ∧
 ∃ (ad : Int), aa.cell? (ae.add 1) = some (.int .i64 ad) ∧
 ∃ (ab : Int), aa.cell? (ae.add 5) = some (.int .i64 ab) ∧
 ∃ (a1 : Option Addr) (a2 a0 : Nat), aa.cell? (ae.add 6) = some (.slice a1 a2 a0) ∧
 Calls Tryz.prog 32 #[.int .i64 a4, .int .i64 ad, .int .i64 ab] aa fun ah af => ∃ (a8 : Option Addr) (a9 a3 : Nat), ah = .returned (.slice a8 a9 a3) ∧
 af.cell? (ae.add 6) = some (.slice a1 a2 a0) ∧
 Calls Tryz.prog 36 #[.pointer ak, .int .u64 al, .slice a8 a9 a3, .slice a1 a2 a0] af fun ag aj => ∃ (a7 : Option Addr) (a5 a6 : Nat) (ac : Int), ag = .returned (.tuple #[.slice a7 a5 a6, .int .i64 ac]) ∧
 R (.tuple #[.slice a7 a5 a6, .int .i64 ac]) aj

abbrev Q0v.J2 (a6 : Addr) (a8 a7 : Option Addr) (R : RW) (a4 : World) : Prop :=
 ∃ (a0 : Int), a4.cell? (a6.add 5) = some (.int .i64 a0) ∧
 Calls Tryz.prog 30 #[.pointer a7, .int .i64 a0] a4 fun a5 a3 => ∃ (a2 a1 : Int), a5 = .returned (.tuple #[.int .u64 a2, .int .i64 a1]) ∧
 bif a1 != 0 then (
 R (.tuple #[.slice none 0 0, .int .i64 a1]) a3) else (
 Q0v.J1 a2 a6 a8 R a3)

abbrev Q0v.J3 (a2 : Addr) (a3 a4 : Option Addr) (R : RW) (a1 : World) : Prop :=
 ∃ (a0 : Int), a1.cell? (a2.add 5) = some (.int .i64 a0) ∧
 bif a0 == (-1) then (
 R (.tuple #[.slice none 0 0, .int .i64 10]) a1) else (
 Q0v.J2 a2 a3 a4 R a1)

def Q0v.M (o1 r2 : Option Addr) (a8 ad ah al aj ag : Int) (ae : Option Addr) (ac af : Nat) (ai : Int) (R : RW) (w : World) : Prop :=
 thenW (w.alloc (.cells #[.int .i64 a8, .int .i64 ad, .int .u64 ah, .int .i64 al, .int .i64 aj, .int .i64 ag, .slice ae ac af, .int .u64 ai] 30)) fun am =>
 ∃ (a0 a5 a6 ab aa a3 : Int) (a2 : Option Addr) (a4 a1 : Nat) (a9 : Int), cellsAt am (blk w.heap.size) [.int .i64 a0, .int .i64 a5, .int .u64 a6, .int .i64 ab, .int .i64 aa, .int .i64 a3, .slice a2 a4 a1, .int .u64 a9] 0 ∧
 Calls Tryz.prog 35 #[.agg #[.int .i64 a0, .int .i64 a5, .int .u64 a6, .int .i64 ab, .int .i64 aa, .int .i64 a3, .slice a2 a4 a1, .int .u64 a9]] am fun an ak => ∃ (a7 : Bool), an = .returned (.bool a7) ∧
 bif !a7 then (
 R (.tuple #[.slice none 0 0, .int .i64 1]) ak) else (
 Q0v.J3 (blk w.heap.size) o1 r2 R ak)

theorem Q0v.ok (o1 r2 : Option Addr) (a0 a5 a6 a8 a9 a4 : Int) (a2 : Option Addr) (a1 a3 : Nat) (a7 : Int) {R : RW} {w : World} (h : Q0v.M o1 r2 a0 a5 a6 a8 a9 a4 a2 a1 a3 a7 R w) : Calls Tryz.prog 10 #[.pointer o1, .pointer r2, .agg #[.int .i64 a0, .int .i64 a5, .int .u64 a6, .int .i64 a8, .int .i64 a9, .int .i64 a4, .slice a2 a1 a3, .int .u64 a7]] w fun e w' => ∃ v, e = .returned v ∧ R v w' :=
  Q0i follows (H := []) (args := [.pointer o1, .pointer r2, .agg #[.int .i64 a0, .int .i64 a5, .int .u64 a6, .int .i64 a8, .int .i64 a9, .int .i64 a4, .slice a2 a1 a3, .int .u64 a7]]) (cast (by kernel_rfl) h)

def Q0v.N (o1 r2 : Option Addr) (a1 a4 af aj ah a0 : Int) (a5 : Option Addr) (a3 a6 : Nat) (ag : Int) (R : RW) (w : World) : Prop :=
 ((Q0d.F a1 a4 af aj ah a0 a5 a3 a6 ag) = false →
 ∀ (a2 : World), Ext no w a2 →
 R (.tuple #[.slice none 0 0, .int .i64 1]) a2) ∧
 ((Q0d.F a1 a4 af aj ah a0 a5 a3 a6 ag) = true →
 (a0 = (-1) →
 ∀ (a2 : World), Ext no w a2 →
 R (.tuple #[.slice none 0 0, .int .i64 10]) a2) ∧
 (a0 ≠ (-1) →
 ∀ (a2 : World) (aq : Nat), Ext no w a2 → Priv w a2 [aq] →
 Calls Tryz.prog 30 #[.pointer r2, .int .i64 a0] a2 fun ao ak => ∃ (ai ae : Int), ao = .returned (.tuple #[.int .u64 ai, .int .i64 ae]) ∧
 Keep [aq] a2 ak ∧
 (ae ≠ 0 →
 R (.tuple #[.slice none 0 0, .int .i64 ae]) ak) ∧
 (ae = 0 →
 ∀ (al : World), Ext no ak al →
 Calls Tryz.prog 32 #[.int .i64 a1, .int .i64 a4, .int .i64 a0] al fun ap am => ∃ (ab : Option Addr) (a8 ac : Nat), ap = .returned (.slice ab a8 ac) ∧
 Keep [aq] al am ∧
 Calls Tryz.prog 36 #[.pointer o1, .int .u64 ai, .slice ab a8 ac, .slice a5 a3 a6] am fun an ar => ∃ (a7 : Option Addr) (a9 aa : Nat) (ad : Int), an = .returned (.tuple #[.slice a7 a9 aa, .int .i64 ad]) ∧
 R (.tuple #[.slice a7 a9 aa, .int .i64 ad]) ar)))

theorem Q0v.up (o1 r2 : Option Addr) (a1 a3 a7 aa a9 a0 : Int) (a4 : Option Addr) (a2 a5 : Nat) (a8 : Int) {R : RW} {w : World} (h : Q0v.N o1 r2 a1 a3 a7 aa a9 a0 a4 a2 a5 a8 R w) : Q0v.M o1 r2 a1 a3 a7 aa a9 a0 a4 a2 a5 a8 R w := by
  unfold Q0v.M
  unfold Q0v.N at h
  refine Q01 fun b0 av => ?_
  have a6 := Blk.of_new av
  have ay := ((Ext.refl no w)).size
  have aq := (Ext.refl no w).x_alloc av
  refine ⟨a1, a3, a7, aa, a9, a0, a4, a2, a5, a8, ⟨a6.celli 0 rfl rfl, a6.celli 1 rfl rfl, a6.celli 2 rfl rfl, a6.celli 3 rfl rfl, a6.celli 4 rfl rfl, a6.celli 5 rfl rfl, a6.celli 6 rfl rfl, a6.celli 7 rfl rfl, trivial⟩, ?_⟩
  refine (Q0d.pure a1 a3 a7 aa a9 a0 a4 a2 a5 a8).mono fun ee ww12 ⟨he, hxx⟩ => ⟨(Q0d.F a1 a3 a7 aa a9 a0 a4 a2 a5 a8), he, ?_⟩
  have ai := aq.trans hxx
  have a6 := a6.ext hxx id
  refine bif_of (fun al => ?_) (fun al => ?_)
  ·have h := h.1 (not_t al)
   have h := h ww12 ai
   exact h
  have h := h.2 (not_f al)
  unfold Q0v.J3
  refine ⟨a0, a6.celli 5 rfl rfl, ?_⟩
  refine bif_of (fun am => ?_) (fun am => ?_)
  ·have h := h.1 (beq_t am)
   have h := h ww12 ai
   exact h
  have h := h.2 (beq_f am)
  unfold Q0v.J2
  refine ⟨a0, a6.celli 5 rfl rfl, ?_⟩
  have h := h ww12 (w.heap.size) ai (Priv.cons ay a6.lt Priv.nil)
  refine h.mono fun ax an h => ?_
  obtain ⟨aj, ak, he, hk, h⟩ := h
  refine ⟨aj, ak, he, ?_⟩
  have a6 := hk.blk a6 (by simp)
  refine bif_of (fun ao => ?_) (fun ao => ?_)
  ·have h := h.1 (bne_t ao)
   exact h
  have h := h.2 (bne_f ao)
  unfold Q0v.J1
  refine Q01 fun ap au => ?_
  have ar := (Ext.refl no an).x_drew au
  have a6 := a6.x_drew au
  refine ⟨a1, a6.celli 0 rfl rfl, ?_⟩
  refine ⟨a3, a6.celli 1 rfl rfl, ?_⟩
  refine ⟨a0, a6.celli 5 rfl rfl, ?_⟩
  refine ⟨a4, a2, a5, a6.celli 6 rfl rfl, ?_⟩
  have h := h ap ar
  refine h.mono fun az b2 h => ?_
  obtain ⟨ag, ad, ab, he, hk, h⟩ := h
  refine ⟨ag, ad, ab, he, ?_⟩
  have a6 := hk.blk a6 (by simp)
  refine ⟨a6.celli 6 rfl rfl, ?_⟩
  refine h.mono fun aw b1 h => ?_
  obtain ⟨ac, ae, af, ah, he, h⟩ := h
  refine ⟨ac, ae, af, ah, he, ?_⟩
  exact h

theorem Q0v.go (o1 r2 : Option Addr) (a0 a5 a6 a8 a9 a4 : Int) (a2 : Option Addr) (a1 a3 : Nat) (a7 : Int) {R : RW} {w : World} (h : Q0v.N o1 r2 a0 a5 a6 a8 a9 a4 a2 a1 a3 a7 R w) : Calls Tryz.prog 10 #[.pointer o1, .pointer r2, .agg #[.int .i64 a0, .int .i64 a5, .int .u64 a6, .int .i64 a8, .int .i64 a9, .int .i64 a4, .slice a2 a1 a3, .int .u64 a7]] w fun e w' => ∃ v, e = .returned v ∧ R v w' := Q0v.ok o1 r2 a0 a5 a6 a8 a9 a4 a2 a1 a3 a7 (Q0v.up o1 r2 a0 a5 a6 a8 a9 a4 a2 a1 a3 a7 h)
def Q12.M (a4 a9 ab ad af a8 : Int) (a6 : Option Addr) (a5 a7 : Nat) (ae : Int) (R : RW) (w : World) : Prop :=
 thenW (w.alloc (.cells #[.int .i64 a4, .int .i64 a9, .int .u64 ab, .int .i64 ad, .int .i64 af, .int .i64 a8, .slice a6 a5 a7, .int .u64 ae] 30)) fun am =>
 ∃ (I0 : Nat → List Value → World → Prop) (al : Nat), I0 al [.int .i64 0] am ∧ ∀ (ak : Nat) (aa : World) (ag : Int), I0 ak [.int .i64 ag] aa →
 bif decide (ag < 7) then (
 thenW (aa.drew) fun ah =>
 ∃ (a1 : Option Addr) (a0 a2 : Nat), ah.cell? ((blk w.heap.size).add 6) = some (.slice a1 a0 a2) ∧
 Calls Tryz.prog 39 #[.int .i64 ag] ah fun ai ac => ∃ (a3 : Int), ai = .returned (.int .i64 a3) ∧
 ac.cell? ((blk w.heap.size).add 6) = some (.slice a1 a0 a2) ∧
 bif (a0 : Int) == (IntKind.i64.wrap ((8 : Int) + a3)) then (
 R (.int .i64 ag) ac) else (
 ∃ aj, aj < ak ∧ I0 aj [.int .i64 (IntKind.i64.wrap (ag + 1))] ac)) else (
 R (.int .i64 (-1)) aa)

theorem Q12.ok (a0 a3 a6 a7 a8 a1 : Int) (a4 : Option Addr) (a2 a5 : Nat) (a9 : Int) {R : RW} {w : World} (h : Q12.M a0 a3 a6 a7 a8 a1 a4 a2 a5 a9 R w) : Calls Tryz.prog 12 #[.agg #[.int .i64 a0, .int .i64 a3, .int .u64 a6, .int .i64 a7, .int .i64 a8, .int .i64 a1, .slice a4 a2 a5, .int .u64 a9]] w fun e w' => ∃ v, e = .returned v ∧ R v w' :=
  Q0i follows (H := [(0, [1], [(3, (.one (.int .i64)))])]) (args := [.agg #[.int .i64 a0, .int .i64 a3, .int .u64 a6, .int .i64 a7, .int .i64 a8, .int .i64 a1, .slice a4 a2 a5, .int .u64 a9]]) (cast (by kernel_rfl) h)

def Q12.N (a6 aa ac af ai a9 : Int) (a7 : Option Addr) (a1 a8 : Nat) (ah : Int) (R : RW) (w : World) : Prop :=
 ∀ (ab : World) (ag : Nat), Ext no w ab → Priv w ab [ag] →
 ∃ (I0 : Nat → List Value → World → Prop) (ak : Nat), I0 ak [.int .i64 0] ab ∧ ∀ (ae : Nat) (a3 : World) (a2 : Int), I0 ae [.int .i64 a2] a3 →
 (a2 < 7 →
 ∀ (a5 : World), Ext no a3 a5 →
 Calls Tryz.prog 39 #[.int .i64 a2] a5 fun ad a4 => ∃ (a0 : Int), ad = .returned (.int .i64 a0) ∧
 Keep [ag] a5 a4 ∧
 (-9223372036854775808 : Int) ≤ ((8 : Int) + a0) ∧ ((8 : Int) + a0) < 9223372036854775808 ∧
 ((a1 : Int) = ((8 : Int) + a0) →
 R (.int .i64 a2) a4) ∧
 ((a1 : Int) ≠ ((8 : Int) + a0) →
 (-9223372036854775808 : Int) ≤ (a2 + 1) ∧ (a2 + 1) < 9223372036854775808 ∧
 ∃ aj, aj < ae ∧ I0 aj [.int .i64 (a2 + 1)] a4)) ∧
 ((7 : Int) ≤ a2 →
 R (.int .i64 (-1)) a3)

theorem Q12.up (a3 a5 a6 a7 a9 a4 : Int) (a1 : Option Addr) (a0 a2 : Nat) (a8 : Int) {R : RW} {w : World} (h : Q12.N a3 a5 a6 a7 a9 a4 a1 a0 a2 a8 R w) : Q12.M a3 a5 a6 a7 a9 a4 a1 a0 a2 a8 R w := by
  unfold Q12.M
  unfold Q12.N at h
  refine Q01 fun ao e9 => ?_
  have aa := Blk.of_new e9
  have al := ((Ext.refl no w)).size
  have am := (Ext.refl no w).x_alloc e9
  have h := h ao (w.heap.size) am (Priv.cons al aa.lt Priv.nil)
  obtain ⟨I0, ap, h0, h⟩ := h
  refine ⟨fun k vs ww => Blk ww w.heap.size 30 [.int .i64 a3, .int .i64 a5, .int .u64 a6, .int .i64 a7, .int .i64 a9, .int .i64 a4, .slice a1 a0 a2, .int .u64 a8] ∧ I0 k vs ww, ap, ⟨aa, h0⟩, fun ak ac an hI => ?_⟩
  obtain ⟨aa, hI⟩ := hI
  have h := h ak ac an hI
  refine bif_fo (fun ad => ?_) (fun ad => ?_)
  ·have h := h.2 (Int.not_lt.1 (of_decide_eq_false ad))
   exact h
  have h := h.1 (of_decide_eq_true ad)
  refine Q01 fun ah aj => ?_
  have ai := (Ext.refl no ac).x_drew aj
  have aa := aa.x_drew aj
  refine ⟨a1, a0, a2, aa.celli 6 rfl rfl, ?_⟩
  have h := h ah ai
  refine h.mono fun au ar h => ?_
  obtain ⟨ab, he, hk, h⟩ := h
  refine ⟨ab, he, ?_⟩
  have aa := hk.blk aa (by simp)
  refine ⟨aa.celli 6 rfl rfl, ?_⟩
  obtain ⟨ag, af, h⟩ := h
  try rw [w64 ag af]
  refine bif_of (fun ae => ?_) (fun ae => ?_)
  ·have h := h.1 (beq_t ae)
   exact h
  have h := h.2 (beq_f ae)
  obtain ⟨ag, af, h⟩ := h
  try rw [w64 ag af]
  obtain ⟨aq, hk, h⟩ := h
  exact ⟨aq, hk, aa, h⟩

theorem Q12.go (a0 a3 a6 a7 a8 a1 : Int) (a4 : Option Addr) (a2 a5 : Nat) (a9 : Int) {R : RW} {w : World} (h : Q12.N a0 a3 a6 a7 a8 a1 a4 a2 a5 a9 R w) : Calls Tryz.prog 12 #[.agg #[.int .i64 a0, .int .i64 a3, .int .u64 a6, .int .i64 a7, .int .i64 a8, .int .i64 a1, .slice a4 a2 a5, .int .u64 a9]] w fun e w' => ∃ v, e = .returned v ∧ R v w' := Q12.ok a0 a3 a6 a7 a8 a1 a4 a2 a5 a9 (Q12.up a0 a3 a6 a7 a8 a1 a4 a2 a5 a9 h)
abbrev Q0V.J1 (j8 : Int) (R : RW) (aa : World) : Prop :=
 ∃ (I0 : Nat → List Value → World → Prop) (ab : Nat), I0 ab [.int .i64 0] aa ∧ ∀ (a9 : Nat) (a5 : World) (a2 : Int), I0 a9 [.int .i64 a2] a5 →
 Calls Tryz.prog 41 #[.int .i64 (IntKind.i64.wrap (a2 + 1))] a5 fun a6 a4 => ∃ (a1 : Int), a6 = .returned (.int .i64 a1) ∧
 bif decide (a1 ≥ 0) then (
 Calls Tryz.prog 41 #[.int .i64 (IntKind.i64.wrap (a2 + 1))] a4 fun a7 a3 => ∃ (a0 : Int), a7 = .returned (.int .i64 a0) ∧
 bif decide (a0 ≤ j8) then (
 ∃ a8, a8 < a9 ∧ I0 a8 [.int .i64 (IntKind.i64.wrap (a2 + 1))] a3) else (
 R (.int .i64 a2) a3)) else (
 R (.int .i64 a2) a4)

def Q0V.M (c1 : Int) (R : RW) (w : World) : Prop :=
 bif decide (c1 < 0) then (
 R (.int .i64 (-1)) w) else (
 bif decide (c1 > 6) then (
 R (.int .i64 (-1)) w) else (
 Q0V.J1 c1 R w))

theorem Q0V.ok (c1 : Int) {R : RW} {w : World} (h : Q0V.M c1 R w) : Calls Tryz.prog 14 #[.int .i64 c1] w fun e w' => ∃ v, e = .returned v ∧ R v w' :=
  Q0i follows (H := [(0, [0], [(3, (.one (.int .i64)))])]) (args := [.int .i64 c1]) (cast (by kernel_rfl) h)

def Q0V.N (c1 : Int) (R : RW) (w : World) : Prop :=
 (c1 < 0 →
 R (.int .i64 (-1)) w) ∧
 ((0 : Int) ≤ c1 →
 (c1 > 6 →
 R (.int .i64 (-1)) w) ∧
 (c1 ≤ 6 →
 ∃ (I0 : Nat → List Value → World → Prop) (m5 : Nat), I0 m5 [.int .i64 0] w ∧ ∀ (m6 : Nat) (a5 : World) (n4 : Int), I0 m6 [.int .i64 n4] a5 →
 (-9223372036854775808 : Int) ≤ (n4 + 1) ∧ (n4 + 1) < 9223372036854775808 ∧
 Calls Tryz.prog 41 #[.int .i64 (n4 + 1)] a5 fun a7 a3 => ∃ (a1 : Int), a7 = .returned (.int .i64 a1) ∧
 (a1 ≥ 0 →
 (-9223372036854775808 : Int) ≤ (n4 + 1) ∧ (n4 + 1) < 9223372036854775808 ∧
 Calls Tryz.prog 41 #[.int .i64 (n4 + 1)] a3 fun a4 a2 => ∃ (a0 : Int), a4 = .returned (.int .i64 a0) ∧
 (a0 ≤ c1 →
 (-9223372036854775808 : Int) ≤ (n4 + 1) ∧ (n4 + 1) < 9223372036854775808 ∧
 ∃ a6, a6 < m6 ∧ I0 a6 [.int .i64 (n4 + 1)] a2) ∧
 (c1 < a0 →
 R (.int .i64 n4) a2)) ∧
 (a1 < 0 →
 R (.int .i64 n4) a3)))

theorem Q0V.up (c1 : Int) {R : RW} {w : World} (h : Q0V.N c1 R w) : Q0V.M c1 R w := by
  unfold Q0V.M
  unfold Q0V.N at h
  refine bif_of (fun c2 => ?_) (fun c2 => ?_)
  ·have h := h.1 (of_decide_eq_true c2)
   exact h
  have h := h.2 (Int.not_lt.1 (of_decide_eq_false c2))
  refine bif_of (fun c3 => ?_) (fun c3 => ?_)
  ·have h := h.1 (of_decide_eq_true c3)
   exact h
  have h := h.2 (Int.not_lt.1 (of_decide_eq_false c3))
  unfold Q0V.J1
  obtain ⟨I0, m5, h0, h⟩ := h
  refine ⟨I0, m5, h0, fun m6 a9 n4 hI => ?_⟩
  have h := h m6 a9 n4 hI
  obtain ⟨a2, a3, h⟩ := h
  try rw [w64 a2 a3]
  refine h.mono fun ab a7 h => ?_
  obtain ⟨a1, he, h⟩ := h
  refine ⟨a1, he, ?_⟩
  refine bif_fo (fun a4 => ?_) (fun a4 => ?_)
  ·have h := h.2 (Int.not_le.1 (of_decide_eq_false a4))
   exact h
  have h := h.1 (of_decide_eq_true a4)
  obtain ⟨a2, a3, h⟩ := h
  try rw [w64 a2 a3]
  refine h.mono fun a8 a6 h => ?_
  obtain ⟨a0, he, h⟩ := h
  refine ⟨a0, he, ?_⟩
  refine bif_fo (fun a5 => ?_) (fun a5 => ?_)
  ·have h := h.2 (Int.not_le.1 (of_decide_eq_false a5))
   exact h
  have h := h.1 (of_decide_eq_true a5)
  obtain ⟨a2, a3, h⟩ := h
  try rw [w64 a2 a3]
  obtain ⟨aa, hk, h⟩ := h
  exact ⟨aa, hk, h⟩

theorem Q0V.go (c1 : Int) {R : RW} {w : World} (h : Q0V.N c1 R w) : Calls Tryz.prog 14 #[.int .i64 c1] w fun e w' => ∃ v, e = .returned v ∧ R v w' := Q0V.ok c1 (Q0V.up c1 h)
abbrev Q04.J1 (bh : Int) (bg b9 : Addr) (bj : Int) (I0 : Nat → List Value → World → Prop) (b2 : Addr) (bi : Nat) (R : RW) (b6 : World) : Prop :=
 thenW (b6.drew) fun ay =>
 ∃ (ba : Option Addr), ay.cell? (b2.add 2) = some (.pointer ba) ∧
 ∃ (ah aw a4 ad : Int) (a3 : Option Addr) (a6 a1 : Nat) (ai : Option Addr) (am ao : Nat), cellsAt ay b9 [.int .i64 ah, .int .i64 aw, .int .u64 a4, .int .i64 ad, .slice a3 a6 a1, .slice ai am ao] 0 ∧
 Calls Tryz.prog 25 #[.pointer ba, .agg #[.int .i64 ah, .int .i64 aw, .int .u64 a4, .int .i64 ad, .slice a3 a6 a1, .slice ai am ao]] ay fun b7 bd => ∃ (b0 : Int), b7 = .returned (.int .i64 b0) ∧
 thenW (bd.drew) fun ax =>
 ∃ (bb : Option Addr), ax.cell? (b2.add 3) = some (.pointer bb) ∧
 ∃ (al av a2 ae : Int) (a8 : Option Addr) (a0 ab : Nat) (ak : Option Addr) (af aq : Nat), cellsAt ax b9 [.int .i64 al, .int .i64 av, .int .u64 a2, .int .i64 ae, .slice a8 a0 ab, .slice ak af aq] 0 ∧
 Calls Tryz.prog 25 #[.pointer bb, .agg #[.int .i64 al, .int .i64 av, .int .u64 a2, .int .i64 ae, .slice a8 a0 ab, .slice ak af aq]] ax fun b3 b5 => ∃ (az : Int), b3 = .returned (.int .i64 az) ∧
 thenW (b5.drew) fun au =>
 ∃ (be : Option Addr), au.cell? (b2.add 4) = some (.pointer be) ∧
 ∃ (bf : Option Addr), au.cell? (b2.add 1) = some (.pointer bf) ∧
 ∃ (ag ar a9 ac : Int) (aa : Option Addr) (a7 a5 : Nat) (ap : Option Addr) (aj an : Nat), cellsAt au bg [.int .i64 ag, .int .i64 ar, .int .u64 a9, .int .i64 ac, .slice aa a7 a5, .slice ap aj an] 0 ∧
 Calls Tryz.prog 26 #[.pointer be, .pointer bf, .agg #[.int .i64 ag, .int .i64 ar, .int .u64 a9, .int .i64 ac, .slice aa a7 a5, .slice ap aj an]] au fun bc b4 => ∃ (b1 : Int), bc = .returned (.int .i64 b1) ∧
 ∃ b8, b8 < bi ∧ I0 b8 [.int .u64 bh, .int .i64 (IntKind.i64.wrap (bj + 1))] b4

abbrev Q04.J2 (ad af : Addr) (aj : Int) (ai al : Addr) (ah : Int) (I0 : Nat → List Value → World → Prop) (ak : Addr) (ag : Nat) (ab ac : World) (R : RW) (ae : World) : Prop :=
 thenW (ae.drew) fun a5 =>
 ∃ (a6 : Option Addr) (a7 a8 : Nat) (a1 : Int), cellsAt a5 af [.slice a6 a7 a8, .int .i64 a1] 0 ∧
 ∃ (a4 : Option Addr) (a2 a3 : Nat) (a0 : Int), cellsAt a5 ad [.slice a4 a2 a3, .int .i64 a0] 0 ∧
 putsK a5 (blk ab.heap.size) [.slice a6 a7 a8, .int .i64 a1] 0 fun a9 =>
 cellsAt a9 ad [.slice a4 a2 a3, .int .i64 a0] 0 ∧
 putsK a9 (blk ac.heap.size) [.slice a4 a2 a3, .int .i64 a0] 0 fun aa =>
 Q04.J1 aj ai al ah I0 ak ag R aa

abbrev Q04.J3 (bc : Addr) (bj : Int) (bg : Addr) (bh : Int) (I0 : Nat → List Value → World → Prop) (bk : Addr) (bi : Nat) (b3 b7 : World) (R : RW) (av : World) : Prop :=
 ∃ (aq : Option Addr) (au az : Nat) (aa : Int), cellsAt av (blk b3.heap.size) [.slice aq au az, .int .i64 aa] 0 ∧
 ∃ (am ap a0 a9 : Int) (a2 : Option Addr) (a1 a3 : Nat) (aj : Option Addr) (ag ai : Nat), cellsAt av bg [.int .i64 am, .int .i64 ap, .int .u64 a0, .int .i64 a9, .slice a2 a1 a3, .slice aj ag ai] 0 ∧
 Calls Tryz.prog 23 #[.agg #[.slice aq au az, .int .i64 aa], .agg #[.int .i64 am, .int .i64 ap, .int .u64 a0, .int .i64 a9, .slice a2 a1 a3, .slice aj ag ai]] av fun bb b2 => ∃ (b5 : Option Addr) (b9 b4 : Nat) (af ak : Int), bb = .returned (.tuple #[.agg #[.slice b5 b9 b4, .int .i64 af], .int .i64 ak]) ∧
 thenW (b2.alloc (.cells #[.slice none 0 0, .int .i64 0] 64)) fun bf =>
 putsK bf (blk b2.heap.size) [.slice b5 b9 b4, .int .i64 af] 0 fun ar =>
 ∃ (ay : Option Addr) (ax b1 : Nat) (a8 : Int), cellsAt ar (blk b7.heap.size) [.slice ay ax b1, .int .i64 a8] 0 ∧
 ∃ (ae ao a6 ab : Int) (a7 : Option Addr) (a4 a5 : Nat) (al : Option Addr) (ac ah : Nat), cellsAt ar bc [.int .i64 ae, .int .i64 ao, .int .u64 a6, .int .i64 ab, .slice a7 a4 a5, .slice al ac ah] 0 ∧
 Calls Tryz.prog 24 #[.agg #[.slice ay ax b1, .int .i64 a8], .agg #[.int .i64 ae, .int .i64 ao, .int .u64 a6, .int .i64 ab, .slice a7 a4 a5, .slice al ac ah]] ar fun be aw => ∃ (b6 : Option Addr) (ba b8 : Nat) (an ad : Int), be = .returned (.tuple #[.agg #[.slice b6 ba b8, .int .i64 an], .int .i64 ad]) ∧
 thenW (aw.alloc (.cells #[.slice none 0 0, .int .i64 0] 68)) fun bd =>
 putsK bd (blk aw.heap.size) [.slice b6 ba b8, .int .i64 an] 0 fun b0 =>
 bif ak != 0 then (
 R (.pointer none) b0) else (
 bif ad != 0 then (
 R (.pointer none) b0) else (
 Q04.J2 (blk aw.heap.size) (blk b2.heap.size) bj bc bg bh I0 bk bi b3 b7 R b0))

abbrev Q04.J4 (a7 : Addr) (a5 a4 : Int) (a3 : Addr) (a9 : Int) (I0 : Nat → List Value → World → Prop) (a8 : Addr) (a6 : Nat) (a1 a2 : World) (R : RW) (a0 : World) : Prop :=
 bif a5 != 0 then (
 R (.pointer none) a0) else (
 Q04.J3 a7 a4 a3 a9 I0 a8 a6 a1 a2 R a0)

abbrev Q04.J5 (b7 bb : Int) (b2 : Addr) (b1 b9 : Int) (I0 : Nat → List Value → World → Prop) (az : Addr) (b4 : Nat) (b0 am : World) (R : RW) (b8 : World) : Prop :=
 thenW (b8.drew) fun a8 =>
 ∃ (ay : Option Addr), a8.cell? (az.add 1) = some (.pointer ay) ∧
 ∃ (aa : Option Addr) (ab ac : Nat) (a0 : Int), cellsAt a8 (blk am.heap.size) [.slice aa ab ac, .int .i64 a0] 0 ∧
 (Calls Tryz.prog 22 #[.pointer ay, .agg #[.slice aa ab ac, .int .i64 a0], .int .u64 b1] a8 fun ba av => ∃ (ak aw a7 ad : Int) (a4 : Option Addr) (a5 a2 : Nat) (ag : Option Addr) (al an : Nat) (ap ao : Int), ba = .returned (.tuple #[.agg #[.int .i64 ak, .int .i64 aw, .int .u64 a7, .int .i64 ad, .slice a4 a5 a2, .slice ag al an], .int .u64 ap, .int .i64 ao]) ∧
 thenW (av.alloc (.cells #[.int .i64 0, .int .i64 0, .int .u64 0, .int .i64 0, .slice none 0 0, .slice none 0 0] 77)) fun b6 =>
 putsK b6 (blk av.heap.size) [.int .i64 ak, .int .i64 aw, .int .u64 a7, .int .i64 ad, .slice a4 a5 a2, .slice ag al an] 0 fun bc =>
 Q04.J4 (blk av.heap.size) b7 bb b2 b9 I0 az b4 b0 am R bc) ∧
 (thenW (a8.alloc (.cells #[.int .i64 0, .int .i64 0, .int .u64 0, .int .i64 0, .slice none 0 0, .slice none 0 0] 77)) fun au =>
 cellsAt au (blk am.heap.size) [.slice aa ab ac, .int .i64 a0] 0 ∧
 au.cell? (az.add 1) = some (.pointer ay) ∧
 Calls Tryz.prog 22 #[.pointer ay, .agg #[.slice aa ab ac, .int .i64 a0], .int .u64 b1] au fun bd b5 => ∃ (ah ax a3 ae : Int) (a9 : Option Addr) (a6 a1 : Nat) (ai : Option Addr) (af aj : Nat) (aq ar : Int), bd = .returned (.tuple #[.agg #[.int .i64 ah, .int .i64 ax, .int .u64 a3, .int .i64 ae, .slice a9 a6 a1, .slice ai af aj], .int .u64 aq, .int .i64 ar]) ∧
 putsK b5 (blk a8.heap.size) [.int .i64 ah, .int .i64 ax, .int .u64 a3, .int .i64 ae, .slice a9 a6 a1, .slice ai af aj] 0 fun b3 =>
 Q04.J4 (blk a8.heap.size) b7 bb b2 b9 I0 az b4 b0 am R b3)

abbrev Q04.J6 (ay b4 : Int) (I0 : Nat → List Value → World → Prop) (b0 : Addr) (b7 : Nat) (aj b1 : World) (R : RW) (b8 : World) : Prop :=
 thenW (b8.drew) fun a3 =>
 ∃ (az : Option Addr), a3.cell? (b0.add 0) = some (.pointer az) ∧
 ∃ (ae : Option Addr) (af ag : Nat) (a0 : Int), cellsAt a3 (blk aj.heap.size) [.slice ae af ag, .int .i64 a0] 0 ∧
 (Calls Tryz.prog 21 #[.pointer az, .agg #[.slice ae af ag, .int .i64 a0], .int .u64 ay] a3 fun b2 au => ∃ (an av ac ah : Int) (a1 : Option Addr) (a5 aa : Nat) (ao : Option Addr) (am al : Nat) (a7 a4 : Int), b2 = .returned (.tuple #[.agg #[.int .i64 an, .int .i64 av, .int .u64 ac, .int .i64 ah, .slice a1 a5 aa, .slice ao am al], .int .u64 a7, .int .i64 a4]) ∧
 thenW (au.alloc (.cells #[.int .i64 0, .int .i64 0, .int .u64 0, .int .i64 0, .slice none 0 0, .slice none 0 0] 72)) fun b3 =>
 putsK b3 (blk au.heap.size) [.int .i64 an, .int .i64 av, .int .u64 ac, .int .i64 ah, .slice a1 a5 aa, .slice ao am al] 0 fun ba =>
 Q04.J5 a4 a7 (blk au.heap.size) ay b4 I0 b0 b7 aj b1 R ba) ∧
 (thenW (a3.alloc (.cells #[.int .i64 0, .int .i64 0, .int .u64 0, .int .i64 0, .slice none 0 0, .slice none 0 0] 72)) fun ax =>
 cellsAt ax (blk aj.heap.size) [.slice ae af ag, .int .i64 a0] 0 ∧
 ax.cell? (b0.add 0) = some (.pointer az) ∧
 Calls Tryz.prog 21 #[.pointer az, .agg #[.slice ae af ag, .int .i64 a0], .int .u64 ay] ax fun b5 b6 => ∃ (ap aw a6 ai : Int) (ab : Option Addr) (ad a8 : Nat) (aq : Option Addr) (ak ar : Nat) (a9 a2 : Int), b5 = .returned (.tuple #[.agg #[.int .i64 ap, .int .i64 aw, .int .u64 a6, .int .i64 ai, .slice ab ad a8, .slice aq ak ar], .int .u64 a9, .int .i64 a2]) ∧
 putsK b6 (blk a3.heap.size) [.int .i64 ap, .int .i64 aw, .int .u64 a6, .int .i64 ai, .slice ab ad a8, .slice aq ak ar] 0 fun b9 =>
 Q04.J5 a2 a9 (blk a3.heap.size) ay b4 I0 b0 b7 aj b1 R b9)

abbrev Q04.J7 (ax aw : Option Addr) (ap au : Int) (a2 : Addr) (av : Int) (R : RW) (a7 : World) : Prop :=
 Q0e a7 ((a2.add 2).add 0) ∧
 thenW (a7.setCell ((a2.add 2).add 0) (.pointer aw)) fun aa =>
 Q0e aa ((a2.add 3).add 0) ∧
 thenW (aa.setCell ((a2.add 3).add 0) (.pointer ax)) fun a8 =>
 thenW (a8.alloc (.cells #[.int .i64 0, .int .u64 au, .slice none 0 0, .slice none 0 0] 61)) fun ac =>
 Q0e ac ((a2.add 4).add 0) ∧
 thenW (ac.setCell ((a2.add 4).add 0) (.pointer (some (blk a8.heap.size)))) fun al =>
 Calls Tryz.prog 19 #[.int .u64 ap] al fun aj ak => ∃ (ag : Option Addr) (af ad : Nat) (a1 : Int), aj = .returned (.agg #[.slice ag af ad, .int .i64 a1]) ∧
 Calls Tryz.prog 20 #[.int .u64 ap] ak fun ai a4 => ∃ (ab : Option Addr) (ae a9 : Nat) (a0 : Int), ai = .returned (.agg #[.slice ab ae a9, .int .i64 a0]) ∧
 thenW (a4.alloc (.cells #[.slice none 0 0, .int .i64 0] 64)) fun a6 =>
 thenW (a6.alloc (.cells #[.slice none 0 0, .int .i64 0] 68)) fun am =>
 putsK am (blk a4.heap.size) [.slice ag af ad, .int .i64 a1] 0 fun ao =>
 putsK ao (blk a6.heap.size) [.slice ab ae a9, .int .i64 a0] 0 fun aq =>
 ∃ (I0 : Nat → List Value → World → Prop) (ar : Nat), I0 ar [.int .u64 0, .int .i64 0] aq ∧ ∀ (an : Nat) (a5 : World) (a3 ah : Int), I0 an [.int .u64 a3, .int .i64 ah] a5 →
 bif decide (ah < av) then (
 Q04.J6 a3 ah I0 a2 an a4 a6 R a5) else (
 R (.pointer (some a2)) a5)

def Q04.M (a2 : Option Addr) (a3 a1 : Nat) (ah : Int) (R : RW) (w : World) : Prop :=
 Calls Tryz.prog 15 #[.slice a2 a3 a1] w fun b4 az => ∃ (aj : Option Addr), b4 = .returned (.pointer aj) ∧
 thenW (az.alloc (.cells #[.slice a2 a3 a1, .slice none 0 0] 54)) fun a7 =>
 thenW (a7.alloc (.cells #[.pointer aj, .pointer (some (blk az.heap.size)), .pointer none, .pointer none, .pointer none, .int .u64 0] 42)) fun ay =>
 ∃ (o8 : Option Addr), ay.cell? ((blk a7.heap.size).add 0) = some (.pointer o8) ∧
 Calls Tryz.prog 16 #[.pointer o8] ay fun au ao => ∃ (a4 a0 : Int), au = .returned (.tuple #[.int .u64 a4, .int .u64 a0]) ∧
 ∃ (ax : Option Addr), ao.cell? ((blk a7.heap.size).add 0) = some (.pointer ax) ∧
 Calls Tryz.prog 16 #[.pointer ax] ao fun ar ak => ∃ (a5 af : Int), ar = .returned (.tuple #[.int .u64 a5, .int .u64 af]) ∧
 ∃ (b1 : Option Addr), ak.cell? ((blk a7.heap.size).add 1) = some (.pointer b1) ∧
 Calls Tryz.prog 17 #[.pointer b1] ak fun ap al => ∃ (ag ae : Int), ap = .returned (.tuple #[.int .u64 ag, .int .u64 ae]) ∧
 ∃ (b2 : Option Addr), al.cell? ((blk a7.heap.size).add 1) = some (.pointer b2) ∧
 Calls Tryz.prog 17 #[.pointer b2] al fun aw ai => ∃ (ac ad : Int), aw = .returned (.tuple #[.int .u64 ac, .int .u64 ad]) ∧
 Q0e ai (((blk a7.heap.size).add 5).add 0) ∧
 thenW (ai.setCell (((blk a7.heap.size).add 5).add 0) (.int .u64 a0)) fun an =>
 ∃ (b3 : Option Addr), an.cell? ((blk a7.heap.size).add 0) = some (.pointer b3) ∧
 Calls Tryz.prog 18 #[.pointer b3, .int .i64 0, .int .u64 a4] an fun aq am => ∃ (a6 : Option Addr) (ab : Int), aq = .returned (.tuple #[.pointer a6, .int .i64 ab]) ∧
 ∃ (b0 : Option Addr), am.cell? ((blk a7.heap.size).add 0) = some (.pointer b0) ∧
 Calls Tryz.prog 18 #[.pointer b0, .int .i64 1, .int .u64 a5] am fun av a8 => ∃ (aa : Option Addr) (a9 : Int), av = .returned (.tuple #[.pointer aa, .int .i64 a9]) ∧
 bif ab != 0 then (
 R (.pointer none) a8) else (
 bif a9 != 0 then (
 R (.pointer none) a8) else (
 bif Option.isNone a6 then (
 R (.pointer none) a8) else (
 Q04.J7 aa a6 a0 a4 (blk a7.heap.size) ah R a8)))

theorem Q04.ok (a0 : Option Addr) (a2 a1 : Nat) (a3 : Int) {R : RW} {w : World} (h : Q04.M a0 a2 a1 a3 R w) : Calls Tryz.prog 5 #[.slice a0 a2 a1, .int .i64 a3] w fun e w' => ∃ v, e = .returned v ∧ R v w' :=
  Q0i follows (H := [(0, [1, 5, 14, 15], [(16, (.one (.int .u64))), (17, (.one (.int .i64)))])]) (args := [.slice a0 a2 a1, .int .i64 a3]) (cast (by kernel_rfl) h)

def Q04.N (ba : Option Addr) (b6 b7 : Nat) (c0 : Int) (R : RW) (w : World) : Prop :=
 Calls Tryz.prog 15 #[.slice ba b6 b7] w fun e4 dx => ∃ (cn : Option Addr), e4 = .returned (.pointer cn) ∧
 ∀ (d4 : World) (q7 : Nat), Ext no dx d4 → Blk d4 q7 54 [.slice ba b6 b7, .slice none 0 0] → dx.heap.size ≤ q7 → q7 < d4.heap.size →
 ∀ (cp : World) (q9 : Nat), Ext no d4 cp → Blk cp q9 42 [.pointer cn, .pointer (some (blk q7)), .pointer none, .pointer none, .pointer none, .int .u64 0] → d4.heap.size ≤ q9 → q9 < cp.heap.size →
 ∃ (dw : Option Addr), cp.cell? ((blk q9).add 0) = some (.pointer dw) ∧
 Calls Tryz.prog 16 #[.pointer dw] cp fun di d2 => ∃ (ax ai : Int), di = .returned (.tuple #[.int .u64 ax, .int .u64 ai]) ∧
 ∃ (du : Option Addr), d2.cell? ((blk q9).add 0) = some (.pointer du) ∧
 Calls Tryz.prog 16 #[.pointer du] d2 fun dj d5 => ∃ (bk cj : Int), dj = .returned (.tuple #[.int .u64 bk, .int .u64 cj]) ∧
 ∃ (dv : Option Addr), d5.cell? ((blk q9).add 1) = some (.pointer dv) ∧
 Calls Tryz.prog 17 #[.pointer dv] d5 fun dp cm => ∃ (cd ca : Int), dp = .returned (.tuple #[.int .u64 cd, .int .u64 ca]) ∧
 ∃ (e0 : Option Addr), cm.cell? ((blk q9).add 1) = some (.pointer e0) ∧
 Calls Tryz.prog 17 #[.pointer e0] cm fun dk cr => ∃ (c8 cg : Int), dk = .returned (.tuple #[.int .u64 c8, .int .u64 cg]) ∧
 Q0e cr (((blk q9).add 5).add 0) ∧
 thenW (cr.setCell (((blk q9).add 5).add 0) (.int .u64 ai)) fun dc =>
 ∃ (e1 : Option Addr), dc.cell? ((blk q9).add 0) = some (.pointer e1) ∧
 Calls Tryz.prog 18 #[.pointer e1, .int .i64 0, .int .u64 ax] dc fun dm cq => ∃ (b2 : Option Addr) (br : Int), dm = .returned (.tuple #[.pointer b2, .int .i64 br]) ∧
 ∃ (dy : Option Addr), cq.cell? ((blk q9).add 0) = some (.pointer dy) ∧
 Calls Tryz.prog 18 #[.pointer dy, .int .i64 1, .int .u64 bk] cq fun dq bt => ∃ (c7 : Option Addr) (bl : Int), dq = .returned (.tuple #[.pointer c7, .int .i64 bl]) ∧
 (br ≠ 0 →
 R (.pointer none) bt) ∧
 (br = 0 →
 (bl ≠ 0 →
 R (.pointer none) bt) ∧
 (bl = 0 →
 (b2 = none →
 R (.pointer none) bt) ∧
 (b2 ≠ none →
 Q0e bt (((blk q9).add 2).add 0) ∧
 thenW (bt.setCell (((blk q9).add 2).add 0) (.pointer b2)) fun d6 =>
 Q0e d6 (((blk q9).add 3).add 0) ∧
 thenW (d6.setCell (((blk q9).add 3).add 0) (.pointer c7)) fun cs =>
 ∀ (bp : World) (dg : Nat), Ext no cs bp → Blk bp dg 61 [.int .i64 0, .int .u64 ax, .slice none 0 0, .slice none 0 0] → cs.heap.size ≤ dg → dg < bp.heap.size →
 Q0e bp (((blk q9).add 4).add 0) ∧
 thenW (bp.setCell (((blk q9).add 4).add 0) (.pointer (some (blk dg)))) fun dn =>
 Calls Tryz.prog 19 #[.int .u64 ai] dn fun dl ds => ∃ (cw : Option Addr) (de cx : Nat) (b4 : Int), dl = .returned (.agg #[.slice cw de cx, .int .i64 b4]) ∧
 Calls Tryz.prog 20 #[.int .u64 ai] ds fun dt d1 => ∃ (d8 : Option Addr) (ct dd : Nat) (b1 : Int), dt = .returned (.agg #[.slice d8 ct dd, .int .i64 b1]) ∧
 ∀ (cb : World) (bw bv : Nat), Ext no d1 cb → Priv d1 cb [bw, bv] →
 ∃ (I0 : Nat → List Value → World → Prop) (e5 : Nat), I0 e5 [.int .u64 0, .int .i64 0, .slice cw de cx, .int .i64 b4, .slice d8 ct dd, .int .i64 b1] cb ∧ ∀ (e2 : Nat) (bh : World) (ay ck : Int) (cc : Option Addr) (ch ci : Nat) (ae : Int) (cf : Option Addr) (ce c9 : Nat) (ak : Int), I0 e2 [.int .u64 ay, .int .i64 ck, .slice cc ch ci, .int .i64 ae, .slice cf ce c9, .int .i64 ak] bh →
 (ck < c0 →
 ∃ (e3 : Option Addr), bh.cell? ((blk q9).add 0) = some (.pointer e3) ∧
 ∀ (be : World) (dh : List Nat), Ext no bh be → Priv bh be dh →
 Calls Tryz.prog 21 #[.pointer e3, .agg #[.slice cc ch ci, .int .i64 ae], .int .u64 ay] be fun dr bu => ∃ (ag b3 a0 a8 : Int) (a1 : Option Addr) (a2 a3 : Nat) (an : Option Addr) (ad aj : Nat) (au ab : Int), dr = .returned (.tuple #[.agg #[.int .i64 ag, .int .i64 b3, .int .u64 a0, .int .i64 a8, .slice a1 a2 a3, .slice an ad aj], .int .u64 au, .int .i64 ab]) ∧
 Keep dh be bu ∧
 Keep [bw, bv] be bu ∧
 ∀ (ao : World) (d3 : Nat), Ext (fun b => b ∈ dh) bu ao → PrivJ dh bu ao [d3] →
 ∃ (dz : Option Addr), ao.cell? ((blk q9).add 1) = some (.pointer dz) ∧
 ∀ (aw : World) (bg : List Nat), Ext no ao aw → Priv ao aw bg →
 Calls Tryz.prog 22 #[.pointer dz, .agg #[.slice cf ce c9, .int .i64 ak], .int .u64 ay] aw fun da av => ∃ (al az a5 a9 : Int) (a4 : Option Addr) (a7 a6 : Nat) (ah : Option Addr) (am af : Nat) (bd bc : Int), da = .returned (.tuple #[.agg #[.int .i64 al, .int .i64 az, .int .u64 a5, .int .i64 a9, .slice a4 a7 a6, .slice ah am af], .int .u64 bd, .int .i64 bc]) ∧
 Keep bg aw av ∧
 Keep [bw, bv, d3] aw av ∧
 (ab ≠ 0 →
 ∀ (c1 : World), Ext (fun b => b ∈ bg) av c1 →
 R (.pointer none) c1) ∧
 (ab = 0 →
 ∀ (b9 : World) (bn : Nat), Ext (fun b => b ∈ bg) av b9 → PrivJ bg av b9 [bn] →
 Calls Tryz.prog 23 #[.agg #[.slice cc ch ci, .int .i64 ae], .agg #[.int .i64 ag, .int .i64 b3, .int .u64 a0, .int .i64 a8, .slice a1 a2 a3, .slice an ad aj]] b9 fun db bm => ∃ (c2 : Option Addr) (bz c5 : Nat) (ap ac : Int), db = .returned (.tuple #[.agg #[.slice c2 bz c5, .int .i64 ap], .int .i64 ac]) ∧
 Keep [bw, bv, d3, bn] b9 bm ∧
 ∀ (b8 : World) (cy : Nat), Ext no bm b8 → Priv bm b8 [cy] →
 Calls Tryz.prog 24 #[.agg #[.slice cf ce c9, .int .i64 ak], .agg #[.int .i64 al, .int .i64 az, .int .u64 a5, .int .i64 a9, .slice a4 a7 a6, .slice ah am af]] b8 fun cz b5 => ∃ (c6 : Option Addr) (bx c4 : Nat) (aq aa : Int), cz = .returned (.tuple #[.agg #[.slice c6 bx c4, .int .i64 aq], .int .i64 aa]) ∧
 Keep [bw, bv, d3, bn, cy] b8 b5 ∧
 (ac ≠ 0 →
 ∀ (ar : World), Ext no b5 ar →
 R (.pointer none) ar) ∧
 (ac = 0 →
 (aa ≠ 0 →
 ∀ (ar : World), Ext no b5 ar →
 R (.pointer none) ar) ∧
 (aa = 0 →
 ∀ (b0 : World), Ext (fun b => b = bv ∨ b = bw) b5 b0 →
 ∃ (cv : Option Addr), b0.cell? ((blk q9).add 2) = some (.pointer cv) ∧
 Calls Tryz.prog 25 #[.pointer cv, .agg #[.int .i64 ag, .int .i64 b3, .int .u64 a0, .int .i64 a8, .slice a1 a2 a3, .slice an ad aj]] b0 fun cu bs => ∃ (bq : Int), cu = .returned (.int .i64 bq) ∧
 Keep [bw, bv, d3, bn] b0 bs ∧
 ∃ (co : Option Addr), bs.cell? ((blk q9).add 3) = some (.pointer co) ∧
 ∀ (bj : World), Ext no bs bj →
 Calls Tryz.prog 25 #[.pointer co, .agg #[.int .i64 ag, .int .i64 b3, .int .u64 a0, .int .i64 a8, .slice a1 a2 a3, .slice an ad aj]] bj fun df bb => ∃ (bf : Int), df = .returned (.int .i64 bf) ∧
 Keep [bw, bv, bn] bj bb ∧
 ∃ (d0 : Option Addr), bb.cell? ((blk q9).add 4) = some (.pointer d0) ∧
 ∃ (d9 : Option Addr), bb.cell? ((blk q9).add 1) = some (.pointer d9) ∧
 ∀ (bo : World), Ext no bb bo →
 Calls Tryz.prog 26 #[.pointer d0, .pointer d9, .agg #[.int .i64 al, .int .i64 az, .int .u64 a5, .int .i64 a9, .slice a4 a7 a6, .slice ah am af]] bo fun d7 c3 => ∃ (bi : Int), d7 = .returned (.int .i64 bi) ∧
 Keep [bw, bv] bo c3 ∧
 (-9223372036854775808 : Int) ≤ (ck + 1) ∧ (ck + 1) < 9223372036854775808 ∧
 ∃ cl, cl < e2 ∧ I0 cl [.int .u64 au, .int .i64 (ck + 1), .slice c2 bz c5, .int .i64 ap, .slice c6 bx c4, .int .i64 aq] c3)))) ∧
 (c0 ≤ ck →
 R (.pointer (some (blk q9))) bh))))

theorem Q04.up (cr : Option Addr) (cp cq : Nat) (dj : Int) {R : RW} {w : World} (h : Q04.N cr cp cq dj R w) : Q04.M cr cp cq dj R w := by
  unfold Q04.M
  unfold Q04.N at h
  refine h.mono fun ih fi h => ?_
  obtain ⟨f6, he, h⟩ := h
  refine ⟨f6, he, ?_⟩
  refine Q01 fun f3 e6 => ?_
  have h := h f3 fi.heap.size ((Ext.refl no fi).x_alloc e6) (Blk.of_new e6) ((Ext.refl no fi)).size (Q0A e6)
  refine Q01 fun gi e8 => ?_
  have h := h gi f3.heap.size ((Ext.refl no f3).x_alloc e8) (Blk.of_new e8) ((Ext.refl no f3)).size (Q0A e8)
  obtain ⟨gr, fg, h⟩ := h
  refine ⟨gr, fg, ?_⟩
  refine h.mono fun ga gz h => ?_
  obtain ⟨dl, dy, he, h⟩ := h
  refine ⟨dl, dy, he, ?_⟩
  obtain ⟨gk, fs, h⟩ := h
  refine ⟨gk, fs, ?_⟩
  refine h.mono fun gb i2 h => ?_
  obtain ⟨dw, e4, he, h⟩ := h
  refine ⟨dw, e4, he, ?_⟩
  obtain ⟨gm, fo, h⟩ := h
  refine ⟨gm, fo, ?_⟩
  refine h.mono fun gx gd h => ?_
  obtain ⟨du, dp, he, h⟩ := h
  refine ⟨du, dp, he, ?_⟩
  obtain ⟨gw, fr, h⟩ := h
  refine ⟨gw, fr, ?_⟩
  refine h.mono fun gc gl h => ?_
  obtain ⟨dk, e0, he, h⟩ := h
  refine ⟨dk, e0, he, ?_⟩
  obtain ⟨hcs, h⟩ := h
  refine ⟨hcs, Q01 fun ia i6 => ?_⟩
  replace h := Q1l h i6
  obtain ⟨gy, g0, h⟩ := h
  refine ⟨gy, g0, ?_⟩
  refine h.mono fun gh gj h => ?_
  obtain ⟨ec, ey, he, h⟩ := h
  refine ⟨ec, ey, he, ?_⟩
  obtain ⟨gv, fa, h⟩ := h
  refine ⟨gv, fa, ?_⟩
  refine h.mono fun i3 ie h => ?_
  obtain ⟨ex, ep, he, h⟩ := h
  refine ⟨ex, ep, he, ?_⟩
  refine bif_of (fun f8 => ?_) (fun f8 => ?_)
  ·have h := h.1 (bne_t f8)
   exact h
  have h := h.2 (bne_f f8)
  refine bif_of (fun fz => ?_) (fun fz => ?_)
  ·have h := h.1 (bne_t fz)
   exact h
  have h := h.2 (bne_f fz)
  refine bif_of (fun f9 => ?_) (fun f9 => ?_)
  ·have h := h.1 (Q1T f9)
   exact h
  have h := h.2 (Q1O f9)
  unfold Q04.J7
  obtain ⟨hcs, h⟩ := h
  refine ⟨hcs, Q01 fun i5 ic => ?_⟩
  replace h := Q1l h ic
  obtain ⟨hcs, h⟩ := h
  refine ⟨hcs, Q01 fun dm gq => ?_⟩
  replace h := Q1l h gq
  refine Q01 fun fv fy => ?_
  have h := h fv dm.heap.size ((Ext.refl no dm).x_alloc fy) (Blk.of_new fy) ((Ext.refl no dm)).size (Q0A fy)
  obtain ⟨hcs, h⟩ := h
  refine ⟨hcs, Q01 fun gt i0 => ?_⟩
  replace h := Q1l h i0
  refine h.mono fun gf ib h => ?_
  obtain ⟨dq, e3, dr, cb, he, h⟩ := h
  refine ⟨dq, e3, dr, cb, he, ?_⟩
  refine h.mono fun ig cf h => ?_
  obtain ⟨dz, dn, e2, c9, he, h⟩ := h
  refine ⟨dz, dn, e2, c9, he, ?_⟩
  refine Q01 fun cu g2 => ?_
  have a2 := Blk.of_new g2
  have g8 := ((Ext.refl no cf)).size
  have ed := (Ext.refl no cf).x_alloc g2
  refine Q01 fun i1 fx => ?_
  have a1 := Blk.of_new fx
  have g1 := (ed).size
  have cn := Nat.ne_of_lt a2.lt
  have a2 := a2.x_alloc fx
  have fb := ed.x_alloc fx
  refine Q0s (k := 0) (j := 0) a2 (Nat.le_of_ble_eq_true rfl) fun fl g3 ge => ?_
  have fd := fb.x_puts g3 (.inr g8)
  have a2 : Blk fl cf.heap.size 64 [.slice dq e3 dr, .int .i64 cb] := ge
  have a1 := a1.x_puts g3 (Ne.symm cn)
  refine Q0s (k := 0) (j := 0) a1 (Nat.le_of_ble_eq_true rfl) fun ef g7 gu => ?_
  have fq := fd.x_puts g7 (.inr g1)
  have a2 := a2.x_puts g7 cn
  have a1 : Blk ef cu.heap.size 68 [.slice dz dn e2, .int .i64 c9] := gu
  have h := h ef (cf.heap.size) (cu.heap.size) fq (Priv.cons g8 a2.lt (Priv.cons g1 a1.lt Priv.nil))
  obtain ⟨I0, gp, h0, h⟩ := h
  refine ⟨fun k vs ww => ∃ (cc : Option Addr) (cd ce : Nat) (au : Int) (c8 : Option Addr) (c7 c6 : Nat) (aq : Int), Blk ww cf.heap.size 64 [.slice cc cd ce, .int .i64 au] ∧ Blk ww cu.heap.size 68 [.slice c8 c7 c6, .int .i64 aq] ∧ I0 k (vs ++ [.slice cc cd ce, .int .i64 au, .slice c8 c7 c6, .int .i64 aq]) ww, gp, ⟨dq, e3, dr, cb, dz, dn, e2, c9, a2, a1, h0⟩, fun i7 eh dt gs hI => ?_⟩
  obtain ⟨cc, cd, ce, au, c8, c7, c6, aq, a2, a1, hI⟩ := hI
  have h := h i7 eh dt gs cc cd ce au c8 c7 c6 aq hI
  refine bif_fo (fun fj => ?_) (fun fj => ?_)
  ·have h := h.2 (Int.not_lt.1 (of_decide_eq_false fj))
   exact h
  have h := h.1 (of_decide_eq_true fj)
  unfold Q04.J6
  refine Q01 fun d6 fh => ?_
  have db := (Ext.refl no eh).x_drew fh
  have a2 := a2.x_drew fh
  have a1 := a1.x_drew fh
  obtain ⟨i9, eu, h⟩ := h
  refine ⟨i9, (db).cell eu id, ?_⟩
  refine ⟨cc, cd, ce, au, ⟨a2.celli 0 rfl rfl, a2.celli 1 rfl rfl, trivial⟩, ?_⟩
  refine ⟨?_, ?_⟩
  focus
   have h := h d6 [] db Priv.nil
   refine h.mono fun i4 dd h => ?_
   obtain ⟨b1, bf, af, am, ag, ah, ai, b4, av, b2, d5, c2, he, hkL, hk, h⟩ := h
   refine ⟨b1, bf, af, am, ag, ah, ai, b4, av, b2, d5, c2, he, ?_⟩
   have a2 := hk.blk a2 (by simp)
   have a1 := hk.blk a1 (by simp)
   refine Q01 fun es f1 => ?_
   have a0 := Blk.of_new f1
   have f2 := ((Ext.refl (fun b => b ∈ ([] : List Nat)) dd)).size
   have cm := Nat.ne_of_lt a2.lt
   have a2 := a2.x_alloc f1
   have co := Nat.ne_of_lt a1.lt
   have a1 := a1.x_alloc f1
   have fc := (Ext.refl (fun b => b ∈ ([] : List Nat)) dd).x_alloc f1
   refine Q0s (k := 0) (j := 0) a0 (Nat.le_of_ble_eq_true rfl) fun dv e1 fm => ?_
   have ds := fc.x_puts e1 (.inr f2)
   have a2 := a2.x_puts e1 cm
   have a1 := a1.x_puts e1 co
   have a0 : Blk dv dd.heap.size 72 [.int .i64 b1, .int .i64 bf, .int .u64 af, .int .i64 am, .slice ag ah ai, .slice b4 av b2] := fm
   unfold Q04.J5
   refine Q01 fun bc dg => ?_
   have dx := ds.x_drew dg
   have a2 := a2.x_drew dg
   have a1 := a1.x_drew dg
   have a0 := a0.x_drew dg
   have h := h bc (dd.heap.size) dx (PrivJ.cons (.inr f2) a0.lt PrivJ.nil)
   obtain ⟨fk, d9, h⟩ := h
   refine ⟨fk, d9, ?_⟩
   refine ⟨c8, c7, c6, aq, ⟨a1.celli 0 rfl rfl, a1.celli 1 rfl rfl, trivial⟩, ?_⟩
   refine ⟨?_, ?_⟩
   have h := h bc [] (Ext.refl no bc) Priv.nil
   refine h.mono fun et bk h => ?_
   obtain ⟨ad, aj, a5, a8, a4, a7, a6, ac, ae, ab, bm, ap, he, hkL, hk, h⟩ := h
   refine ⟨ad, aj, a5, a8, a4, a7, a6, ac, ae, ab, bm, ap, he, ?_⟩
   have a2 := hk.blk a2 (by simp)
   have a1 := hk.blk a1 (by simp)
   have a0 := hk.blk a0 (by simp)
   refine Q01 fun cg c5 => ?_
   have a3 := Blk.of_new c5
   have df := ((Ext.refl (fun b => b ∈ ([] : List Nat)) bk)).size
   have bp := Nat.ne_of_lt a2.lt
   have a2 := a2.x_alloc c5
   have bn := Nat.ne_of_lt a1.lt
   have a1 := a1.x_alloc c5
   have bq := Nat.ne_of_lt a0.lt
   have a0 := a0.x_alloc c5
   have cs := (Ext.refl (fun b => b ∈ ([] : List Nat)) bk).x_alloc c5
   refine Q0s (k := 0) (j := 0) a3 (Nat.le_of_ble_eq_true rfl) fun az bb cj => ?_
   have be := cs.x_puts bb (.inr df)
   have a2 := a2.x_puts bb bp
   have a1 := a1.x_puts bb bn
   have a0 := a0.x_puts bb bq
   have a3 : Blk az bk.heap.size 77 [.int .i64 ad, .int .i64 aj, .int .u64 a5, .int .i64 a8, .slice a4 a7 a6, .slice ac ae ab] := cj
   unfold Q04.J4
   refine bif_of (fun bj => ?_) (fun bj => ?_)
   ·have h := h.1 (bne_t bj)
    have h := h az be
    exact h
   have h := h.2 (bne_f bj)
   unfold Q04.J3
   refine ⟨cc, cd, ce, au, ⟨a2.celli 0 rfl rfl, a2.celli 1 rfl rfl, trivial⟩, ?_⟩
   refine ⟨b1, bf, af, am, ag, ah, ai, b4, av, b2, ⟨a0.celli 0 rfl rfl, a0.celli 1 rfl rfl, a0.celli 2 rfl rfl, a0.celli 3 rfl rfl, a0.celli 4 rfl rfl, a0.celli 5 rfl rfl, trivial⟩, ?_⟩
   have h := h az (bk.heap.size) be (PrivJ.cons (.inr df) a3.lt PrivJ.nil)
   refine h.mono fun d7 al h => ?_
   obtain ⟨b7, b6, b9, a9, b3, he, hk, h⟩ := h
   refine ⟨b7, b6, b9, a9, b3, he, ?_⟩
   have a2 := hk.blk a2 (by simp)
   have a1 := hk.blk a1 (by simp)
   have a0 := hk.blk a0 (by simp)
   have a3 := hk.blk a3 (by simp)
   refine Q01 fun d4 an => ?_
   have ax := Blk.of_new an
   have cz := ((Ext.refl no al)).size
   have c1 := Nat.ne_of_lt a2.lt
   have a2 := a2.x_alloc an
   have bv := Nat.ne_of_lt a1.lt
   have a1 := a1.x_alloc an
   have br := Nat.ne_of_lt a0.lt
   have a0 := a0.x_alloc an
   have bw := Nat.ne_of_lt a3.lt
   have a3 := a3.x_alloc an
   have bs := (Ext.refl no al).x_alloc an
   refine Q0s (k := 0) (j := 0) ax (Nat.le_of_ble_eq_true rfl) fun bg aw cl => ?_
   have bt := bs.x_puts aw (.inr cz)
   have a2 := a2.x_puts aw c1
   have a1 := a1.x_puts aw bv
   have a0 := a0.x_puts aw br
   have a3 := a3.x_puts aw bw
   have ax : Blk bg al.heap.size 64 [.slice b7 b6 b9, .int .i64 a9] := cl
   refine ⟨c8, c7, c6, aq, ⟨a1.celli 0 rfl rfl, a1.celli 1 rfl rfl, trivial⟩, ?_⟩
   refine ⟨ad, aj, a5, a8, a4, a7, a6, ac, ae, ab, ⟨a3.celli 0 rfl rfl, a3.celli 1 rfl rfl, a3.celli 2 rfl rfl, a3.celli 3 rfl rfl, a3.celli 4 rfl rfl, a3.celli 5 rfl rfl, trivial⟩, ?_⟩
   have h := h bg (al.heap.size) bt (Priv.cons cz ax.lt Priv.nil)
   refine h.mono fun cx ar h => ?_
   obtain ⟨ba, b5, b8, aa, ay, he, hk, h⟩ := h
   refine ⟨ba, b5, b8, aa, ay, he, ?_⟩
   have a2 := hk.blk a2 (by simp)
   have a1 := hk.blk a1 (by simp)
   have a0 := hk.blk a0 (by simp)
   have a3 := hk.blk a3 (by simp)
   have ax := hk.blk ax (by simp)
   refine Q01 fun cv ak => ?_
   have ca := Blk.of_new ak
   have e5 := ((Ext.refl no ar)).size
   have bo := Nat.ne_of_lt a2.lt
   have a2 := a2.x_alloc ak
   have c0 := Nat.ne_of_lt a1.lt
   have a1 := a1.x_alloc ak
   have c4 := Nat.ne_of_lt a0.lt
   have a0 := a0.x_alloc ak
   have c3 := Nat.ne_of_lt a3.lt
   have a3 := a3.x_alloc ak
   have bu := Nat.ne_of_lt ax.lt
   have ax := ax.x_alloc ak
   have bz := (Ext.refl no ar).x_alloc ak
   refine Q0s (k := 0) (j := 0) ca (Nat.le_of_ble_eq_true rfl) fun b0 ao ci => ?_
   have bd := bz.x_puts ao (.inr e5)
   have a2 := a2.x_puts ao bo
   have a1 := a1.x_puts ao c0
   have a0 := a0.x_puts ao c4
   have a3 := a3.x_puts ao c3
   have ax := ax.x_puts ao bu
   have ca : Blk b0 ar.heap.size 68 [.slice ba b5 b8, .int .i64 aa] := ci
   refine bif_of (fun bi => ?_) (fun bi => ?_)
   ·have h := h.1 (bne_t bi)
    have h := h b0 bd
    exact h
   have h := h.2 (bne_f bi)
   refine bif_of (fun bh => ?_) (fun bh => ?_)
   ·have h := h.1 (bne_t bh)
    have h := h b0 bd
    exact h
   have h := h.2 (bne_f bh)
   rotate_left
   refine Q01 fun d1 bx => ?_
   have a3 := Blk.of_new bx
   have df := ((Ext.refl no bc)).size
   have bp := Nat.ne_of_lt a2.lt
   have a2 := a2.x_alloc bx
   have bn := Nat.ne_of_lt a1.lt
   have a1 := a1.x_alloc bx
   have bq := Nat.ne_of_lt a0.lt
   have a0 := a0.x_alloc bx
   have ch := (Ext.refl no bc).x_alloc bx
   refine ⟨⟨a1.celli 0 rfl rfl, a1.celli 1 rfl rfl, trivial⟩, (ch).cell d9 id, ?_⟩
   have h := h d1 [bc.heap.size] ch (Priv.cons df a3.lt Priv.nil)
   refine h.mono fun ek cg h => ?_
   obtain ⟨ad, aj, a5, a8, a4, a7, a6, ac, ae, ab, ap, bl, he, hkL, hk, h⟩ := h
   refine ⟨ad, aj, a5, a8, a4, a7, a6, ac, ae, ab, ap, bl, he, ?_⟩
   have a3 := hkL.blk a3 (by simp)
   have a2 := hk.blk a2 (by simp)
   have a1 := hk.blk a1 (by simp)
   have a0 := hk.blk a0 (by simp)
   refine Q0s (k := 0) (j := 0) a3 (Nat.le_of_ble_eq_true rfl) fun az bb cj => ?_
   have be := (Ext.refl (fun b => b ∈ ([bc.heap.size] : List Nat)) cg).x_puts bb (.inl (by simp))
   have a2 := a2.x_puts bb bp
   have a1 := a1.x_puts bb bn
   have a0 := a0.x_puts bb bq
   have a3 : Blk az bc.heap.size 77 [.int .i64 ad, .int .i64 aj, .int .u64 a5, .int .i64 a8, .slice a4 a7 a6, .slice ac ae ab] := cj
   unfold Q04.J4
   refine bif_of (fun bj => ?_) (fun bj => ?_)
   ·have h := h.1 (bne_t bj)
    have h := h az be
    exact h
   have h := h.2 (bne_f bj)
   unfold Q04.J3
   refine ⟨cc, cd, ce, au, ⟨a2.celli 0 rfl rfl, a2.celli 1 rfl rfl, trivial⟩, ?_⟩
   refine ⟨b1, bf, af, am, ag, ah, ai, b4, av, b2, ⟨a0.celli 0 rfl rfl, a0.celli 1 rfl rfl, a0.celli 2 rfl rfl, a0.celli 3 rfl rfl, a0.celli 4 rfl rfl, a0.celli 5 rfl rfl, trivial⟩, ?_⟩
   have h := h az (bc.heap.size) be (PrivJ.cons (.inl (by simp)) a3.lt PrivJ.nil)
   refine h.mono fun d7 al h => ?_
   obtain ⟨b7, b6, b9, a9, b3, he, hk, h⟩ := h
   refine ⟨b7, b6, b9, a9, b3, he, ?_⟩
   have a2 := hk.blk a2 (by simp)
   have a1 := hk.blk a1 (by simp)
   have a0 := hk.blk a0 (by simp)
   have a3 := hk.blk a3 (by simp)
   refine Q01 fun d4 an => ?_
   have ax := Blk.of_new an
   have cz := ((Ext.refl no al)).size
   have c1 := Nat.ne_of_lt a2.lt
   have a2 := a2.x_alloc an
   have bv := Nat.ne_of_lt a1.lt
   have a1 := a1.x_alloc an
   have br := Nat.ne_of_lt a0.lt
   have a0 := a0.x_alloc an
   have bw := Nat.ne_of_lt a3.lt
   have a3 := a3.x_alloc an
   have bs := (Ext.refl no al).x_alloc an
   refine Q0s (k := 0) (j := 0) ax (Nat.le_of_ble_eq_true rfl) fun bg aw cl => ?_
   have bt := bs.x_puts aw (.inr cz)
   have a2 := a2.x_puts aw c1
   have a1 := a1.x_puts aw bv
   have a0 := a0.x_puts aw br
   have a3 := a3.x_puts aw bw
   have ax : Blk bg al.heap.size 64 [.slice b7 b6 b9, .int .i64 a9] := cl
   refine ⟨c8, c7, c6, aq, ⟨a1.celli 0 rfl rfl, a1.celli 1 rfl rfl, trivial⟩, ?_⟩
   refine ⟨ad, aj, a5, a8, a4, a7, a6, ac, ae, ab, ⟨a3.celli 0 rfl rfl, a3.celli 1 rfl rfl, a3.celli 2 rfl rfl, a3.celli 3 rfl rfl, a3.celli 4 rfl rfl, a3.celli 5 rfl rfl, trivial⟩, ?_⟩
   have h := h bg (al.heap.size) bt (Priv.cons cz ax.lt Priv.nil)
   refine h.mono fun cx ar h => ?_
   obtain ⟨ba, b5, b8, aa, ay, he, hk, h⟩ := h
   refine ⟨ba, b5, b8, aa, ay, he, ?_⟩
   have a2 := hk.blk a2 (by simp)
   have a1 := hk.blk a1 (by simp)
   have a0 := hk.blk a0 (by simp)
   have a3 := hk.blk a3 (by simp)
   have ax := hk.blk ax (by simp)
   refine Q01 fun cv ak => ?_
   have ca := Blk.of_new ak
   have e5 := ((Ext.refl no ar)).size
   have bo := Nat.ne_of_lt a2.lt
   have a2 := a2.x_alloc ak
   have c0 := Nat.ne_of_lt a1.lt
   have a1 := a1.x_alloc ak
   have c4 := Nat.ne_of_lt a0.lt
   have a0 := a0.x_alloc ak
   have c3 := Nat.ne_of_lt a3.lt
   have a3 := a3.x_alloc ak
   have bu := Nat.ne_of_lt ax.lt
   have ax := ax.x_alloc ak
   have bz := (Ext.refl no ar).x_alloc ak
   refine Q0s (k := 0) (j := 0) ca (Nat.le_of_ble_eq_true rfl) fun b0 ao ci => ?_
   have bd := bz.x_puts ao (.inr e5)
   have a2 := a2.x_puts ao bo
   have a1 := a1.x_puts ao c0
   have a0 := a0.x_puts ao c4
   have a3 := a3.x_puts ao c3
   have ax := ax.x_puts ao bu
   have ca : Blk b0 ar.heap.size 68 [.slice ba b5 b8, .int .i64 aa] := ci
   refine bif_of (fun bi => ?_) (fun bi => ?_)
   ·have h := h.1 (bne_t bi)
    have h := h b0 bd
    exact h
   have h := h.2 (bne_f bi)
   refine bif_of (fun bh => ?_) (fun bh => ?_)
   ·have h := h.1 (bne_t bh)
    have h := h b0 bd
    exact h
   have h := h.2 (bne_f bh)
   rotate_left
  rotate_left 2
  focus
   refine Q01 fun ft f4 => ?_
   have a0 := Blk.of_new f4
   have f2 := (db).size
   have cm := Nat.ne_of_lt a2.lt
   have a2 := a2.x_alloc f4
   have co := Nat.ne_of_lt a1.lt
   have a1 := a1.x_alloc f4
   have eg := db.x_alloc f4
   refine ⟨⟨a2.celli 0 rfl rfl, a2.celli 1 rfl rfl, trivial⟩, (eg).cell eu id, ?_⟩
   have h := h ft [d6.heap.size] eg (Priv.cons f2 a0.lt Priv.nil)
   refine h.mono fun gg es h => ?_
   obtain ⟨b1, bf, af, am, ag, ah, ai, b4, av, b2, c2, cw, he, hkL, hk, h⟩ := h
   refine ⟨b1, bf, af, am, ag, ah, ai, b4, av, b2, c2, cw, he, ?_⟩
   have a0 := hkL.blk a0 (by simp)
   have a2 := hk.blk a2 (by simp)
   have a1 := hk.blk a1 (by simp)
   refine Q0s (k := 0) (j := 0) a0 (Nat.le_of_ble_eq_true rfl) fun dv e1 fm => ?_
   have ds := (Ext.refl (fun b => b ∈ ([d6.heap.size] : List Nat)) es).x_puts e1 (.inl (by simp))
   have a2 := a2.x_puts e1 cm
   have a1 := a1.x_puts e1 co
   have a0 : Blk dv d6.heap.size 72 [.int .i64 b1, .int .i64 bf, .int .u64 af, .int .i64 am, .slice ag ah ai, .slice b4 av b2] := fm
   unfold Q04.J5
   refine Q01 fun bc dg => ?_
   have dx := ds.x_drew dg
   have a2 := a2.x_drew dg
   have a1 := a1.x_drew dg
   have a0 := a0.x_drew dg
   have h := h bc (d6.heap.size) dx (PrivJ.cons (.inl (by simp)) a0.lt PrivJ.nil)
   obtain ⟨fk, d9, h⟩ := h
   refine ⟨fk, d9, ?_⟩
   refine ⟨c8, c7, c6, aq, ⟨a1.celli 0 rfl rfl, a1.celli 1 rfl rfl, trivial⟩, ?_⟩
   refine ⟨?_, ?_⟩
   have h := h bc [] (Ext.refl no bc) Priv.nil
   refine h.mono fun et bk h => ?_
   obtain ⟨ad, aj, a5, a8, a4, a7, a6, ac, ae, ab, bm, ap, he, hkL, hk, h⟩ := h
   refine ⟨ad, aj, a5, a8, a4, a7, a6, ac, ae, ab, bm, ap, he, ?_⟩
   have a2 := hk.blk a2 (by simp)
   have a1 := hk.blk a1 (by simp)
   have a0 := hk.blk a0 (by simp)
   refine Q01 fun cg c5 => ?_
   have a3 := Blk.of_new c5
   have df := ((Ext.refl (fun b => b ∈ ([] : List Nat)) bk)).size
   have bp := Nat.ne_of_lt a2.lt
   have a2 := a2.x_alloc c5
   have bn := Nat.ne_of_lt a1.lt
   have a1 := a1.x_alloc c5
   have bq := Nat.ne_of_lt a0.lt
   have a0 := a0.x_alloc c5
   have cs := (Ext.refl (fun b => b ∈ ([] : List Nat)) bk).x_alloc c5
   refine Q0s (k := 0) (j := 0) a3 (Nat.le_of_ble_eq_true rfl) fun az bb cj => ?_
   have be := cs.x_puts bb (.inr df)
   have a2 := a2.x_puts bb bp
   have a1 := a1.x_puts bb bn
   have a0 := a0.x_puts bb bq
   have a3 : Blk az bk.heap.size 77 [.int .i64 ad, .int .i64 aj, .int .u64 a5, .int .i64 a8, .slice a4 a7 a6, .slice ac ae ab] := cj
   unfold Q04.J4
   refine bif_of (fun bj => ?_) (fun bj => ?_)
   ·have h := h.1 (bne_t bj)
    have h := h az be
    exact h
   have h := h.2 (bne_f bj)
   unfold Q04.J3
   refine ⟨cc, cd, ce, au, ⟨a2.celli 0 rfl rfl, a2.celli 1 rfl rfl, trivial⟩, ?_⟩
   refine ⟨b1, bf, af, am, ag, ah, ai, b4, av, b2, ⟨a0.celli 0 rfl rfl, a0.celli 1 rfl rfl, a0.celli 2 rfl rfl, a0.celli 3 rfl rfl, a0.celli 4 rfl rfl, a0.celli 5 rfl rfl, trivial⟩, ?_⟩
   have h := h az (bk.heap.size) be (PrivJ.cons (.inr df) a3.lt PrivJ.nil)
   refine h.mono fun d7 al h => ?_
   obtain ⟨b7, b6, b9, a9, b3, he, hk, h⟩ := h
   refine ⟨b7, b6, b9, a9, b3, he, ?_⟩
   have a2 := hk.blk a2 (by simp)
   have a1 := hk.blk a1 (by simp)
   have a0 := hk.blk a0 (by simp)
   have a3 := hk.blk a3 (by simp)
   refine Q01 fun d4 an => ?_
   have ax := Blk.of_new an
   have cz := ((Ext.refl no al)).size
   have c1 := Nat.ne_of_lt a2.lt
   have a2 := a2.x_alloc an
   have bv := Nat.ne_of_lt a1.lt
   have a1 := a1.x_alloc an
   have br := Nat.ne_of_lt a0.lt
   have a0 := a0.x_alloc an
   have bw := Nat.ne_of_lt a3.lt
   have a3 := a3.x_alloc an
   have bs := (Ext.refl no al).x_alloc an
   refine Q0s (k := 0) (j := 0) ax (Nat.le_of_ble_eq_true rfl) fun bg aw cl => ?_
   have bt := bs.x_puts aw (.inr cz)
   have a2 := a2.x_puts aw c1
   have a1 := a1.x_puts aw bv
   have a0 := a0.x_puts aw br
   have a3 := a3.x_puts aw bw
   have ax : Blk bg al.heap.size 64 [.slice b7 b6 b9, .int .i64 a9] := cl
   refine ⟨c8, c7, c6, aq, ⟨a1.celli 0 rfl rfl, a1.celli 1 rfl rfl, trivial⟩, ?_⟩
   refine ⟨ad, aj, a5, a8, a4, a7, a6, ac, ae, ab, ⟨a3.celli 0 rfl rfl, a3.celli 1 rfl rfl, a3.celli 2 rfl rfl, a3.celli 3 rfl rfl, a3.celli 4 rfl rfl, a3.celli 5 rfl rfl, trivial⟩, ?_⟩
   have h := h bg (al.heap.size) bt (Priv.cons cz ax.lt Priv.nil)
   refine h.mono fun cx ar h => ?_
   obtain ⟨ba, b5, b8, aa, ay, he, hk, h⟩ := h
   refine ⟨ba, b5, b8, aa, ay, he, ?_⟩
   have a2 := hk.blk a2 (by simp)
   have a1 := hk.blk a1 (by simp)
   have a0 := hk.blk a0 (by simp)
   have a3 := hk.blk a3 (by simp)
   have ax := hk.blk ax (by simp)
   refine Q01 fun cv ak => ?_
   have ca := Blk.of_new ak
   have e5 := ((Ext.refl no ar)).size
   have bo := Nat.ne_of_lt a2.lt
   have a2 := a2.x_alloc ak
   have c0 := Nat.ne_of_lt a1.lt
   have a1 := a1.x_alloc ak
   have c4 := Nat.ne_of_lt a0.lt
   have a0 := a0.x_alloc ak
   have c3 := Nat.ne_of_lt a3.lt
   have a3 := a3.x_alloc ak
   have bu := Nat.ne_of_lt ax.lt
   have ax := ax.x_alloc ak
   have bz := (Ext.refl no ar).x_alloc ak
   refine Q0s (k := 0) (j := 0) ca (Nat.le_of_ble_eq_true rfl) fun b0 ao ci => ?_
   have bd := bz.x_puts ao (.inr e5)
   have a2 := a2.x_puts ao bo
   have a1 := a1.x_puts ao c0
   have a0 := a0.x_puts ao c4
   have a3 := a3.x_puts ao c3
   have ax := ax.x_puts ao bu
   have ca : Blk b0 ar.heap.size 68 [.slice ba b5 b8, .int .i64 aa] := ci
   refine bif_of (fun bi => ?_) (fun bi => ?_)
   ·have h := h.1 (bne_t bi)
    have h := h b0 bd
    exact h
   have h := h.2 (bne_f bi)
   refine bif_of (fun bh => ?_) (fun bh => ?_)
   ·have h := h.1 (bne_t bh)
    have h := h b0 bd
    exact h
   have h := h.2 (bne_f bh)
   rotate_left
   refine Q01 fun d1 bx => ?_
   have a3 := Blk.of_new bx
   have df := ((Ext.refl no bc)).size
   have bp := Nat.ne_of_lt a2.lt
   have a2 := a2.x_alloc bx
   have bn := Nat.ne_of_lt a1.lt
   have a1 := a1.x_alloc bx
   have bq := Nat.ne_of_lt a0.lt
   have a0 := a0.x_alloc bx
   have ch := (Ext.refl no bc).x_alloc bx
   refine ⟨⟨a1.celli 0 rfl rfl, a1.celli 1 rfl rfl, trivial⟩, (ch).cell d9 id, ?_⟩
   have h := h d1 [bc.heap.size] ch (Priv.cons df a3.lt Priv.nil)
   refine h.mono fun ek cg h => ?_
   obtain ⟨ad, aj, a5, a8, a4, a7, a6, ac, ae, ab, ap, bl, he, hkL, hk, h⟩ := h
   refine ⟨ad, aj, a5, a8, a4, a7, a6, ac, ae, ab, ap, bl, he, ?_⟩
   have a3 := hkL.blk a3 (by simp)
   have a2 := hk.blk a2 (by simp)
   have a1 := hk.blk a1 (by simp)
   have a0 := hk.blk a0 (by simp)
   refine Q0s (k := 0) (j := 0) a3 (Nat.le_of_ble_eq_true rfl) fun az bb cj => ?_
   have be := (Ext.refl (fun b => b ∈ ([bc.heap.size] : List Nat)) cg).x_puts bb (.inl (by simp))
   have a2 := a2.x_puts bb bp
   have a1 := a1.x_puts bb bn
   have a0 := a0.x_puts bb bq
   have a3 : Blk az bc.heap.size 77 [.int .i64 ad, .int .i64 aj, .int .u64 a5, .int .i64 a8, .slice a4 a7 a6, .slice ac ae ab] := cj
   unfold Q04.J4
   refine bif_of (fun bj => ?_) (fun bj => ?_)
   ·have h := h.1 (bne_t bj)
    have h := h az be
    exact h
   have h := h.2 (bne_f bj)
   unfold Q04.J3
   refine ⟨cc, cd, ce, au, ⟨a2.celli 0 rfl rfl, a2.celli 1 rfl rfl, trivial⟩, ?_⟩
   refine ⟨b1, bf, af, am, ag, ah, ai, b4, av, b2, ⟨a0.celli 0 rfl rfl, a0.celli 1 rfl rfl, a0.celli 2 rfl rfl, a0.celli 3 rfl rfl, a0.celli 4 rfl rfl, a0.celli 5 rfl rfl, trivial⟩, ?_⟩
   have h := h az (bc.heap.size) be (PrivJ.cons (.inl (by simp)) a3.lt PrivJ.nil)
   refine h.mono fun d7 al h => ?_
   obtain ⟨b7, b6, b9, a9, b3, he, hk, h⟩ := h
   refine ⟨b7, b6, b9, a9, b3, he, ?_⟩
   have a2 := hk.blk a2 (by simp)
   have a1 := hk.blk a1 (by simp)
   have a0 := hk.blk a0 (by simp)
   have a3 := hk.blk a3 (by simp)
   refine Q01 fun d4 an => ?_
   have ax := Blk.of_new an
   have cz := ((Ext.refl no al)).size
   have c1 := Nat.ne_of_lt a2.lt
   have a2 := a2.x_alloc an
   have bv := Nat.ne_of_lt a1.lt
   have a1 := a1.x_alloc an
   have br := Nat.ne_of_lt a0.lt
   have a0 := a0.x_alloc an
   have bw := Nat.ne_of_lt a3.lt
   have a3 := a3.x_alloc an
   have bs := (Ext.refl no al).x_alloc an
   refine Q0s (k := 0) (j := 0) ax (Nat.le_of_ble_eq_true rfl) fun bg aw cl => ?_
   have bt := bs.x_puts aw (.inr cz)
   have a2 := a2.x_puts aw c1
   have a1 := a1.x_puts aw bv
   have a0 := a0.x_puts aw br
   have a3 := a3.x_puts aw bw
   have ax : Blk bg al.heap.size 64 [.slice b7 b6 b9, .int .i64 a9] := cl
   refine ⟨c8, c7, c6, aq, ⟨a1.celli 0 rfl rfl, a1.celli 1 rfl rfl, trivial⟩, ?_⟩
   refine ⟨ad, aj, a5, a8, a4, a7, a6, ac, ae, ab, ⟨a3.celli 0 rfl rfl, a3.celli 1 rfl rfl, a3.celli 2 rfl rfl, a3.celli 3 rfl rfl, a3.celli 4 rfl rfl, a3.celli 5 rfl rfl, trivial⟩, ?_⟩
   have h := h bg (al.heap.size) bt (Priv.cons cz ax.lt Priv.nil)
   refine h.mono fun cx ar h => ?_
   obtain ⟨ba, b5, b8, aa, ay, he, hk, h⟩ := h
   refine ⟨ba, b5, b8, aa, ay, he, ?_⟩
   have a2 := hk.blk a2 (by simp)
   have a1 := hk.blk a1 (by simp)
   have a0 := hk.blk a0 (by simp)
   have a3 := hk.blk a3 (by simp)
   have ax := hk.blk ax (by simp)
   refine Q01 fun cv ak => ?_
   have ca := Blk.of_new ak
   have e5 := ((Ext.refl no ar)).size
   have bo := Nat.ne_of_lt a2.lt
   have a2 := a2.x_alloc ak
   have c0 := Nat.ne_of_lt a1.lt
   have a1 := a1.x_alloc ak
   have c4 := Nat.ne_of_lt a0.lt
   have a0 := a0.x_alloc ak
   have c3 := Nat.ne_of_lt a3.lt
   have a3 := a3.x_alloc ak
   have bu := Nat.ne_of_lt ax.lt
   have ax := ax.x_alloc ak
   have bz := (Ext.refl no ar).x_alloc ak
   refine Q0s (k := 0) (j := 0) ca (Nat.le_of_ble_eq_true rfl) fun b0 ao ci => ?_
   have bd := bz.x_puts ao (.inr e5)
   have a2 := a2.x_puts ao bo
   have a1 := a1.x_puts ao c0
   have a0 := a0.x_puts ao c4
   have a3 := a3.x_puts ao c3
   have ax := ax.x_puts ao bu
   have ca : Blk b0 ar.heap.size 68 [.slice ba b5 b8, .int .i64 aa] := ci
   refine bif_of (fun bi => ?_) (fun bi => ?_)
   ·have h := h.1 (bne_t bi)
    have h := h b0 bd
    exact h
   have h := h.2 (bne_f bi)
   refine bif_of (fun bh => ?_) (fun bh => ?_)
   ·have h := h.1 (bne_t bh)
    have h := h b0 bd
    exact h
   have h := h.2 (bne_f bh)
   rotate_left
  rotate_left 2
  all_goals
   unfold Q04.J2
   refine Q01 fun en ck => ?_
   have er := bd.x_drew ck
   have a2 := a2.x_drew ck
   have a1 := a1.x_drew ck
   have a0 := a0.x_drew ck
   have a3 := a3.x_drew ck
   have ax := ax.x_drew ck
   have ca := ca.x_drew ck
   refine ⟨b7, b6, b9, a9, ⟨ax.celli 0 rfl rfl, ax.celli 1 rfl rfl, trivial⟩, ?_⟩
   refine ⟨ba, b5, b8, aa, ⟨ca.celli 0 rfl rfl, ca.celli 1 rfl rfl, trivial⟩, ?_⟩
   have ei : Ext (fun b => b = cf.heap.size) ar en := (er).none
   refine Q0s (k := 0) (j := 0) a2 (Nat.le_of_ble_eq_true rfl) fun dh d2 fp => ?_
   have e7 := ei.x_puts d2 (.inl rfl)
   have a2 : Blk dh cf.heap.size 64 [.slice b7 b6 b9, .int .i64 a9] := fp
   have a1 := a1.x_puts d2 (Ne.symm cn)
   have a0 := a0.x_puts d2 (Ne.symm cm)
   have a3 := a3.x_puts d2 (Ne.symm bp)
   have ca := ca.x_puts d2 (Ne.symm bo)
   refine ⟨⟨ca.celli 0 rfl rfl, ca.celli 1 rfl rfl, trivial⟩, ?_⟩
   have ej : Ext (fun b => b = cu.heap.size ∨ b = cf.heap.size) ar dh := (e7).mono fun _ h _ => .inr h
   refine Q0s (k := 0) (j := 0) a1 (Nat.le_of_ble_eq_true rfl) fun eb de fw => ?_
   have ee := ej.x_puts de (.inl (.inl rfl))
   have a2 := a2.x_puts de cn
   have a1 : Blk eb cu.heap.size 68 [.slice ba b5 b8, .int .i64 aa] := fw
   have a0 := a0.x_puts de (Ne.symm co)
   have a3 := a3.x_puts de (Ne.symm bn)
   unfold Q04.J1
   refine Q01 fun ea d3 => ?_
   have e9 := ee.x_drew d3
   have a2 := a2.x_drew d3
   have a1 := a1.x_drew d3
   have a0 := a0.x_drew d3
   have a3 := a3.x_drew d3
   have h := h ea e9
   obtain ⟨fe, ew, h⟩ := h
   refine ⟨fe, ew, ?_⟩
   refine ⟨b1, bf, af, am, ag, ah, ai, b4, av, b2, ⟨a0.celli 0 rfl rfl, a0.celli 1 rfl rfl, a0.celli 2 rfl rfl, a0.celli 3 rfl rfl, a0.celli 4 rfl rfl, a0.celli 5 rfl rfl, trivial⟩, ?_⟩
   refine h.mono fun g4 ez h => ?_
   obtain ⟨d8, he, hk, h⟩ := h
   refine ⟨d8, he, ?_⟩
   have a2 := hk.blk a2 (by simp)
   have a1 := hk.blk a1 (by simp)
   have a0 := hk.blk a0 (by simp)
   have a3 := hk.blk a3 (by simp)
   refine Q01 fun el da => ?_
   have di := (Ext.refl no ez).x_drew da
   have a2 := a2.x_drew da
   have a1 := a1.x_drew da
   have a0 := a0.x_drew da
   have a3 := a3.x_drew da
   obtain ⟨f7, eo, h⟩ := h
   refine ⟨f7, (di).cell eo id, ?_⟩
   refine ⟨b1, bf, af, am, ag, ah, ai, b4, av, b2, ⟨a0.celli 0 rfl rfl, a0.celli 1 rfl rfl, a0.celli 2 rfl rfl, a0.celli 3 rfl rfl, a0.celli 4 rfl rfl, a0.celli 5 rfl rfl, trivial⟩, ?_⟩
   have h := h el di
   refine h.mono fun g9 f0 h => ?_
   obtain ⟨ct, he, hk, h⟩ := h
   refine ⟨ct, he, ?_⟩
   have a2 := hk.blk a2 (by simp)
   have a1 := hk.blk a1 (by simp)
   have a3 := hk.blk a3 (by simp)
   refine Q01 fun ev dc => ?_
   have cy := (Ext.refl no f0).x_drew dc
   have a2 := a2.x_drew dc
   have a1 := a1.x_drew dc
   have a3 := a3.x_drew dc
   obtain ⟨ff, em, h⟩ := h
   refine ⟨ff, (cy).cell em id, ?_⟩
   obtain ⟨fu, eq, h⟩ := h
   refine ⟨fu, (cy).cell eq id, ?_⟩
   refine ⟨ad, aj, a5, a8, a4, a7, a6, ac, ae, ab, ⟨a3.celli 0 rfl rfl, a3.celli 1 rfl rfl, a3.celli 2 rfl rfl, a3.celli 3 rfl rfl, a3.celli 4 rfl rfl, a3.celli 5 rfl rfl, trivial⟩, ?_⟩
   have h := h ev cy
   refine h.mono fun g6 g5 h => ?_
   obtain ⟨d0, he, hk, h⟩ := h
   refine ⟨d0, he, ?_⟩
   have a2 := hk.blk a2 (by simp)
   have a1 := hk.blk a1 (by simp)
   obtain ⟨gn, i8, h⟩ := h
   try rw [w64 gn i8]
   obtain ⟨f5, hk, h⟩ := h
   exact ⟨f5, hk, b7, b6, b9, a9, ba, b5, b8, aa, a2, a1, h⟩

theorem Q04.go (a0 : Option Addr) (a2 a1 : Nat) (a3 : Int) {R : RW} {w : World} (h : Q04.N a0 a2 a1 a3 R w) : Calls Tryz.prog 5 #[.slice a0 a2 a1, .int .i64 a3] w fun e w' => ∃ v, e = .returned v ∧ R v w' := Q04.ok a0 a2 a1 a3 (Q04.up a0 a2 a1 a3 h)
abbrev Q0B.J1 (bv : Int) (bp : Option Addr) (bu bs : Nat) (bd : Option Addr) (R : RW) (a8 : World) : Prop :=
 thenW (a8.alloc (.cells #[.int .i64 0, .int .i64 0, .int .u64 0, .int .i64 0, .int .i64 0, .int .i64 0, .slice none 0 0, .int .u64 0] 30)) fun bi =>
 putsK bi (blk a8.heap.size) [.int .i64 1, .int .i64 0, .int .u64 0, .int .i64 1, .int .i64 1, .int .i64 0, .slice bp bu bs, .int .u64 0] 0 fun bf =>
 thenW (bf.drew) fun b7 =>
 bd.elim False fun bo =>
 ∃ (bl : Option Addr), b7.cell? (bo.add 0) = some (.pointer bl) ∧
 bd.elim False fun bq =>
 ∃ (bj : Option Addr), b7.cell? (bq.add 2) = some (.pointer bj) ∧
 ∃ (a1 ad av b4 aw ae : Int) (aj : Option Addr) (a9 ak : Nat) (az : Int), cellsAt b7 (blk a8.heap.size) [.int .i64 a1, .int .i64 ad, .int .u64 av, .int .i64 b4, .int .i64 aw, .int .i64 ae, .slice aj a9 ak, .int .u64 az] 0 ∧
 Calls Tryz.prog 9 #[.pointer bl, .pointer bj, .agg #[.int .i64 a1, .int .i64 ad, .int .u64 av, .int .i64 b4, .int .i64 aw, .int .i64 ae, .slice aj a9 ak, .int .u64 az]] b7 fun be bc => ∃ (an : Option Addr) (al ag : Nat) (au : Int), be = .returned (.tuple #[.slice an al ag, .int .i64 au]) ∧
 Q0e bc (((blk a8.heap.size).add 1).add 0) ∧
 thenW (bc.setCell (((blk a8.heap.size).add 1).add 0) (.int .i64 1)) fun b9 =>
 Q0e b9 (((blk a8.heap.size).add 2).add 0) ∧
 thenW (b9.setCell (((blk a8.heap.size).add 2).add 0) (.int .u64 5)) fun bh =>
 thenW (bh.drew) fun b8 =>
 bd.elim False fun br =>
 ∃ (bm : Option Addr), b8.cell? (br.add 0) = some (.pointer bm) ∧
 bd.elim False fun bt =>
 ∃ (bk : Option Addr), b8.cell? (bt.add 2) = some (.pointer bk) ∧
 ∃ (a4 ac ap b3 ay ah : Int) (aa : Option Addr) (ab af : Nat) (ax : Int), cellsAt b8 (blk a8.heap.size) [.int .i64 a4, .int .i64 ac, .int .u64 ap, .int .i64 b3, .int .i64 ay, .int .i64 ah, .slice aa ab af, .int .u64 ax] 0 ∧
 Calls Tryz.prog 9 #[.pointer bm, .pointer bk, .agg #[.int .i64 a4, .int .i64 ac, .int .u64 ap, .int .i64 b3, .int .i64 ay, .int .i64 ah, .slice aa ab af, .int .u64 ax]] b8 fun bg ai => ∃ (b2 : Option Addr) (b0 b1 : Nat) (aq : Int), bg = .returned (.tuple #[.slice b2 b0 b1, .int .i64 aq]) ∧
 bif bv == 0 then (
 bif au == 0 then (
 ∃ (bn : ByteArray), (convert 25 9 (.slice an al ag)).run Tryz.prog ai = .ok (.string bn) ai ∧
 bif bn.toList == (ByteArray.mk #[120]).toList then (
 bif aq == 5 then (
 ∃ (a7 am ao b6 b5 a6 : Int) (a2 : Option Addr) (a5 a3 : Nat) (ar : Int), cellsAt ai (blk a8.heap.size) [.int .i64 a7, .int .i64 am, .int .u64 ao, .int .i64 b6, .int .i64 b5, .int .i64 a6, .slice a2 a5 a3, .int .u64 ar] 0 ∧
 Calls Tryz.prog 11 #[.agg #[.int .i64 a7, .int .i64 am, .int .u64 ao, .int .i64 b6, .int .i64 b5, .int .i64 a6, .slice a2 a5 a3, .int .u64 ar]] ai fun bb ba => ∃ (a0 : Int), bb = .returned (.int .i64 a0) ∧
 R (.bool (a0 == 0)) ba) else (
 R (.bool false) ai)) else (
 R (.bool false) ai)) else (
 R (.bool false) ai)) else (
 R (.bool false) ai)

abbrev Q0B.J2 (j6 : Option Addr) (R : RW) (ag : World) : Prop :=
 thenW (ag.drew) fun ab =>
 j6.elim False fun af =>
 ∃ (a9 : Option Addr), ab.cell? (af.add 0) = some (.pointer a9) ∧
 j6.elim False fun ad =>
 ∃ (aa : Option Addr), ab.cell? (ad.add 2) = some (.pointer aa) ∧
 thenW (ab.alloc (.cells #[.int .u8 120] 5)) fun a5 =>
 a5.cell? (ad.add 2) = some (.pointer aa) ∧
 a5.cell? (af.add 0) = some (.pointer a9) ∧
 ∃ (a7 : Option Addr) (a6 a8 : Nat) (a4 : World), (convert 25 25 (.slice (some (blk ab.heap.size)) 1 1)).run Tryz.prog a5 = .ok (.slice a7 a6 a8) a4 ∧
 a4.cell? (ad.add 2) = some (.pointer aa) ∧
 a4.cell? (af.add 0) = some (.pointer a9) ∧
 Calls Tryz.prog 6 #[.pointer a9, .pointer aa, .int .i64 1, .int .i64 0, .int .i64 0, .slice a7 a6 a8] a4 fun ac ae => ∃ (a1 : Option Addr) (a2 a0 : Nat) (a3 : Int), ac = .returned (.tuple #[.slice a1 a2 a0, .int .i64 a3]) ∧
 Q0B.J1 a3 a1 a2 a0 j6 R ae

def Q0B.M  (R : RW) (w : World) : Prop :=
 Calls Tryz.prog 5 #[.slice none 0 0, .int .i64 1] w fun a2 a1 => ∃ (a0 : Option Addr), a2 = .returned (.pointer a0) ∧
 bif Option.isNone a0 then (
 R (.bool false) a1) else (
 Q0B.J2 a0 R a1)

theorem Q0B.ok  {R : RW} {w : World} (h : Q0B.M  R w) : Calls Tryz.prog 4 #[] w fun e w' => ∃ v, e = .returned v ∧ R v w' :=
  Q0i follows (H := []) (args := []) (cast (by kernel_rfl) h)

def Q0B.N  (R : RW) (w : World) : Prop :=
 Calls Tryz.prog 5 #[.slice none 0 0, .int .i64 1] w fun b5 an => ∃ (a2 : Option Addr), b5 = .returned (.pointer a2) ∧
 (a2 = none →
 R (.bool false) an) ∧
 (a2 ≠ none →
 ∃ a6 : Addr, a2 = some a6 ∧
 ∃ (o8 : Option Addr), an.cell? (a6.add 0) = some (.pointer o8) ∧
 ∃ (au : Option Addr), an.cell? (a6.add 2) = some (.pointer au) ∧
 ∀ (ad : World) (ar : Nat), Ext no an ad → Blk ad ar 5 [.int .u8 120] → an.heap.size ≤ ar → ar < ad.heap.size →
 ad.cell? (a6.add 2) = some (.pointer au) ∧
 ad.cell? (a6.add 0) = some (.pointer o8) ∧
 ∃ (ap : Option Addr) (al am : Nat) (ak : World), (convert 25 25 (.slice (some (blk ar)) 1 1)).run Tryz.prog ad = .ok (.slice ap al am) ak ∧
 ak.cell? (a6.add 2) = some (.pointer au) ∧
 ak.cell? (a6.add 0) = some (.pointer o8) ∧
 Calls Tryz.prog 6 #[.pointer o8, .pointer au, .int .i64 1, .int .i64 0, .int .i64 0, .slice ap al am] ak fun av ai => ∃ (a0 : Option Addr) (a1 a3 : Nat) (a5 : Int), av = .returned (.tuple #[.slice a0 a1 a3, .int .i64 a5]) ∧
 ∃ (b3 : Option Addr), ai.cell? (a6.add 0) = some (.pointer b3) ∧
 ∃ (b2 : Option Addr), ai.cell? (a6.add 2) = some (.pointer b2) ∧
 ∀ (aj : World) (aq : Nat), Ext no ai aj → Priv ai aj [aq] →
 Calls Tryz.prog 9 #[.pointer b3, .pointer b2, .agg #[.int .i64 1, .int .i64 0, .int .u64 0, .int .i64 1, .int .i64 1, .int .i64 0, .slice a0 a1 a3, .int .u64 0]] aj fun ax ao => ∃ (a9 : Option Addr) (ab aa : Nat) (a4 : Int), ax = .returned (.tuple #[.slice a9 ab aa, .int .i64 a4]) ∧
 Keep [aq] aj ao ∧
 ∀ (ah : World), Ext (fun b => b = aq) ao ah →
 ∃ (b1 : Option Addr), ah.cell? (a6.add 0) = some (.pointer b1) ∧
 ∃ (b4 : Option Addr), ah.cell? (a6.add 2) = some (.pointer b4) ∧
 Calls Tryz.prog 9 #[.pointer b1, .pointer b4, .agg #[.int .i64 1, .int .i64 1, .int .u64 5, .int .i64 1, .int .i64 1, .int .i64 0, .slice a0 a1 a3, .int .u64 0]] ah fun ay ac => ∃ (af : Option Addr) (ag ae : Nat) (a7 : Int), ay = .returned (.tuple #[.slice af ag ae, .int .i64 a7]) ∧
 Keep [aq] ah ac ∧
 (a5 = 0 →
 (a4 = 0 →
 ∃ (aw : ByteArray), (convert 25 9 (.slice a9 ab aa)).run Tryz.prog ac = .ok (.string aw) ac ∧
 (aw.toList = (ByteArray.mk #[120]).toList →
 (a7 = 5 →
 Calls Tryz.prog 11 #[.agg #[.int .i64 1, .int .i64 1, .int .u64 5, .int .i64 1, .int .i64 1, .int .i64 0, .slice a0 a1 a3, .int .u64 0]] ac fun az b0 => ∃ (a8 : Int), az = .returned (.int .i64 a8) ∧
 R (.bool (a8 == 0)) b0) ∧
 (a7 ≠ 5 →
 R (.bool false) ac)) ∧
 (aw.toList ≠ (ByteArray.mk #[120]).toList →
 R (.bool false) ac)) ∧
 (a4 ≠ 0 →
 R (.bool false) ac)) ∧
 (a5 ≠ 0 →
 R (.bool false) ac))

theorem Q0B.up  {R : RW} {w : World} (h : Q0B.N  R w) : Q0B.M  R w := by
  unfold Q0B.M
  unfold Q0B.N at h
  refine h.mono fun c8 bx h => ?_
  obtain ⟨ad, he, h⟩ := h
  refine ⟨ad, he, ?_⟩
  refine bif_of (fun c4 => ?_) (fun c4 => ?_)
  ·have h := h.1 (Q1T c4)
   exact h
  have h := h.2 (Q1O c4)
  unfold Q0B.J2
  refine Q01 fun c0 e5 => ?_
  have ak := (Ext.refl no bx).x_drew e5
  obtain ⟨a6, aj, h⟩ := h
  refine Q05 aj ?_
  obtain ⟨o8, bu, h⟩ := h
  refine ⟨o8, (ak).cell bu id, ?_⟩
  refine Q05 aj ?_
  obtain ⟨c5, c2, h⟩ := h
  refine ⟨c5, (ak).cell c2 id, ?_⟩
  refine Q01 fun b5 b8 => ?_
  have h := h b5 c0.heap.size (ak.x_alloc b8) (Blk.of_new b8) (ak).size (Q0A b8)
  obtain ⟨al, an, h⟩ := h
  refine ⟨al, an, ?_⟩
  obtain ⟨b9, am, bg, bc, hr, h⟩ := h
  refine ⟨b9, am, bg, bc, hr, ?_⟩
  obtain ⟨b3, b6, h⟩ := h
  refine ⟨b3, b6, ?_⟩
  refine h.mono fun bn a4 h => ?_
  obtain ⟨a0, a1, a2, ag, he, h⟩ := h
  refine ⟨a0, a1, a2, ag, he, ?_⟩
  unfold Q0B.J1
  refine Q01 fun bw bj => ?_
  have a3 := Blk.of_new bj
  have bi := ((Ext.refl no a4)).size
  have bb := (Ext.refl no a4).x_alloc bj
  refine Q0s (k := 0) (j := 0) a3 (Nat.le_of_ble_eq_true rfl) fun b0 c3 bo => ?_
  have az := bb.x_puts c3 (.inr bi)
  have a3 : Blk b0 a4.heap.size 30 [.int .i64 1, .int .i64 0, .int .u64 0, .int .i64 1, .int .i64 1, .int .i64 0, .slice a0 a1 a2, .int .u64 0] := bo
  refine Q01 fun ay bm => ?_
  have ah := az.x_drew bm
  have a3 := a3.x_drew bm
  refine Q05 aj ?_
  obtain ⟨bt, au, h⟩ := h
  refine ⟨bt, (ah).cell au id, ?_⟩
  refine Q05 aj ?_
  obtain ⟨bs, ao, h⟩ := h
  refine ⟨bs, (ah).cell ao id, ?_⟩
  refine ⟨1, 0, 0, 1, 1, 0, a0, a1, a2, 0, ⟨a3.celli 0 rfl rfl, a3.celli 1 rfl rfl, a3.celli 2 rfl rfl, a3.celli 3 rfl rfl, a3.celli 4 rfl rfl, a3.celli 5 rfl rfl, a3.celli 6 rfl rfl, a3.celli 7 rfl rfl, trivial⟩, ?_⟩
  have h := h ay (a4.heap.size) ah (Priv.cons bi a3.lt Priv.nil)
  refine h.mono fun br ai h => ?_
  obtain ⟨a9, ac, ab, ae, he, hk, h⟩ := h
  refine ⟨a9, ac, ab, ae, he, ?_⟩
  have a3 := hk.blk a3 (by simp)
  have ax : Ext (fun b => b = a4.heap.size) ai ai := ((Ext.refl no ai)).none
  refine ⟨a3.cani 1 rfl rfl, Q01 fun aw bl => ?_⟩
  have b7 := ax.x_set (q := a4.heap.size) (i := 1) rfl (.inl rfl) bl
  have a3 : Blk aw a4.heap.size 30 [.int .i64 1, .int .i64 1, .int .u64 0, .int .i64 1, .int .i64 1, .int .i64 0, .slice a0 a1 a2, .int .u64 0] := a3.seti 1 rfl bl
  refine ⟨a3.cani 2 rfl rfl, Q01 fun b1 bh => ?_⟩
  have ba := b7.x_set (q := a4.heap.size) (i := 2) rfl (.inl rfl) bh
  have a3 : Blk b1 a4.heap.size 30 [.int .i64 1, .int .i64 1, .int .u64 5, .int .i64 1, .int .i64 1, .int .i64 0, .slice a0 a1 a2, .int .u64 0] := a3.seti 2 rfl bh
  refine Q01 fun bf bk => ?_
  have ap := ba.x_drew bk
  have a3 := a3.x_drew bk
  refine Q05 aj ?_
  have h := h bf ap
  obtain ⟨bp, bd, h⟩ := h
  refine ⟨bp, bd, ?_⟩
  refine Q05 aj ?_
  obtain ⟨c6, ar, h⟩ := h
  refine ⟨c6, ar, ?_⟩
  refine ⟨1, 1, 5, 1, 1, 0, a0, a1, a2, 0, ⟨a3.celli 0 rfl rfl, a3.celli 1 rfl rfl, a3.celli 2 rfl rfl, a3.celli 3 rfl rfl, a3.celli 4 rfl rfl, a3.celli 5 rfl rfl, a3.celli 6 rfl rfl, a3.celli 7 rfl rfl, trivial⟩, ?_⟩
  refine h.mono fun bv c7 h => ?_
  obtain ⟨a8, aa, a7, af, he, hk, h⟩ := h
  refine ⟨a8, aa, a7, af, he, ?_⟩
  have a3 := hk.blk a3 (by simp)
  refine bif_fo (fun be => ?_) (fun be => ?_)
  ·have h := h.2 (beq_f be)
   exact h
  have h := h.1 (beq_t be)
  refine bif_fo (fun aq => ?_) (fun aq => ?_)
  ·have h := h.2 (beq_f aq)
   exact h
  have h := h.1 (beq_t aq)
  obtain ⟨bq, av, h⟩ := h
  refine ⟨bq, av, ?_⟩
  refine bif_fo (fun b2 => ?_) (fun b2 => ?_)
  ·have h := h.2 (lbeq_f b2)
   exact h
  have h := h.1 (lbeq_t b2)
  refine bif_fo (fun b4 => ?_) (fun b4 => ?_)
  ·have h := h.2 (beq_f b4)
   exact h
  have h := h.1 (beq_t b4)
  refine ⟨1, 1, 5, 1, 1, 0, a0, a1, a2, 0, ⟨a3.celli 0 rfl rfl, a3.celli 1 rfl rfl, a3.celli 2 rfl rfl, a3.celli 3 rfl rfl, a3.celli 4 rfl rfl, a3.celli 5 rfl rfl, a3.celli 6 rfl rfl, a3.celli 7 rfl rfl, trivial⟩, ?_⟩
  refine h.mono fun bz c1 h => ?_
  obtain ⟨a5, he, h⟩ := h
  refine ⟨a5, he, ?_⟩
  exact h

theorem Q0B.go  {R : RW} {w : World} (h : Q0B.N  R w) : Calls Tryz.prog 4 #[] w fun e w' => ∃ v, e = .returned v ∧ R v w' := Q0B.ok  (Q0B.up  h)
set_option maxRecDepth 20000
structure RB where
  q : Nat
  k : Nat
  j : Nat
  a : Nat
  x : Nat
  b : Nat
  pub : Int
def RB.V (B : RB) : List Value := [.pointer (some (blk B.k)), .pointer (some (blk B.j)), .pointer (some (blk B.a)), .pointer (some (blk B.x)), .pointer (some (blk B.b)), .int .u64 B.pub]
structure RB.under (B : RB) (N : Nat) : Prop where
  q : B.q < N
  k : B.k < N
  j : B.j < N
  a : B.a < N
  x : B.x < N
  b : B.b < N
structure RB.over (B : RB) (N : Nat) : Prop where
  q : N ≤ B.q
  k : N ≤ B.k
  j : N ≤ B.j
  a : N ≤ B.a
  x : N ≤ B.x
  b : N ≤ B.b
structure RmG (w : World) (o : Own) (B : RB) (S T : OS) (n : Nat) (Ra Rx Rb : Rng) : Prop where
  bk : Blk w B.q 42 B.V
  tg : o B.q = some B.q
  orc : POrc w o B.k S
  rof : Rof w o B.j T n
  a : EG w o B.a B.k Ra
  x : EG w o B.x B.k Rx
  b : MG w o B.b Rb
  ne : Ra.who ≠ Rx.who
section
variable {w w' w1 w2 : World} {o o' o1 : Own} {q k p N m n i : Nat} {K : Nat → Prop} {B : RB} {S T : OS} {Ra Rx Rb : Rng}
theorem blkSet {t : TypeId} {cs : List Value} (hb : Blk w q t cs) (tg : o q = some q) (ok : Tags w o) {v : Value} {ad : Addr} (ha : ad = ⟨q, i, none⟩) (e : w' = w.setCell ad v) :
    Step (fun j => j = q) w o w' (grow w o) ∧ Blk w' q t (cs.set i v) ∧ grow w o q = some q := by
  have X3 : Ext (fun b => b = q) w w' := (Ext.refl (fun b => b = q) w).x_set (q := q) (i := i) ha (.inl rfl) e
  have s3 : Step (fun j => j = q) w o w' (grow w o) := Step.of_ext X3 ok fun b hb _ => by subst hb; exact tg
  exact ⟨s3, hb.seti i ha e, by rw [s3.own hb.lt]; exact tg⟩
theorem RmG.under (h : RmG w o B S T n Ra Rx Rb) : B.under w.heap.size := ⟨h.bk.lt, h.orc.lt, h.rof.lt, h.a.lt, h.x.lt, h.b.lt⟩
theorem RmG.step (h : RmG w o B S T n Ra Rx Rb) (s : Step K w o w' o') (hq : ¬ K B.q) (hk : ¬ K B.k) (hj : ¬ K B.j) (ha : ¬ K B.a) (hx : ¬ K B.x) (hb : ¬ K B.b) : RmG w' o' B S T n Ra Rx Rb :=
  ⟨s.blk h.bk h.tg hq, by rw [s.own h.bk.lt]; exact h.tg, h.orc.step s hk, h.rof.step s hj, h.a.step s ha, h.x.step s hx, h.b.step s hb, h.ne⟩
theorem RmG.no (h : RmG w o B S T n Ra Rx Rb) (s : Step no w o w' o') : RmG w' o' B S T n Ra Rx Rb := h.step s id id id id id id
theorem RmG.far (h : RmG w o B S T n Ra Rx Rb) (u : B.under N) (s : Step K w o w' o') (hk : ∀ j, K j → N ≤ j) : RmG w' o' B S T n Ra Rx Rb := by
  obtain ⟨u1, u2, u3, u4, u5, u6⟩ := u
  exact h.step s (fun e => by have := hk _ e; omega) (fun e => by have := hk _ e; omega) (fun e => by have := hk _ e; omega) (fun e => by have := hk _ e; omega) (fun e => by have := hk _ e; omega) (fun e => by have := hk _ e; omega)
theorem RmG.ne_q (h : RmG w o B S T n Ra Rx Rb) : B.q ≠ B.k ∧ B.q ≠ B.j ∧ B.q ≠ B.a ∧ B.q ≠ B.x ∧ B.q ≠ B.b := by
  obtain ⟨_, b1⟩ := h.orc.typ
  obtain ⟨_, b2⟩ := h.rof.typ
  obtain ⟨_, b3⟩ := h.a.typ
  obtain ⟨_, b4⟩ := h.x.typ
  obtain ⟨_, b5⟩ := h.b.typ
  exact ⟨Blk.apart h.bk b1 (by decide), Blk.apart h.bk b2 (by decide), Blk.apart h.bk b3 (by decide), Blk.apart h.bk b4 (by decide), Blk.apart h.bk b5 (by decide)⟩
theorem RmG.ne_o (h : RmG w o B S T n Ra Rx Rb) : B.k ≠ B.j ∧ B.k ≠ B.a ∧ B.k ≠ B.x ∧ B.k ≠ B.b ∧ B.j ≠ B.a ∧ B.j ≠ B.x ∧ B.j ≠ B.b := by
  obtain ⟨_, b1⟩ := h.orc.typ
  obtain ⟨_, b2⟩ := h.rof.typ
  obtain ⟨_, b3⟩ := h.a.typ
  obtain ⟨_, b4⟩ := h.x.typ
  obtain ⟨_, b5⟩ := h.b.typ
  exact ⟨Blk.apart b1 b2 (by decide), Blk.apart b1 b3 (by decide), Blk.apart b1 b4 (by decide), Blk.apart b1 b5 (by decide), Blk.apart b2 b3 (by decide), Blk.apart b2 b4 (by decide), Blk.apart b2 b5 (by decide)⟩
theorem RmG.ne_r (h : RmG w o B S T n Ra Rx Rb) : B.a ≠ B.x ∧ B.a ≠ B.b ∧ B.x ≠ B.b := by
  obtain ⟨_, b3⟩ := h.a.typ
  obtain ⟨_, b4⟩ := h.x.typ
  obtain ⟨_, b5⟩ := h.b.typ
  exact ⟨h.a.diff h.x h.ne, Blk.apart b3 b5 (by decide), Blk.apart b4 b5 (by decide)⟩
theorem RmG.toOrc (h : RmG w o B S T n Ra Rx Rb) (s : Step (fun j => j = B.k) w o w' o') {S' : OS} (hP : POrc w' o' B.k S') : RmG w' o' B S' T n Ra Rx Rb := by
  obtain ⟨q1, _⟩ := h.ne_q
  obtain ⟨o1, o2, o3, o4, _⟩ := h.ne_o
  exact ⟨s.blk h.bk h.tg q1, by rw [s.own h.bk.lt]; exact h.tg, hP, h.rof.step s o1.symm, h.a.step s o2.symm, h.x.step s o3.symm, h.b.step s o4.symm, h.ne⟩
theorem RmG.toRof (h : RmG w o B S T n Ra Rx Rb) (s : Step (fun j => j = B.j) w o w' o') {T' : OS} {n' : Nat} (hP : Rof w' o' B.j T' n') : RmG w' o' B S T' n' Ra Rx Rb := by
  obtain ⟨_, q1, _⟩ := h.ne_q
  obtain ⟨o1, _, _, _, o2, o3, o4⟩ := h.ne_o
  exact ⟨s.blk h.bk h.tg q1, by rw [s.own h.bk.lt]; exact h.tg, h.orc.step s o1, hP, h.a.step s o2.symm, h.x.step s o3.symm, h.b.step s o4.symm, h.ne⟩
theorem RmG.toA (h : RmG w o B S T n Ra Rx Rb) (s : Step (fun j => j = B.a) w o w' o') {R : Rng} (hP : EG w' o' B.a B.k R) (hw : R.who = Ra.who) : RmG w' o' B S T n R Rx Rb := by
  obtain ⟨_, _, q1, _⟩ := h.ne_q
  obtain ⟨_, o1, _, _, o2, _⟩ := h.ne_o
  obtain ⟨r1, r2, _⟩ := h.ne_r
  exact ⟨s.blk h.bk h.tg q1, by rw [s.own h.bk.lt]; exact h.tg, h.orc.step s o1, h.rof.step s o2, hP, h.x.step s r1.symm, h.b.step s r2.symm, by rw [hw]; exact h.ne⟩
theorem RmG.toX (h : RmG w o B S T n Ra Rx Rb) (s : Step (fun j => j = B.x) w o w' o') {R : Rng} (hP : EG w' o' B.x B.k R) (hw : R.who = Rx.who) : RmG w' o' B S T n Ra R Rb := by
  obtain ⟨_, _, _, q1, _⟩ := h.ne_q
  obtain ⟨_, _, o1, _, _, o2, _⟩ := h.ne_o
  obtain ⟨r1, _, r2⟩ := h.ne_r
  exact ⟨s.blk h.bk h.tg q1, by rw [s.own h.bk.lt]; exact h.tg, h.orc.step s o1, h.rof.step s o2, h.a.step s r1, hP, h.b.step s r2.symm, by rw [hw]; exact h.ne⟩
theorem RmG.toB (h : RmG w o B S T n Ra Rx Rb) (s : Step (fun j => j = B.b) w o w' o') {R : Rng} (hP : MG w' o' B.b R) : RmG w' o' B S T n Ra Rx R := by
  obtain ⟨_, _, _, _, q1⟩ := h.ne_q
  obtain ⟨_, _, _, o1, _, _, o2⟩ := h.ne_o
  obtain ⟨_, r1, r2⟩ := h.ne_r
  exact ⟨s.blk h.bk h.tg q1, by rw [s.own h.bk.lt]; exact h.tg, h.orc.step s o1, h.rof.step s o2, h.a.step s r1, h.x.step s r2, hP, h.ne⟩
end
def roomK (d : List Int) : Nat → OS × MS × Int × List Int
  | 0 => ((pairOf (pairOf (OS.init d)).2).2, newM (pairOf (OS.init d)).1.2, 0, [])
  | t + 1 => ((beginK (roomK d t).1 (roomK d t).2.1 (roomK d t).2.2.1).2.2, ⟨(roomK d t).2.1.ml, (roomK d t).2.1.ep + 1⟩, (beginK (roomK d t).1 (roomK d t).2.1 (roomK d t).2.2.1).2.1, (roomK d t).2.2.2 ++ [(beginK (roomK d t).1 (roomK d t).2.1 (roomK d t).2.2.1).2.1])
structure RI (d : List Int) (t : Nat) (X : WD) (S : OS) (R : Nat → Rng) (K : List Int) (O : List (List UInt8)) : Prop where
  pi : PI X S R K O
  len : K.length = t
  a : (R 0).keys = K
  x : (R 1).keys = List.replicate t 0
  ml : X.sm.ml = (newM (X.pub 0)).ml
  us : S.used.length ≤ 4 + 10 * t
  det : roomK d t = (S, X.sm, X.last, K)
theorem outk {X : WD} {S : OS} {R : Nat → Rng} {K : List Int} {O : List (List UInt8)} (h : PI X S R K O) (hl : S.used.length < 10000000) (hep : X.sm.ep + 1 < 20) {i : Nat} (hi : i < 4) (hm : ∀ m ∈ nowM X.sm.ml, m.who ≠ i) :
    (learnK (beginK S X.sm X.last).2.2 (R i) (beginK S X.sm X.last).1).1.keys = (R i).keys ++ [0] := by
  have B := h.begin hl
  obtain ⟨r1, r2, r3, m, hm', r4⟩ := h.ring i hi
  have hkl : (R i).keys.length = K.length := by rw [r4, Q1Y]
  have ht := B.other (R := R i) (by rw [r1]; exact hm)
  unfold learnK
  rw [if_neg (by rw [B.kd, B.right]; simp), if_neg (by have := h.ep; omega), ht, hkl, r3, r4]
  dsimp only
  rw [Q5D K m hm' (beginK S X.sm X.last).2.1]
  cases hK : K.length with
  | zero => rfl
  | succ e =>
    unfold backK
    rw [if_neg]
    rintro ⟨⟨h1, _⟩, _⟩
    rw [mkK_get (by simp; omega), if_neg (by omega)] at h1
    exact h1 rfl
theorem RI.next {d : List Int} {t : Nat} {X : WD} {S : OS} {R : Nat → Rng} {K : List Int} {O : List (List UInt8)} (h : RI d t X S R K O) (ht : t < 4) (hold : (beginK S X.sm X.last).1.old.length < 1000000) :
    RI d (t + 1) { X with last := (beginK S X.sm X.last).2.1, sm := ⟨X.sm.ml, X.sm.ep + 1⟩, tm := ⟨X.sm.ml, X.sm.ep + 1⟩ } (beginK S X.sm X.last).2.2 (fun i => (learnK (beginK S X.sm X.last).2.2 (R i) (beginK S X.sm X.last).1).1) (K ++ [(beginK S X.sm X.last).2.1]) (O ++ [(beginK S X.sm X.last).1.old]) := by
  have hus := h.us
  have hl : S.used.length < 10000000 := by omega
  have hep : X.sm.ep + 1 < 20 := by have := h.pi.ep; have := h.len; omega
  have B := h.pi.begin hl
  have hnow : nowM X.sm.ml = [⟨0, X.pub 0, 0, -1, 0⟩] := by rw [h.ml]; rfl
  refine ⟨h.pi.next hl hold hep fun i _ => rfl, by simp [h.len], ?_, ?_, h.ml, by have := B.len; omega, ?_⟩
  · show (learnK _ (R 0) _).1.keys = _
    rw [h.pi.in_ hl hold hep (i := 0) (by decide) ⟨_, by rw [hnow]; exact List.mem_singleton.2 rfl, rfl⟩]
  · show (learnK _ (R 1) _).1.keys = _
    rw [outk h.pi hl hep (i := 1) (by decide) (fun m hm => by rw [hnow] at hm; rw [List.mem_singleton.1 hm]; show (0 : Int) ≠ ((1 : Nat) : Int); decide), h.x, ← List.replicate_succ']
  · show ((beginK (roomK d t).1 (roomK d t).2.1 (roomK d t).2.2.1).2.2, (⟨(roomK d t).2.1.ml, (roomK d t).2.1.ep + 1⟩ : MS), (beginK (roomK d t).1 (roomK d t).2.1 (roomK d t).2.2.1).2.1, (roomK d t).2.2.2 ++ [(beginK (roomK d t).1 (roomK d t).2.1 (roomK d t).2.2.1).2.1]) = _
    rw [h.det]
theorem RI.zero (d : List Int) (h : OInv (OS.init d)) (k j : Nat) : ∃ X R, RI d 0 X (pairOf (pairOf (OS.init d)).2).2 R [] [] ∧ X.last = 0 ∧ X.sm = newM (pairOf (OS.init d)).1.2 ∧ R 0 = ⟨0, (pairOf (OS.init d)).1.1, [], []⟩ ∧ R 1 = ⟨1, (pairOf (pairOf (OS.init d)).2).1.1, [], []⟩ := by
  obtain ⟨p1, p2, p3, p4, p5, p6, _⟩ := Q2u h
  obtain ⟨q1, q2, q3, q4, q5, q6, _⟩ := Q2u p1
  have hs : (pairOf (pairOf (OS.init d)).2).2.sealed = [] := by rw [Q3h, Q3h]; rfl
  have hw : (pairOf (pairOf (OS.init d)).2).2.wrapped = [] := by rw [Q37, Q37]; rfl
  have hu : (pairOf (pairOf (OS.init d)).2).2.used.length ≤ 4 := by
    have a := (Q2M h.ok).2
    have b := (Q2M p1.ok).2
    have c : (OS.init d).used.length = 0 := rfl
    omega
  refine ⟨⟨k, j, fun i => if i = 0 then (pairOf (OS.init d)).1.2 else (pairOf (pairOf (OS.init d)).2).1.2, fun _ => none, fun _ => none, newM (pairOf (OS.init d)).1.2, newM (pairOf (OS.init d)).1.2, fun i => if i = 0 then (pairOf (OS.init d)).1.1 else (pairOf (pairOf (OS.init d)).2).1.1, 0⟩,
    fun i => ⟨i, if i = 0 then (pairOf (OS.init d)).1.1 else (pairOf (pairOf (OS.init d)).2).1.1, [], []⟩, ⟨⟨⟨q1, fun x s e => (by rw [hs] at e; cases e), fun x s e => (by rw [hw] at e; cases e), fun x s e => (by rw [hs] at e; cases e)⟩, fun i hi => ?_, rfl, newM_ok _, fun m hm => ?_, fun m hm => ?_, ⟨_, List.mem_singleton.2 rfl, rfl, rfl⟩, rfl, ⟨rfl, fun x hx => (by cases hx), fun e he => absurd he (by simp), fun b hb => (by cases hb)⟩, rfl, fun i hi => ⟨rfl, rfl, rfl, 0, Nat.le_refl _, rfl⟩⟩, rfl, rfl, rfl, rfl, by omega, rfl⟩, rfl, rfl, rfl, rfl⟩
  · by_cases h0 : i = 0
    · show alook _ (if i = 0 then _ else _) = some (if i = 0 then _ else _)
      rw [if_pos h0, if_pos h0]; exact q2.publics _ _ p3
    · show alook _ (if i = 0 then _ else _) = some (if i = 0 then _ else _)
      rw [if_neg h0, if_neg h0]; exact q3
  · simp [newM] at hm
    exact ⟨0, by omega, by rw [hm]; rfl, by rw [hm]; rfl⟩
  · simp [newM] at hm
    rw [hm]; show (0 : Int) ≤ -1 + 1; decide
def RoomR (d : List Int) (w0 : World) (o0 : Own) (many a : Nat) (w : World) (o : Own) : Prop :=
  ∃ (B : RB) (X : WD) (S : OS) (R : Nat → Rng) (K : List Int) (O : List (List UInt8)), B.q = a ∧ Step no w0 o0 w o ∧ RmG w o B S S (4 + 10 * many) (R 0) (R 1) (R 0) ∧ RI d many X S R K O ∧ B.over w0.heap.size
def NRI (d : List Int) (w0 : World) (o0 : Own) (B : RB) (p1 p2 many m : Nat) (vs : List Value) (w : World) : Prop :=
  ∃ (t : Nat) (X : WD) (S : OS) (R : Nat → Rng) (K : List Int) (O : List (List UInt8)) (o : Own) (sa : Option Addr) (sc : Nat) (ta : Option Addr) (tc : Nat),
    vs = [.int .u64 X.last, .int .i64 t, .slice sa X.sm.ml.length sc, .int .i64 X.sm.ep, .slice ta X.sm.ml.length tc, .int .i64 X.sm.ep] ∧ m + t = many ∧ Step no w0 o0 w o ∧ RmG w o B S S (4 + 10 * t) (R 0) (R 1) (R 0) ∧ RI d t X S R K O ∧
    Row w o sa (X.sm.ml.flatMap Mem.C) ∧ Row w o ta (X.sm.ml.flatMap Mem.C) ∧ X.sm.ml.length ≤ tc ∧ Mine [p1, p2] w o
section
variable {w w' : World} {o o' : Own} {many : Nat}
theorem Q38 (ok : Tags w o) {da : Option Addr} {dc : Nat} {d : List Int} (hd : Row w o da (d.map u64V)) (hc : d.length ≤ dc) (hr : ∀ x ∈ d, 0 ≤ x ∧ x < 18446744073709551616) (hl : d.length ≤ 1000) (hm : many ≤ 4) :
    Calls Tryz.prog 5 #[.slice da d.length dc, .int .i64 many] w (fun x w' => ∃ a o', x = .returned (.pointer (some (blk a))) ∧ RoomR d w o many a w' o') := by
  refine (Q04.go da d.length dc many (R := fun v w' => ∃ a o', v = .pointer (some (blk a)) ∧ RoomR d w o many a w' o') ?_).mono fun x w' ⟨v, he, a, o', hv, h⟩ => ⟨a, o', by rw [he, hv], h⟩
  unfold Q04.N
  refine (NewO ok hd.1 (by omega)).mono fun x w5 ⟨k, o5, he, hk, s5, P5⟩ => ⟨_, he, fun w6 j X6 b6 hj hj' => ?_⟩
  obtain ⟨o6, s6, Q6⟩ := Rof.init X6 b6 hj hj' s5.ok (hd.step s5) hc hr
  intro w8 q X8 b8 hq hq'
  have s8 : Step no w6 o6 w8 (tag (grow w6 o6) q q) := (Step.of_no X8 s6.ok).tag hq hq'
  have t8 : tag (grow w6 o6) q q q = some q := Q1E
  have P8 := (P5.step s6 id).step s8 id
  have Q8 := Q6.step s8 id
  have z5 := s5.size
  have z6 := s6.size
  have z8 := s8.size
  have S8 := (s5.trans s6).trans s8
  generalize tag (grow w6 o6) q q = o8 at *
  have hin := Q8.inv
  obtain ⟨p1, p2, p3, p4, p5, p6, _⟩ := Q2u hin
  obtain ⟨_, bk⟩ := P8.typ
  obtain ⟨_, bj⟩ := Q8.typ
  have hqk : q ≠ k := Blk.apart b8 bk (by decide)
  have hqj : q ≠ j := Blk.apart b8 bj (by decide)
  have hkj : k ≠ j := Blk.apart bk bj (by decide)
  have hun := Q8.len
  refine ⟨_, b8.celli 0 rfl rfl, (PairO P8 s8.ok hin.ok (by omega)).mono fun x w15 ⟨o15, he, s15, P15⟩ => ⟨_, _, he, ?_⟩⟩
  have b15 := s15.blk b8 t8 hqk
  have t15 : o15 q = some q := by rw [s15.own b8.lt]; exact t8
  have Q15 := Q8.step s15 hkj.symm
  have ul1 := (Q2M hin.ok).2
  refine ⟨_, b15.celli 0 rfl rfl, (PairO P15 s15.ok p1.ok (by omega)).mono fun x w21 ⟨o21, he, s21, P21⟩ => ⟨_, _, he, ?_⟩⟩
  have b21 := s21.blk b15 t15 hqk
  have t21 : o21 q = some q := by rw [s21.own b15.lt]; exact t15
  have Q21 := Q15.step s21 hkj.symm
  refine ⟨_, b21.celli 1 rfl rfl, (Q21.pair (by omega)).mono fun x w27 ⟨o27, he, s27, Q27⟩ => ⟨_, _, he, ?_⟩⟩
  have b27 := s27.blk b21 t21 hqj
  have t27 : o27 q = some q := by rw [s27.own b21.lt]; exact t21
  have P27 := P21.step s27 hkj
  refine ⟨_, b27.celli 1 rfl rfl, (Q27.pair (by omega)).mono fun x w33 ⟨o33, he, s33, Q33⟩ => ⟨_, _, he, ?_⟩⟩
  have b33 := s33.blk b27 t27 hqj
  have t33 : o33 q = some q := by rw [s33.own b27.lt]; exact t27
  have P33 := P27.step s33 hkj
  refine ⟨b33.cani 5 rfl rfl, Q01 fun w34 e34 => ?_⟩
  obtain ⟨s34, b34, t34⟩ := blkSet b33 t33 s33.ok (i := 5) rfl e34
  have P34 := P33.step s34 hqk.symm
  have Q34 := Q33.step s34 hqj.symm
  have S34 : Step no w o w34 _ := ((((S8.trans' s15 fun a ha => .inr (by rw [ha]; exact hk)).trans' s21 fun a ha => .inr (by rw [ha]; exact hk)).trans' s27 fun a ha => .inr (by rw [ha]; omega)).trans' s33 fun a ha => .inr (by rw [ha]; omega)).trans' s34 fun a ha => .inr (by rw [ha]; omega)
  generalize grow w33 o33 = o34 at *
  obtain ⟨X0, R0, I0, hlast, hsm, hR0, hR1⟩ := RI.zero d hin k j
  have z34 := S34.size
  refine ⟨_, b34.celli 0 rfl rfl, (Q3s s34.ok (by omega) (by omega) k).mono fun x w40 ⟨ra, o40, he, hra, s40, E40⟩ => ⟨_, _, he, ?_⟩⟩
  have b40 := s40.blk b34 t34 id
  have t40 : o40 q = some q := by rw [s40.own b34.lt]; exact t34
  have z40 := s40.size
  refine ⟨_, b40.celli 0 rfl rfl, (Q3s s40.ok (by omega) (by omega) k).mono fun x w46 ⟨rx, o46, he, hrx, s46, F46⟩ => ⟨_, _, he, fun h => absurd rfl h, fun _ => ⟨fun h => absurd rfl h, fun _ => ⟨fun h => (by cases h), fun _ => ?_⟩⟩⟩⟩
  have b46 := s46.blk b40 t40 id
  have t46 : o46 q = some q := by rw [s46.own b40.lt]; exact t40
  have z46 := s46.size
  have E46 := E40.step s46 id
  have P46 := (P34.step s40 id).step s46 id
  have Q46 := (Q34.step s40 id).step s46 id
  obtain ⟨_, ba⟩ := E46.typ
  obtain ⟨_, bx⟩ := F46.typ
  have hqa : q ≠ ra := Blk.apart b46 ba (by decide)
  have hqx : q ≠ rx := Blk.apart b46 bx (by decide)
  refine ⟨b46.cani 2 rfl rfl, Q01 fun w50 e50 => ?_⟩
  obtain ⟨s50, b50, t50⟩ := blkSet b46 t46 s46.ok (i := 2) rfl e50
  refine ⟨b50.cani 3 rfl rfl, Q01 fun w51 e51 => ?_⟩
  obtain ⟨s51, b51, t51⟩ := blkSet b50 t50 s50.ok (i := 3) rfl e51
  intro w52 rb X52 b52' hrb hrb'
  obtain ⟨s52, M52⟩ := MG.init s51.ok X52 b52' hrb hrb'
  have b52 := s52.blk b51 t51 id
  have t52 := (s52.own b51.lt).trans t51
  refine ⟨b52.cani 4 rfl rfl, Q01 fun w54 e54 => ?_⟩
  obtain ⟨s54, b54, t54⟩ := blkSet b52 t52 s52.ok (i := 4) rfl e54
  have hqb : rb ≠ q := by
    obtain ⟨_, bb⟩ := M52.typ
    exact (Blk.apart b52 bb (by decide)).symm
  have z50 := s50.size
  have z51 := s51.size
  have z52 := s52.size
  have S54 : Step no w o w54 _ := (((((S34.trans s40).trans s46).trans' s50 fun a ha => .inr (by rw [ha]; omega)).trans' s51 fun a ha => .inr (by rw [ha]; omega)).trans s52).trans' s54 fun a ha => .inr (by rw [ha]; omega)
  have G54 : RmG w54 _ ⟨q, k, j, ra, rx, rb, (pairOf (OS.init d)).1.2⟩ _ _ 4 (R0 0) (R0 1) (R0 0) :=
    ⟨b54, t54, (((P46.step s50 hqk.symm).step s51 hqk.symm).step s52 id).step s54 hqk.symm, (((Q46.step s50 hqj.symm).step s51 hqj.symm).step s52 id).step s54 hqj.symm,
      by rw [hR0]; exact (((E46.step s50 hqa.symm).step s51 hqa.symm).step s52 id).step s54 hqa.symm, by rw [hR1]; exact (((F46.step s50 hqx.symm).step s51 hqx.symm).step s52 id).step s54 hqx.symm, by rw [hR0]; exact M52.step s54 hqb, by rw [hR0, hR1]; show (0 : Int) ≠ 1; decide⟩
  obtain ⟨B, hB⟩ : ∃ B : RB, (⟨q, k, j, ra, rx, rb, (pairOf (OS.init d)).1.2⟩ : RB) = B := ⟨_, rfl⟩
  have hBq : q = B.q := by rw [← hB]
  have hov : B.over w.heap.size := by rw [← hB]; exact ⟨by show w.heap.size ≤ q; omega, by show w.heap.size ≤ k; omega, by show w.heap.size ≤ j; omega, by show w.heap.size ≤ ra; omega, by show w.heap.size ≤ rx; omega, by show w.heap.size ≤ rb; omega⟩
  rw [hB] at G54
  generalize grow w52 _ = o54 at *
  clear E46 F46 P46 Q46 M52 b54 t54 b52 t52 b51 t51 b50 t50 P34 Q34 E40 b46 b40 b34 b33 b27 b21 b15 b8 P5 P8 Q6 Q8 P15 Q15 P21 Q21 P27 Q27 P33 Q33
  refine (Q6r s54.ok _).mono fun x w58 ⟨o58, sa0, sc0, he, s58, r58, hc58⟩ => ⟨_, _, _, _, he, ?_⟩
  refine (Q6n s58.ok _).mono fun x w62 ⟨o62, ta0, tc0, he, s62, r62, hc62⟩ => ⟨_, _, _, _, he, fun w66 q1 q2 X66 hp66 => ?_⟩
  obtain ⟨s66, M66⟩ := Step.priv X66 hp66 s62.ok
  have G66 := ((G54.no s58).no s62).no s66
  have S66 := ((S54.trans s58).trans s62).trans s66
  have u : B.under w62.heap.size := ((G54.no s58).no s62).under
  have hq1 := (hp66 q1 (by simp)).1
  have hq2 := (hp66 q2 (by simp)).1
  have z66 := s66.size
  have ha66 : w62.heap.size ≤ w66.heap.size := z66
  obtain ⟨N, hN⟩ : ∃ N, w62.heap.size = N := ⟨_, rfl⟩
  have hwN : w.heap.size ≤ w62.heap.size := ((S54.trans s58).trans s62).size
  rw [hN] at u hq1 hq2 ha66 hwN
  refine ⟨NRI d w o B q1 q2 many, many, ⟨0, X0, _, R0, [], [], _, sa0, sc0, ta0, tc0, by rw [hlast, hsm]; rfl, rfl, S66, G66, I0, by rw [hsm]; exact (r58.step s62).step s66, by rw [hsm]; exact r62.step s66, by rw [hsm]; exact hc62, M66⟩, ?_⟩
  clear G66 I0 M66 s66 X66 hp66 s62 s58 G54
  rintro m w77 last n L71a L71n L71c ep72 L73a L73n L73c ep74 ⟨t, X, S, R, K, O, o77, sa, sc, ta, tc, hv, hmt, s77, A77, I, hsr, htr, htc, M77⟩
  cases hv
  have ok77 := s77.ok
  have N77 : N ≤ w77.heap.size := by have := (M77 q1 (by simp)).1; omega
  refine ⟨fun ht => ?_, fun ht => ?_⟩
  · have ht : t < many := by omega
    have P := I.pi
    have hus := I.us
    have hul : S.used.length < 10000000 := by omega
    have BB := P.begin hul
    have hlr := P.last_rng
    have hepX : X.sm.ep = (t : Int) - 1 := by have := P.ep; have := I.len; omega
    have happ : applyM X.sm (beginK S X.sm X.last).1 = (⟨X.sm.ml, X.sm.ep + 1⟩, 0) := by rw [BB.app, if_neg (by omega)]
    have hkN := u.k
    have hjN := u.j
    have haN := u.a
    have hxN := u.x
    have hbN := u.b
    have far1 : ∀ p ∈ [q1, q2], N ≤ p := fun p hp => by
      simp only [List.mem_cons, List.not_mem_nil, or_false] at hp
      rcases hp with rfl | rfl <;> assumption
    refine ⟨_, A77.bk.celli 0 (by rw [hBq]; rfl) rfl, fun w83 L82 X83 hp83 => ?_⟩
    obtain ⟨s83, M83⟩ := Step.priv X83 hp83 ok77
    have A83 := A77.no s83
    have hL : ∀ i, i ∈ L82 → N ≤ i := fun i hi => by have := (hp83 i hi).1; omega
    refine (Q5L (s := X.sm) (last := X.last) A83.orc s83.ok P.ki.inv.ok (by omega) (hsr.step s83) P.ok hlr.1 hlr.2 P.known P.ne).mono fun x w93 ⟨o93, wa, wc, oa, oc, ws, he, s93, P93, C93, hwc, hoc⟩ => ⟨_, _, _, _, _, _, _, _, _, _, _, _, he, M83.keep s93 (fun p hp e => by have := hL p hp; omega), (M77.step s83).keep s93 (fun p hp e => by have := far1 p hp; omega), fun w163 p97 X163 hp163 => ?_⟩
    have A93 := A83.toOrc s93 P93
    obtain ⟨s163, M163⟩ := Step.join X163 s93.ok (M83.step s93) hp163
    have A163 := A93.far u s163 hL
    have z83 := s83.size
    have z93 := s93.size
    have z163 := s163.size
    have h97 : N ≤ p97 := by
      rcases (hp163 p97 (by simp)).1 with h | h
      · exact hL _ h
      · omega
    refine ⟨_, A163.bk.celli 1 (by rw [hBq]; rfl) rfl, fun w101 L100 X101 hp101 => ?_⟩
    obtain ⟨s101, M101⟩ := Step.priv X101 hp101 s163.ok
    have A101 := A163.no s101
    have hL100 : ∀ i, i ∈ L100 → N ≤ i := fun i hi => by have := (hp101 i hi).1; omega
    have M101b : Mine [q1, q2, p97] w101 _ := fun p hp => by
      rcases List.mem_cons.1 hp with rfl | hp
      · exact ((((M77.step s83).step s93).step s163).step s101) _ (by simp)
      · rcases List.mem_cons.1 hp with rfl | hp
        · exact ((((M77.step s83).step s93).step s163).step s101) _ (by simp)
        · exact (M163.step s101) _ hp
    have far3 : ∀ p ∈ [q1, q2, p97], N ≤ p := fun p hp => by
      simp only [List.mem_cons, List.not_mem_nil, or_false] at hp
      rcases hp with rfl | rfl | rfl <;> assumption
    have tr101 := (((htr.step s83).step s93).step s163).step s101
    refine (Q57 (s := X.sm) (last := X.last) A101.rof P.ki.inv.ok (by omega) tr101 P.ok hlr.1 hlr.2 P.known P.ne).mono fun x w111 ⟨o111, wa2, wc2, oa2, oc2, ws2, he, s111, Q111, C111, hwc2, hoc2⟩ => ⟨_, _, _, _, _, _, _, _, _, _, _, _, he, M101.keep s111 (fun p hp e => by have := hL100 p hp; omega), M101b.keep s111 (fun p hp e => by have := far3 p hp; omega), fun h => absurd rfl h, fun _ w162 p117 X162 hp162 => ?_⟩
    have A111 := A101.toRof s111 Q111
    obtain ⟨s162, M162⟩ := Step.join X162 s111.ok (M101.step s111) hp162
    have A162 := A111.far u s162 hL100
    have z101 := s101.size
    have z111 := s111.size
    have z162 := s162.size
    have h117 : N ≤ p117 := by
      rcases (hp162 p117 (by simp)).1 with h | h
      · exact hL100 _ h
      · omega
    have C162 := (((C93.step s163).step s101).step s111).step s162
    have D162 := C111.step s162
    have sr162 := (((((hsr.step s83).step s93).step s163).step s101).step s111).step s162
    have tr162 := (tr101.step s111).step s162
    have M162b : Mine [q1, q2, p97, p117] w162 _ := fun p hp => by
      rcases List.mem_cons.1 hp with rfl | hp
      · exact ((M101b.step s111).step s162) _ (by simp)
      · rcases List.mem_cons.1 hp with rfl | hp
        · exact ((M101b.step s111).step s162) _ (by simp)
        · rcases List.mem_cons.1 hp with rfl | hp
          · exact ((M101b.step s111).step s162) _ (by simp)
          · exact M162 _ hp
    have far4 : ∀ p ∈ [q1, q2, p97, p117], N ≤ p := fun p hp => by
      simp only [List.mem_cons, List.not_mem_nil, or_false] at hp
      rcases hp with rfl | rfl | rfl | rfl <;> assumption
    have S162 : Step no w o w162 _ := ((((((s77.trans s83).trans' s93 fun a ha => .inr (by rw [ha]; exact hov.k)).trans' s163 fun a ha => .inr (by have := hL a ha; omega)).trans s101).trans' s111 fun a ha => .inr (by rw [ha]; exact hov.j)).trans' s162 fun a ha => .inr (by have := hL100 a ha; omega))
    clear A93 A83 A101 A111 A163 M101 M101b M163 M83 P93 Q111 C93 C111 tr101 s163 s101 s111 s93 s83
    refine (Q61 (s := X.sm) (cg := (beginK S X.sm X.last).1) sr162 s162.ok P.ok C162.ws C162.m C162.n C162.ol).mono fun x w122 ⟨o122, a122, c122, he, s122, r122, hc122⟩ => ?_
    rw [happ] at he r122 hc122
    refine ⟨_, _, _, _, _, he, M162b.keep s122 (fun _ _ => id), fun w124 p125 X124 hp124 => ?_⟩
    obtain ⟨s124, M124⟩ := Step.priv X124 hp124 s122.ok
    have C124 := (C162.step s122).step s124
    have D124 := (D162.step s122).step s124
    have M124b : Mine [q1, q2, p97, p117, p125] w124 _ := fun p hp => by
      rcases List.mem_cons.1 hp with rfl | hp
      · exact ((M162b.step s122).step s124) _ (by simp)
      · rcases List.mem_cons.1 hp with rfl | hp
        · exact ((M162b.step s122).step s124) _ (by simp)
        · rcases List.mem_cons.1 hp with rfl | hp
          · exact ((M162b.step s122).step s124) _ (by simp)
          · rcases List.mem_cons.1 hp with rfl | hp
            · exact ((M162b.step s122).step s124) _ (by simp)
            · exact M124 _ hp
    refine (Q55 (s := X.sm) (cg := (beginK S X.sm X.last).1) ((tr162.step s122).step s124) s124.ok P.ok htc D124.ws D124.m D124.n D124.ol).mono fun x w130 ⟨o130, a130, c130, he, s130, r130, hc130⟩ => ?_
    rw [happ] at he r130 hc130
    refine ⟨_, _, _, _, _, he, M124b.keep s130 (fun _ _ => id), fun h => absurd rfl h, fun _ => ⟨fun h => absurd rfl h, fun _ w140 X140 => ?_⟩⟩
    have M130 := (M162b.step s122).step s124 |>.step s130
    have s140 : Step (fun i => i ∈ [q1, q2]) w130 _ w140 _ := Step.stores X140 s130.ok (M130.sub (M := [q1, q2]) (by simp)) (fun b hb => by rcases hb with rfl | rfl <;> simp)
    have M140 := M130.step s140
    have A140 := (((A162.no s122).no s124).no s130).far u s140 far1
    have S140 := (((S162.trans s122).trans s124).trans s130).trans' s140 fun a ha => .inr (by have := far1 a ha; omega)
    have C140 := (C124.step s130).step s140
    have D140 := (D124.step s130).step s140
    have sr140 := ((r122.step s124).step s130).step s140
    have tr140 := r130.step s140
    have hlen : ∀ i, i < 4 → (R i).keys.length = (R i).olds.length ∧ (R i).keys.length = t ∧ ∀ b ∈ (R i).olds, b.length < 1000000 := fun i hi => by
      obtain ⟨_, _, r3, m', _, r4⟩ := P.ring i hi
      have h1 := I.len
      rw [r3, r4, Q1Y, P.ch.len]
      exact ⟨rfl, h1, P.ch.short⟩
    obtain ⟨l01, l02, l03⟩ := hlen 0 (by decide)
    obtain ⟨l11, l12, l13⟩ := hlen 1 (by decide)
    have hnz : ∀ x ∈ (R 0).keys, x ≠ 0 := fun x hx => by have := P.ch.nz x (by rw [← I.a]; exact hx); omega
    obtain ⟨_, ka, kx, kb, _, _, jb⟩ := A140.ne_o
    have hold : (beginK S X.sm X.last).1.old.length < 1000000 := C140.ol
    have w0 : ∀ i, i < 4 → (learnK (beginK S X.sm X.last).2.2 (R i) (beginK S X.sm X.last).1).1.who = (R i).who := fun i hi => by
      have e1 := (P.next hul hold (by omega) (R' := fun i => (learnK (beginK S X.sm X.last).2.2 (R i) (beginK S X.sm X.last).1).1) fun _ _ => rfl).ring i hi
      exact e1.1.trans (P.ring i hi).1.symm
    refine ⟨_, A140.bk.celli 2 (by rw [hBq]; rfl) rfl, (Q3T A140.a A140.orc s140.ok ka.symm BB.ki.sh l01 (by omega) l03 C140).mono fun x w146 ⟨he, o146, s146, E146⟩ => ⟨_, he, M140.keep s146 (fun p hp e => by have := far4 p hp; omega), ?_⟩⟩
    have A146 := A140.toA s146 E146 (w0 0 (by decide))
    refine ⟨_, A146.bk.celli 3 (by rw [hBq]; rfl) rfl, fun w147 X147 => ?_⟩
    have s147 := Step.of_no X147 s146.ok
    have A147 := A146.no s147
    have C147 := (C140.step s146).step s147
    have M147 := ((M140.step s146).step s147).sub (M := [q1, q2, p117]) (by simp)
    refine (Q3T A147.x A147.orc s147.ok kx.symm BB.ki.sh l11 (by omega) l13 C147).mono fun x w152 ⟨he, o152, s152, E152⟩ => ⟨_, he, M147.keep s152 (fun p hp e => by have := far4 p (by simp only [List.mem_cons, List.not_mem_nil, or_false] at hp ⊢; rcases hp with h | h | h <;> simp [h]); omega), ?_⟩
    have A152 := A147.toX s152 E152 (w0 1 (by decide))
    refine ⟨_, A152.bk.celli 4 (by rw [hBq]; rfl) rfl, _, A152.bk.celli 1 (by rw [hBq]; rfl) rfl, fun w153 X153 => ?_⟩
    have s153 := Step.of_no X153 s152.ok
    have A153 := A152.no s153
    have D153 := (((D140.step s146).step s147).step s152).step s153
    have M153 := (M147.step s152).step s153 |>.sub (M := [q1, q2]) (by simp)
    refine (Q5g A153.b A153.rof (by omega) jb.symm l01 (by omega) hnz D153 hoc2).mono fun x w160 ⟨he, o160, s160, E160⟩ => ⟨_, he, M153.keep s160 (fun p hp e => by have := far1 p hp; omega), by omega, by omega, many - (t + 1), by omega, ?_⟩
    have A160 := A153.toB s160 E160
    have S160 := ((((S140.trans' s146 fun a ha => .inr (by rw [ha]; exact hov.a)).trans s147).trans' s152 fun a ha => .inr (by rw [ha]; exact hov.x)).trans s153).trans' s160 fun a ha => .inr (by rw [ha]; exact hov.b)
    have sr160 := ((((sr140.step s146).step s147).step s152).step s153).step s160
    have tr160 := ((((tr140.step s146).step s147).step s152).step s153).step s160
    exact ⟨t + 1, { X with last := (beginK S X.sm X.last).2.1, sm := ⟨X.sm.ml, X.sm.ep + 1⟩, tm := ⟨X.sm.ml, X.sm.ep + 1⟩ }, _, fun i => (learnK (beginK S X.sm X.last).2.2 (R i) (beginK S X.sm X.last).1).1, _, _, o160, a122, c122, a130, c130, rfl, by omega, S160, by rw [show 4 + 10 * (t + 1) = 4 + 10 * t + 10 by omega]; exact A160, I.next (by omega) hold, sr160, tr160, hc130, M153.step s160⟩
  · have ht : t = many := by omega
    subst ht
    exact ⟨q, o77, rfl, B, X, S, R, K, O, hBq.symm, s77, A77, I, hov⟩
end
open W (OwnB)
def placeOK (w i e : Int) : Bool := decide (0 ≤ w ∧ w < 8 ∧ 0 ≤ i ∧ i < 200 ∧ 0 ≤ e ∧ e < 20)
theorem placeF (w i e : Int) : Q0f.F w i e = placeOK w i e := by
  unfold Q0f.F placeOK
  by_cases h1 : w ≥ 0
  · rw [if_pos h1]
    by_cases h2 : w < 8
    · rw [if_pos h2]
      by_cases h3 : i ≥ 0
      · rw [if_pos h3]
        by_cases h4 : i < 200
        · rw [if_pos h4]
          by_cases h5 : e ≥ 0
          · rw [if_pos h5, decide_eq_decide]; omega
          · rw [if_neg h5, eq_comm, decide_eq_false_iff_not]; omega
        · rw [if_neg h4, eq_comm, decide_eq_false_iff_not]; omega
      · rw [if_neg h3, eq_comm, decide_eq_false_iff_not]; omega
    · rw [if_neg h2, eq_comm, decide_eq_false_iff_not]; omega
  · rw [if_neg h1, eq_comm, decide_eq_false_iff_not]; omega
def sealP (S : OS) (R : Rng) (w i e : Int) (p : List UInt8) : (List UInt8 × Int) × OS :=
  if placeOK w i e = true then (if (keyK R e).2 ≠ 0 then (([], (keyK R e).2), S) else sealOf S (keyK R e).1 (boundL w i e) p) else (([], 1), S)
def openP (S : OS) (R : Rng) (e : Ent) : List UInt8 × Int :=
  if Q2c e = true then (if e.ep < 0 then ([], 10) else if (keyK R e.ep).2 ≠ 0 then ([], (keyK R e.ep).2) else openOf S (keyK R e.ep).1 (boundL e.w e.i e.ep) e.body) else ([], 1)
theorem Q3P (x y z : Int) : (boundL x y z).length ≤ 30 := by
  have g1 := W.numL_le x.toNat
  have g2 := W.numL_le y.toNat
  have g3 := W.numL_le (W.zig z)
  unfold boundL; simp only [List.length_append]; omega
section
variable {w w' : World} {o o' : Own} {q k : Nat} {S : OS} {R : Rng} {pa : Option Addr} {pc : Nat} {p : List UInt8} {wv iv ev : Int}
theorem useSeal (h : EG w o q k R) (hP : POrc w o k S) (ok : Tags w o) (hS : S.ok) (hlen : S.used.length < 1000000) (hr : placeOK wv iv ev = true) (hp : Row w o pa (bytesV p)) (hpl : p.length ≤ 1000000) :
    Calls Tryz.prog 28 #[.agg #[.int .i64 wv, .int .i64 iv, .int .i64 ev], .func (.func 29) #[.pointer (some (blk k))] #[], .pointer (some (blk q)), .slice pa p.length pc] w (Gb (fun j => j = k) w o (sealP S R wv iv ev p).1 fun w' o' => POrc w' o' k (sealP S R wv iv ev p).2) := by
  refine (Q0P.go _ _ _ _ _ _ _ _ _ _ (R := fun v w' => ∃ o' a' c', v = .tuple #[.slice a' (sealP S R wv iv ev p).1.1.length c', .int .i64 (sealP S R wv iv ev p).1.2] ∧ Step (fun j => j = k) w o w' o' ∧ Row w' o' a' (bytesV (sealP S R wv iv ev p).1.1) ∧ (sealP S R wv iv ev p).1.1.length ≤ c' ∧ POrc w' o' k (sealP S R wv iv ev p).2) ?_).mono fun e w' ⟨v, he, o', a', c', hv, hw⟩ => ⟨o', a', c', by rw [he, hv], hw⟩
  have hr' : 0 ≤ wv ∧ wv < 8 ∧ 0 ≤ iv ∧ iv < 200 ∧ 0 ≤ ev ∧ ev < 20 := of_decide_eq_true hr
  unfold Q0P.N
  intro w7 p8 X7 hp8
  obtain ⟨s7, M7⟩ := Step.priv X7 hp8 ok
  refine (Q4R (h.step s7 id) ev).mono fun x w12 ⟨he, hw⟩ => ⟨_, _, he, (by rw [hw]; exact Keep.refl _ _), fun hk => ?_, fun hk => ?_⟩
  · subst hw
    have e1 : sealP S R wv iv ev p = (([], (keyK R ev).2), S) := by unfold sealP; rw [if_pos hr, if_pos hk]
    rw [e1]
    exact ⟨_, none, 0, rfl, s7.none, Row.nil _ _ _, Nat.le_refl _, hP.step s7 id⟩
  · subst hw
    have e1 : sealP S R wv iv ev p = sealOf S (keyK R ev).1 (boundL wv iv ev) p := by unfold sealP; rw [if_pos hr, if_neg (fun h => h hk)]
    rw [e1]
    refine (Q41 (x := wv) (y := iv) (z := ev) (by omega) (by omega) (by omega) (by omega)).mono fun x w16 ⟨ba, bc, he, hO, X16⟩ => ⟨_, _, _, he, by kernel_rfl, ?_⟩
    have s16 := Step.of_no X16 s7.ok
    have rb : Row w16 (grow w12 (tags w o [p8])) ba (bytesV (boundL wv iv ev)) := Q1D hO X16
    have hbl := Q3P wv iv ev
    refine (SealO ((hP.step s7 id).step s16 id) s16.ok hS hlen (keyK R ev).1 (bc := bc) (pc := pc) rb ((hp.step s7).step s16) (by omega) hpl).mono fun e w20 ⟨o20, a', c', he, s20, hrow, hc, hP'⟩ => ⟨_, _, _, _, he, o20, a', c', rfl, (s7.trans s16).none.trans s20, hrow, hc, hP'⟩
theorem Q42 (h : EG w o q k R) (hP : POrc w o k S) (ok : Tags w o) (hS : S.ok) (hlen : S.used.length < 1000000) (wv iv ev : Int) (hp : Row w o pa (bytesV p)) (hpl : p.length ≤ 1000000) :
    Calls Tryz.prog 6 #[.pointer (some (blk k)), .pointer (some (blk q)), .int .i64 wv, .int .i64 iv, .int .i64 ev, .slice pa p.length pc] w (Gb (fun j => j = k) w o (sealP S R wv iv ev p).1 fun w' o' => POrc w' o' k (sealP S R wv iv ev p).2) := by
  refine (Q1k.go _ _ _ _ _ _ _ _ (R := fun v w' => ∃ o' a' c', v = .tuple #[.slice a' (sealP S R wv iv ev p).1.1.length c', .int .i64 (sealP S R wv iv ev p).1.2] ∧ Step (fun j => j = k) w o w' o' ∧ Row w' o' a' (bytesV (sealP S R wv iv ev p).1.1) ∧ (sealP S R wv iv ev p).1.1.length ≤ c' ∧ POrc w' o' k (sealP S R wv iv ev p).2) ?_).mono fun e w' ⟨v, he, o', a', c', hv, hw⟩ => ⟨o', a', c', by rw [he, hv], hw⟩
  unfold Q1k.N
  rw [placeF]
  refine ⟨fun hf w9 X9 => ?_, fun hr w9 X9 => ?_⟩
  · have e1 : sealP S R wv iv ev p = (([], 1), S) := by unfold sealP; rw [hf]; rfl
    rw [e1]
    have s9 := Step.of_no X9 ok
    exact ⟨_, none, 0, rfl, s9.none, Row.nil _ _ _, Nat.le_refl _, hP.step s9 id⟩
  · have s9 := Step.of_no X9 ok
    exact (useSeal (h.step s9 id) (hP.step s9 id) s9.ok hS hlen hr (hp.step s9) hpl).mono fun e w20 ⟨o20, a', c', he, s20, hrow, hc, hP'⟩ => ⟨_, _, _, _, he, o20, a', c', rfl, s9.none.trans s20, hrow, hc, hP'⟩
theorem useOpen {e : Ent} (h : EG w o q k R) (hP : POrc w o k S) (ok : Tags w o) (hr : placeOK e.w e.i e.ep = true) (hS : Short S) {ea : Option Addr} {ec : Nat} (he : Row w o ea (bytesV e.body)) (hel : e.body.length < 1000000) (hec : e.body.length ≤ ec) :
    Calls Tryz.prog 28 #[.agg #[.int .i64 e.w, .int .i64 e.i, .int .i64 e.ep], .func (.func 34) #[.pointer (some (blk k))] #[], .pointer (some (blk q)), .slice ea e.body.length ec] w
      (Gb no w o (if (keyK R e.ep).2 ≠ 0 then ([], (keyK R e.ep).2) else openOf S (keyK R e.ep).1 (boundL e.w e.i e.ep) e.body) fun _ _ => True) := by
  obtain ⟨r, hr0⟩ : ∃ r, (if (keyK R e.ep).2 ≠ 0 then ([], (keyK R e.ep).2) else openOf S (keyK R e.ep).1 (boundL e.w e.i e.ep) e.body) = r := ⟨_, rfl⟩
  rw [hr0]
  refine (Q0P.go _ _ _ _ _ _ _ _ _ _ (R := fun v w' => ∃ o' a' c', v = .tuple #[.slice a' r.1.length c', .int .i64 r.2] ∧ Step no w o w' o' ∧ Row w' o' a' (bytesV r.1) ∧ r.1.length ≤ c' ∧ True) ?_).mono fun e w' ⟨v, he, o', a', c', hv, hw⟩ => ⟨o', a', c', by rw [he, hv], hw⟩
  have hr' : 0 ≤ e.w ∧ e.w < 8 ∧ 0 ≤ e.i ∧ e.i < 200 ∧ 0 ≤ e.ep ∧ e.ep < 20 := of_decide_eq_true hr
  unfold Q0P.N
  intro w7 p8 X7 hp8
  obtain ⟨s7, M7⟩ := Step.priv X7 hp8 ok
  refine (Q4R (h.step s7 id) e.ep).mono fun x w12 ⟨hx, hw⟩ => ⟨_, _, hx, (by rw [hw]; exact Keep.refl _ _), fun hk => ?_, fun hk => ?_⟩
  · subst hw
    rw [if_pos hk] at hr0
    subst hr0
    exact ⟨_, none, 0, rfl, s7, Row.nil _ _ _, Nat.le_refl _, trivial⟩
  · subst hw
    rw [if_neg (fun h => h hk)] at hr0
    refine (Q41 (x := e.w) (y := e.i) (z := e.ep) (by omega) (by omega) (by omega) (by omega)).mono fun x w16 ⟨ba, bc, hx, hO, X16⟩ => ⟨_, _, _, hx, by kernel_rfl, ?_⟩
    have s16 := Step.of_no X16 s7.ok
    have rb : Row w16 (grow w12 (tags w o [p8])) ba (bytesV (boundL e.w e.i e.ep)) := Q1D hO X16
    have hop := OpenO ((hP.step s7 id).step s16 id) s16.ok (keyK R e.ep).1 (bc := bc) (xc := ec) rb.1 ((he.step s7).step s16).1 hel hec (fun s hs => hS _ s hs)
    rw [hr0] at hop
    exact hop.mono fun x w20 ⟨o20, a', c', hx, s20, hrow, hc, _⟩ => ⟨_, _, _, _, hx, o20, a', c', rfl, (s7.trans s16).trans s20, hrow, hc, trivial⟩
theorem Q2U {e : Ent} (h : EG w o q k R) (hP : POrc w o k S) (ok : Tags w o) (hS : Short S) {ea : Option Addr} {ec : Nat} (he : Row w o ea (bytesV e.body)) (hel : e.body.length < 1000000) (hec : e.body.length ≤ ec) :
    Calls Tryz.prog 9 #[.pointer (some (blk k)), .pointer (some (blk q)), entV e ea ec] w (Gb no w o (openP S R e) fun _ _ => True) := by
  refine (Q1j.go _ _ _ _ _ _ _ _ _ _ _ _ (R := fun v w' => ∃ o' a' c', v = .tuple #[.slice a' (openP S R e).1.length c', .int .i64 (openP S R e).2] ∧ Step no w o w' o' ∧ Row w' o' a' (bytesV (openP S R e).1) ∧ (openP S R e).1.length ≤ c' ∧ True) ?_).mono fun x w' ⟨v, he, o', a', c', hv, hw⟩ => ⟨o', a', c', by rw [he, hv], hw⟩
  unfold Q1j.N
  rw [Q5N]
  refine ⟨fun hf w9 X9 => ?_, fun hr => ⟨fun hneg w9 X9 => ?_, fun hpos w9 X9 => ?_⟩⟩
  · have e1 : openP S R e = ([], 1) := by unfold openP; rw [hf]; rfl
    rw [e1]
    exact ⟨_, none, 0, rfl, Step.of_no X9 ok, Row.nil _ _ _, Nat.le_refl _, trivial⟩
  · have e1 : openP S R e = ([], 10) := by unfold openP; rw [if_pos hr, if_pos hneg]
    rw [e1]
    exact ⟨_, none, 0, rfl, Step.of_no X9 ok, Row.nil _ _ _, Nat.le_refl _, trivial⟩
  · have e1 : openP S R e = (if (keyK R e.ep).2 ≠ 0 then ([], (keyK R e.ep).2) else openOf S (keyK R e.ep).1 (boundL e.w e.i e.ep) e.body) := by unfold openP; rw [if_pos hr, if_neg (by omega)]
    have s9 := Step.of_no X9 ok
    have hr2 := (Q2Z e).1 hr
    have hpl : placeOK e.w e.i e.ep = true := decide_eq_true (by omega)
    rw [e1]
    exact (useOpen (h.step s9 id) (hP.step s9 id) s9.ok hpl hS (he.step s9) hel hec).mono fun x w20 ⟨o20, a', c', hx, s20, hrow, hc, _⟩ => ⟨_, _, _, _, hx, o20, a', c', rfl, s9.trans s20, hrow, hc, trivial⟩
end
def classG (n : Nat) : Nat → Nat → Int
  | 0, t => -1
  | k + 1, t => if n = 8 + sizeN t then (t : Int) else classG n k (t + 1)
def classS (n : Nat) : Int := classG n 7 0
section
variable {w w' : World} {o o' : Own}
theorem Q2z (e : Ent) (ea : Option Addr) (ec : Nat) (w : World) : Calls Tryz.prog 11 #[entV e ea ec] w (Ret (.int .i64 (classS e.body.length)) fun w' => Ext no w w') := by
  refine (Q1d.go _ _ _ _ _ _ _ _ _ _ (R := fun v w' => v = .int .i64 (classS e.body.length) ∧ Ext no w w') ?_).mono fun x w' ⟨v, he, hv, hw⟩ => ⟨by rw [he, hv], hw⟩
  unfold Q1d.N
  intro w10 p11 X10 hp
  have hc : Q0t.F = 7 := rfl
  rw [hc]
  refine ⟨fun m vs w1 => ∃ t : Nat, vs = [.int .i64 t] ∧ m + t = 7 ∧ classS e.body.length = classG e.body.length m t ∧ Ext no w w1, 7, ⟨0, rfl, rfl, rfl, X10⟩, ?_⟩
  rintro m w15 i ⟨t, hv, hm, hcl, X15⟩
  cases hv
  refine ⟨fun ht w17 X17 => ?_, fun ht => ?_⟩
  · obtain ⟨m, rfl⟩ : ∃ k, m = k + 1 := ⟨m - 1, by omega⟩
    have hs := Q1B (t : Int)
    refine (Q2I (t : Int)).mono fun x w20 ⟨he, hw⟩ => ⟨_, he, (by rw [hw]; exact Keep.refl _ _), by omega, by omega, fun heq => ?_, fun hne => ⟨by omega, by omega, m, by omega, t + 1, rfl, by omega, ?_, by rw [hw]; exact X15.trans X17⟩⟩
    · have : e.body.length = 8 + sizeN (t : Int) := by omega
      refine ⟨?_, by rw [hw]; exact X15.trans X17⟩
      rw [hcl]; unfold classG; rw [if_pos this]
    · rw [hcl]; show (if _ then _ else _) = _; rw [if_neg (by omega)]
  · have : m = 0 := by omega
    subst this
    exact ⟨by rw [hcl]; rfl, X15⟩
theorem Q3X (w : World) : Calls Tryz.prog 13 #[] w (Ret (.int .i64 1022) fun w' => Ext no w w') := by
  refine (Q1i.go (R := fun v w' => v = .int .i64 1022 ∧ Ext no w w') ?_).mono fun x w' ⟨v, he, hv, hw⟩ => ⟨by rw [he, hv], hw⟩
  unfold Q1i.N
  have hc : Q0t.F = 7 := rfl
  rw [hc]
  refine ⟨by omega, by omega, fun w1 X1 => ?_⟩
  refine (Q1m.go 6 (R := fun v w' => v = .int .i64 1022 ∧ w' = w1) ?_).mono fun x w' ⟨v, he, hv, hw⟩ => ⟨1022, by rw [he, hv], rfl, by rw [hw]; exact X1⟩
  unfold Q1m.N
  exact (Q4T (t := 6) (by decide)).mono fun x w' ⟨he, hw⟩ => ⟨1022, by rw [he]; rfl, rfl, hw⟩
end
open W (OwnB)
theorem Q6b {S : OS} (h : S.ok) (s : MS) (last : Int) : (beginK S s last).2.1 ∈ (beginK S s last).2.2.keys := by
  have ok1 := (Q4q h).1
  have kin := key_in S
  have f := Q1U (keyOf S).1 (nowM s.ml) (keyOf S).2 ok1
  have hk : (keyOf S).1 ∈ (wrapsL (keyOf S).2 (keyOf S).1 (nowM s.ml)).1.keys := by rw [f.2.1]; exact kin
  unfold beginK
  split
  · show (keyOf S).1 ∈ (sealOf _ _ _ _).2.keys
    unfold sealOf
    rw [if_pos hk]
    split
    · exact hk
    · show _ ∈ (freshOf _).2.keys
      rw [(Q0W _).2.1]; exact hk
  · exact hk
section
variable {S : OS} {R : Rng} {w i e : Int} {p : List UInt8}
theorem Q6J (h : KI S) (hl : S.used.length < 100000000) (hk : (sealP S R w i e p).1.2 = 0) :
    placeOK w i e = true ∧ (keyK R e).2 = 0 ∧ 0 ≤ classOf p.length ∧ (sealP S R w i e p).1.1.length = 8 + sizeN (classOf p.length) ∧ alook (sealP S R w i e p).2.sealed (handL (sealP S R w i e p).1.1) = some ⟨(keyK R e).1, boundL w i e, p⟩ := by
  unfold sealP at hk ⊢
  by_cases h1 : placeOK w i e = true
  · rw [if_pos h1] at hk ⊢
    by_cases h2 : (keyK R e).2 ≠ 0
    · rw [if_pos h2] at hk; exact absurd hk h2
    · rw [if_neg h2] at hk ⊢
      unfold sealOf at hk ⊢
      by_cases h3 : (keyK R e).1 ∈ S.keys
      · rw [if_pos h3] at hk ⊢
        by_cases h4 : classOf p.length < 0
        · rw [if_pos h4] at hk; cases hk
        · rw [if_neg h4] at hk ⊢
          obtain ⟨f1, f2, f3, f4, f5⟩ := Q1L h.inv
          have hsz := Q2s h.inv.ok
          have hfit := f1.fit (by omega) f4
          refine ⟨h1, by omega, by omega, by rw [Q1c], ?_⟩
          show alook (aput S.sealed (freshOf S).1 _) ((handL (boxL (freshOf S).1.toNat _) : Nat) : Int) = _
          rw [Q2K (by omega), Q1u, if_pos (by omega)]
      · rw [if_neg h3] at hk; cases hk
  · rw [if_neg h1] at hk; cases hk
theorem Q3B (h : KI S) (hp : p.length ≤ 1000000) : Short (sealP S R w i e p).2 := by
  unfold sealP
  split
  · split
    · exact h.sh
    · unfold sealOf
      split
      · split
        · exact h.sh
        · intro x s hs
          have hs : alook (aput S.sealed (freshOf S).1 _) x = some s := hs
          rw [Q1u] at hs
          split at hs
          · cases hs; exact hp
          · exact h.sh x s hs
      · exact h.sh
  · exact h.sh
theorem Q6W (hp : (sealP S R w i e p).1.2 = 0 → True) : (sealP S R w i e p).1.1.length ≤ 1032 := by
  unfold sealP
  split
  · split
    · simp
    · unfold sealOf
      split
      · split
        · simp
        · show (boxL _ _).length ≤ _
          rw [Q1c]
          have := Q1B (classOf p.length)
          omega
      · simp
  · simp
theorem Q6D {b : List UInt8} {key : Int} {bd : List UInt8} (hb : b.length = 8 + sizeN (classOf p.length)) (hs : alook S.sealed (handL b) = some ⟨key, bd, p⟩) (k' : Int) (bd' : List UInt8) :
    openOf S k' bd' b = if key ≠ k' then ([], 11) else if bd ≠ bd' then ([], 5) else (p, 0) := by
  unfold openOf
  rw [hs]
  show (if _ then _ else _) = _
  rw [if_neg (fun h => h hb)]
end
theorem Q5n {S : OS} {R : Rng} {p b : List UInt8} {key : Int} {bd : List UInt8} (hb : b.length = 8 + sizeN (classOf p.length)) (hs : alook S.sealed (handL b) = some ⟨key, bd, p⟩) {w i e pv : Int} (hpl : placeOK w i e = true) (hpv : pv = 0 ↔ i = 0) (hk : (keyK R e).2 = 0) :
    openP S R ⟨w, i, pv, 1, w, e, b, 0⟩ = if key ≠ (keyK R e).1 then ([], 11) else if bd ≠ boundL w i e then ([], 5) else (p, 0) := by
  have h1 : 0 ≤ w ∧ w < 8 ∧ 0 ≤ i ∧ i < 200 ∧ 0 ≤ e ∧ e < 20 := of_decide_eq_true hpl
  have h2 := Q1B (classOf p.length)
  have hr : Q2c ⟨w, i, pv, 1, w, e, b, 0⟩ = true := decide_eq_true (by
    show _ ∧ _ ∧ _ ∧ _ ∧ _ ∧ _ ∧ _ ∧ _ ∧ _ ∧ _ ∧ (pv = 0 ↔ i = 0)
    exact ⟨h1.1, h1.2.1, h1.2.2.1, h1.2.2.2.1, by show (-1 : Int) ≤ e; omega, h1.2.2.2.2.2, by show (0 : Int) < 1; decide, by show (1 : Int) ≤ 1099511627776; decide, rfl, by show b.length ≤ 1100; omega, hpv⟩)
  unfold openP
  rw [if_pos hr]
  show (if e < 0 then _ else if (keyK R e).2 ≠ 0 then _ else openOf S (keyK R e).1 (boundL w i e) b) = _
  rw [if_neg (by omega), if_neg (fun h => h hk), Q6D hb hs]
section
variable {w w' : World} {o o' : Own} {d : List Int} {many : Nat} {B : RB} {X : WD} {S : OS} {R : Nat → Rng} {K : List Int} {O : List (List UInt8)}
theorem RI.key (h : RI d many X S R K O) {e : Nat} (he : e < many) : keyK (R 0) e = (K[e]?.getD 0, 0) := Q6j h.a (by rw [h.len]; exact he) h.pi.ch.nz
theorem RI.one (hd : OInv (OS.init d)) (h : RI d 1 X S R K O) : K[0]?.getD 0 ∈ S.keys := by
  have e := h.det
  have e1 : roomK d 1 = ((beginK (roomK d 0).1 (roomK d 0).2.1 (roomK d 0).2.2.1).2.2, ⟨(roomK d 0).2.1.ml, (roomK d 0).2.1.ep + 1⟩, (beginK (roomK d 0).1 (roomK d 0).2.1 (roomK d 0).2.2.1).2.1, (roomK d 0).2.2.2 ++ [(beginK (roomK d 0).1 (roomK d 0).2.1 (roomK d 0).2.2.1).2.1]) := rfl
  rw [e1] at e
  have hS : (beginK (roomK d 0).1 (roomK d 0).2.1 (roomK d 0).2.2.1).2.2 = S := congrArg Prod.fst e
  have hK : (roomK d 0).2.2.2 ++ [(beginK (roomK d 0).1 (roomK d 0).2.1 (roomK d 0).2.2.1).2.1] = K := congrArg (fun x => x.2.2.2) e
  have hK : [(beginK (roomK d 0).1 (roomK d 0).2.1 (roomK d 0).2.2.1).2.1] = K := hK
  have p1 := (Q2u hd).1
  have p2 := (Q2u p1).1
  have hb := Q6b (S := (roomK d 0).1) p2.ok (roomK d 0).2.1 (roomK d 0).2.2.1
  rw [← hK, ← hS]
  exact hb
theorem RI.used (h : RI d many X S R K O) (hm : many ≤ 4) : S.used.length < 1000 := by have := h.us; omega
theorem Q30 (ok : Tags w o) : Calls Tryz.prog 4 #[] w (fun x w' => ∃ o', x = .returned (.bool true) ∧ Step no w o w' o') := by
  refine (Q0B.go (R := fun v w' => ∃ o', v = .bool true ∧ Step no w o w' o') ?_).mono fun x w' ⟨v, he, o', hv, h⟩ => ⟨o', by rw [he, hv], h⟩
  unfold Q0B.N
  refine (Q38 (d := []) (many := 1) ok (Row.nil _ _ _) (Nat.le_refl _) (fun x hx => by cases hx) (by simp) (by decide)).mono fun x w3 ⟨q, o3, he, B, X, S, R, K, O, hq, s3, A3, I, hov⟩ => ⟨_, he, fun h => (by cases h), fun _ => ⟨_, rfl, ?_⟩⟩
  subst hq
  have hus := I.used (by decide)
  refine ⟨_, A3.bk.celli 0 rfl rfl, _, A3.bk.celli 2 rfl rfl, fun w11 q12 X11 hb11 hq12 hq12' => ?_⟩
  have s11 := Step.of_no X11 s3.ok
  have A11 := A3.no s11
  obtain ⟨w16, hr16, hrow16, X16⟩ := litB Tryz.underlying25 Tryz.underlying5 [120] X11 hb11 hq12
  have s16 := Step.of_no X16 s3.ok
  have A16 := A3.no s16
  have r16 : Row w16 (grow w3 o3) (some (blk q12)) (bytesV [120]) := Row.fresh hrow16 fun ad ha => by cases ha; exact hq12
  refine ⟨A11.bk.celli 2 rfl rfl, A11.bk.celli 0 rfl rfl, _, _, _, w16, hr16, A16.bk.celli 2 rfl rfl, A16.bk.celli 0 rfl rfl, ?_⟩
  have hin : OInv (OS.init []) := OInv.init (l := []) (fun x hx => by cases hx)
  have hkey := I.key (e := 0) (by decide)
  have hmem := I.one hin
  have hsl : (sealP S (R 0) 1 0 0 [120]).1.2 = 0 := by
    have e1 : sealP S (R 0) 1 0 0 [120] = sealOf S (K[0]?.getD 0) (boundL 1 0 0) [120] := by
      unfold sealP
      rw [if_pos (by decide)]
      have hk2 : keyK (R 0) 0 = (K[0]?.getD 0, 0) := hkey
      rw [hk2]; exact if_neg (fun h => h rfl)
    rw [e1]
    unfold sealOf
    rw [if_pos hmem, if_neg (by decide)]
  refine (Q42 A16.a A16.orc s16.ok I.pi.ki.inv.ok (by omega) 1 0 0 r16 (by simp)).mono fun x w22 ⟨o22, ba, bc, he, s22, r22, hbc, P22⟩ => ⟨_, _, _, _, he, ?_⟩
  obtain ⟨g1, g2, g3, g4, g5⟩ := Q6J I.pi.ki (by omega) hsl
  have hsh := Q3B (R := R 0) (w := 1) (i := 0) (e := 0) (p := [120]) I.pi.ki (by simp)
  have hle : (sealP S (R 0) 1 0 0 [120]).1.1.length ≤ 1032 := by
    have := Q1B (classOf ([120] : List UInt8).length); omega
  have A22 := A16.toOrc s22 P22
  rw [hsl]
  generalize (sealP S (R 0) 1 0 0 [120]).1.1 = b at *
  generalize (sealP S (R 0) 1 0 0 [120]).2 = S2 at *
  refine ⟨_, A22.bk.celli 0 rfl rfl, _, A22.bk.celli 2 rfl rfl, fun w25 p30 X25 hp30 => ?_⟩
  obtain ⟨s25, M25⟩ := Step.priv X25 hp30 s22.ok
  have A25 := A22.no s25
  have hkk : (keyK (R 0) 0).2 = 0 := congrArg Prod.snd hkey
  have o1 : openP S2 (R 0) ⟨1, 0, 0, 1, 1, 0, b, 0⟩ = ([120], 0) := by
    rw [Q5n g4 g5 (by decide) (by decide) hkk, if_neg (fun h => h rfl), if_neg (fun h => h rfl)]
  have o2 : openP S2 (R 0) ⟨1, 1, 5, 1, 1, 0, b, 0⟩ = ([], 5) := by
    rw [Q5n g4 g5 (by decide) (by decide) hkk, if_neg (fun h => h rfl), if_pos (by decide)]
  have op1 := Q2U (e := ⟨1, 0, 0, 1, 1, 0, b, 0⟩) (ec := bc) A25.a A25.orc s25.ok hsh (r22.step s25) (by show b.length < 1000000; omega) hbc
  rw [o1] at op1
  refine op1.mono fun x w34 ⟨o34, ta, tc, he, s34, r34, htc, _⟩ => ⟨_, _, _, _, he, M25.keep s34 (fun _ _ => id), fun w37 X37 => ?_⟩
  have A34 := A25.no s34
  have M34 := M25.step s34
  have s37 : Step (fun i => i ∈ [p30]) w34 _ w37 _ := Step.stores X37 s34.ok M34 (fun b hb => by simp [hb])
  have h30 := (hp30 p30 (by simp)).1
  have u22 := A22.under
  have A37 := A34.far u22 s37 (fun j hj => by simp at hj; rw [hj]; exact h30)
  have M37 := M34.step s37
  have op2 := Q2U (e := ⟨1, 1, 5, 1, 1, 0, b, 0⟩) (ec := bc) A37.a A37.orc s37.ok hsh (((r22.step s25).step s34).step s37) (by show b.length < 1000000; omega) hbc
  rw [o2] at op2
  refine ⟨_, A37.bk.celli 0 rfl rfl, _, A37.bk.celli 2 rfl rfl, op2.mono fun x w45 ⟨o45, ta2, tc2, he, s45, r45, _⟩ => ⟨_, _, _, _, he, M37.keep s45 (fun _ _ => id), fun _ => ⟨fun _ => ?_, fun h => absurd rfl h⟩, fun h => absurd rfl h⟩⟩
  have S45 : Step no w o w45 o45 := (((((s3.trans s16).trans' s22 fun a ha => .inr (by rw [ha]; exact hov.k)).trans s25).trans s34).trans' s37 fun a ha => .inr (by simp at ha; rw [ha]; have := ((s3.trans s16).trans' s22 fun a ha => .inr (by rw [ha]; exact hov.k)).size; omega)).trans s45
  refine ⟨_, Q4n Tryz.underlying25 Tryz.underlying5 Tryz.underlying9 ((r34.step s37).step s45).1, fun _ => ⟨fun _ => ?_, fun h => absurd rfl h⟩, fun h => absurd (by rfl) h⟩
  refine (Q2z ⟨1, 1, 5, 1, 1, 0, b, 0⟩ ba bc w45).mono fun x w54 ⟨he, X54⟩ => ⟨_, he, _, ?_, S45.trans (Step.of_no X54 S45.ok)⟩
  have hc : classS b.length = 0 := by rw [g4]; decide
  show Value.bool (classS b.length == 0) = .bool true
  rw [hc]; rfl
end
end Go.Proofs.YtgeakpldocfccaaGreat