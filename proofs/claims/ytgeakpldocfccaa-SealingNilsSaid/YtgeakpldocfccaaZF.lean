/- Epochs, plainly: what Begin tells, and what a ring learns of it. -/
import Derived.Test.YtgeakpldocfccaaZE
import Derived.Test.YtgeakpldocfccaaZA
set_option linter.unusedVariables false
set_option linter.unusedSimpArgs false
set_option maxRecDepth 20000
set_option maxHeartbeats 4000000
namespace Go.Proofs.Ytgeakpldocfccaa
open Go Go.Mx Go.Proofs
structure KI (S : OS) : Prop where
  inv : OInv S
  su : ∀ x s, alook S.sealed x = some s → x ∈ S.used
  wu : ∀ x s, alook S.wrapped x = some s → x ∈ S.used
  sh : Short S
structure KLe (S S' : OS) : Prop where
  pb : S'.publics = S.publics
  sl : ∀ x s, alook S.sealed x = some s → alook S'.sealed x = some s
  wr : ∀ x s, alook S.wrapped x = some s → alook S'.wrapped x = some s
  us : ∀ x ∈ S.used, x ∈ S'.used
theorem KLe.refl (S : OS) : KLe S S := ⟨rfl, fun _ _ h => h, fun _ _ h => h, fun _ h => h⟩
theorem KLe.trans {S T U : OS} (a : KLe S T) (b : KLe T U) : KLe S U := ⟨b.pb.trans a.pb, fun x s h => b.sl x s (a.sl x s h), fun x s h => b.wr x s (a.wr x s h), fun x h => b.us x (a.us x h)⟩
theorem KLe.open {S S' : OS} (h : KLe S S') {k : Int} {b x p : List UInt8} (ho : openOf S k b x = (p, 0)) : openOf S' k b x = (p, 0) := by
  unfold openOf at ho ⊢
  cases hs : alook S.sealed (handL x) with
  | none => rw [hs] at ho; cases ho
  | some s => rw [hs] at ho; rw [h.sl _ _ hs]; exact ho
theorem Q2i {S : OS} (h : S.ok) : (freshOf S).2.used.length = S.used.length + 1 := by
  obtain ⟨_, _, a3, _⟩ := Q1h h
  rw [a3]; simp
theorem KI.key {S : OS} (h : KI S) : KI (keyOf S).2 ∧ KLe S (keyOf S).2 ∧ (keyOf S).1 ∉ S.used ∧ (keyOf S).1 ≠ 0 ∧ (keyOf S).1 ∈ (keyOf S).2.used ∧ (keyOf S).2.used.length = S.used.length + 1 := by
  obtain ⟨c1, c2, c3, c4, c5, c6, c7, c8⟩ := Q0R S
  obtain ⟨f1, f2, f3, f4, f5⟩ := Q1H h.inv
  have e7 : (keyOf S).2.sealed = S.sealed := c7
  have e8 : (keyOf S).2.wrapped = S.wrapped := c8
  exact ⟨⟨keyInv h.inv, fun x s e => f2.used _ (h.su x s (by rw [← e7]; exact e)), fun x s e => f2.used _ (h.wu x s (by rw [← e8]; exact e)), fun x s e => h.sh x s (by rw [← e7]; exact e)⟩,
    ⟨c4, fun x s e => by rw [e7]; exact e, fun x s e => by rw [e8]; exact e, f2.used⟩, f3, f5, f4, Q2i h.inv.ok⟩
theorem KI.wrap {S : OS} (h : KI S) {p key : Int} (hp : (alook S.publics p).isSome) (hk : key ∈ S.keys) (hl : S.used.length < 100000000) :
    KI (wrapOf S p key).2 ∧ KLe S (wrapOf S p key).2 ∧ (wrapOf S p key).1.1.length = 16 ∧ alook (wrapOf S p key).2.wrapped (handL (wrapOf S p key).1.1) = some (p, key) ∧ (wrapOf S p key).2.keys = S.keys ∧ (wrapOf S p key).2.used.length = S.used.length + 1 := by
  obtain ⟨c1, c2, c3, c4, c5, c6, c7, c8⟩ := Q0R S
  obtain ⟨f1, f2, f3, f4, f5⟩ := Q1H h.inv
  have hsz := Q2i h.inv.ok
  have hfit := f1.fit (by omega) f4
  have hi := wrapInv h.inv p key
  rw [Q38 hp hk] at hi ⊢
  have hle : ∀ x v, alook S.wrapped x = some v → alook (aput S.wrapped (freshOf S).1 (p, key)) x = some v := fun x v e => by
    rw [Q1m, if_neg (fun e' => f3 (by rw [e']; exact h.wu x v e))]; exact e
  refine ⟨⟨hi, fun x s e => f2.used _ (h.su x s (by rw [← c7]; exact e)), fun x s e => ?_, fun x s e => h.sh x s (by rw [← c7]; exact e)⟩, ⟨c4, fun x s e => by show alook (freshOf S).2.sealed x = _; rw [c7]; exact e, hle, f2.used⟩, by rw [Q18], ?_, c2, hsz⟩
  · have e : alook (aput S.wrapped (freshOf S).1 (p, key)) x = some s := e
    rw [Q1m] at e
    split at e
    · rename_i hx; subst hx; exact f4
    · exact f2.used _ (h.wu x s e)
  · show alook (aput S.wrapped (freshOf S).1 (p, key)) ((handL (boxL (freshOf S).1.toNat 8) : Nat) : Int) = _
    rw [Q2t (by omega), Q1m, if_pos (by omega)]
theorem KI.sealK {S : OS} (h : KI S) {key : Int} {b p : List UInt8} (hk : key ∈ S.keys) (hp : p.length = 8) (hl : S.used.length < 100000000) :
    KI (sealOf S key b p).2 ∧ KLe S (sealOf S key b p).2 ∧ (sealOf S key b p).1.1.length = 24 ∧ openOf (sealOf S key b p).2 key b (sealOf S key b p).1.1 = (p, 0) ∧ (sealOf S key b p).2.used.length = S.used.length + 1 := by
  obtain ⟨c1, c2, c3, c4, c5, c6, c7, c8⟩ := Q0R S
  obtain ⟨f1, f2, f3, f4, f5⟩ := Q1H h.inv
  have hsz := Q2i h.inv.ok
  have hfit := f1.fit (by omega) f4
  have hi := sealInv h.inv key b p
  have hc : classOf p.length = 0 := by rw [hp]; decide
  have hE : sealOf S key b p = ((boxL (freshOf S).1.toNat (sizeN (classOf p.length)), 0), { (freshOf S).2 with sealed := aput S.sealed (freshOf S).1 ⟨key, b, p⟩ }) := by
    unfold sealOf; rw [if_pos hk, if_neg (by omega)]
  rw [hE] at hi ⊢
  have hz : sizeN (classOf p.length) = 16 := by rw [hc]; decide
  have hle : ∀ x v, alook S.sealed x = some v → alook (aput S.sealed (freshOf S).1 (⟨key, b, p⟩ : Sealed)) x = some v := fun x v e => by
    rw [Q1m, if_neg (fun e' => f3 (by rw [e']; exact h.su x v e))]; exact e
  refine ⟨⟨hi, fun x s e => ?_, fun x s e => f2.used _ (h.wu x s (by rw [← c8]; exact e)), fun x s e => ?_⟩, ⟨c4, hle, fun x s e => by show alook (freshOf S).2.wrapped x = _; rw [c8]; exact e, f2.used⟩, by rw [Q18, hz], ?_, hsz⟩
  · have e : alook (aput S.sealed (freshOf S).1 (⟨key, b, p⟩ : Sealed)) x = some s := e
    rw [Q1m] at e
    split at e
    · rename_i hx; subst hx; exact f4
    · exact f2.used _ (h.su x s e)
  · have e : alook (aput S.sealed (freshOf S).1 (⟨key, b, p⟩ : Sealed)) x = some s := e
    rw [Q1m] at e
    split at e
    · cases e; show p.length ≤ _; omega
    · exact h.sh x s e
  · have hL : alook (aput S.sealed (freshOf S).1 (⟨key, b, p⟩ : Sealed)) ((handL (boxL (freshOf S).1.toNat (sizeN (classOf p.length))) : Nat) : Int) = some ⟨key, b, p⟩ := by
      rw [Q2t (by omega), Q1m, if_pos (by omega)]
    unfold openOf
    rw [hL]
    show (if _ then _ else if _ then _ else if _ then _ else _) = _
    rw [if_neg (by rw [Q18]; exact fun h => h rfl), if_neg (fun h => h rfl), if_neg (fun h => h rfl)]
theorem Q2Q (key : Int) : ∀ (l : List Mem) (S : OS), KI S → key ∈ S.keys → (∀ m ∈ l, (alook S.publics m.pub).isSome) → S.used.length + l.length < 100000000 →
    KI (wrapsL S key l).1 ∧ KLe S (wrapsL S key l).1 ∧ (wrapsL S key l).2.map Prod.fst = l.map Mem.who ∧ (wrapsL S key l).1.keys = S.keys ∧ (wrapsL S key l).1.used.length = S.used.length + l.length ∧
    ∀ p ∈ (wrapsL S key l).2, ∃ m ∈ l, p.1 = m.who ∧ p.2.length = 16 ∧ alook (wrapsL S key l).1.wrapped (handL p.2) = some (m.pub, key)
  | [], S, h, hk, hp, hl => ⟨h, KLe.refl _, rfl, rfl, rfl, fun p hp => by cases hp⟩
  | m :: r, S, h, hk, hp, hl => by
    simp only [List.length_cons] at hl
    obtain ⟨a1, a2, a3, a4, a5, a6⟩ := h.wrap (hp m (by simp)) hk (by omega)
    obtain ⟨b1, b2, b3, b4, b5, b6⟩ := Q2Q key r (wrapOf S m.pub key).2 a1 (by rw [a5]; exact hk) (fun x hx => by rw [a2.pb]; exact hp x (by simp [hx])) (by omega)
    refine ⟨b1, a2.trans b2, ?_, b4.trans a5, ?_, ?_⟩
    · show m.who :: (wrapsL (wrapOf S m.pub key).2 key r).2.map Prod.fst = _
      rw [b3]; rfl
    · show (wrapsL (wrapOf S m.pub key).2 key r).1.used.length = S.used.length + (r.length + 1); omega
    · intro p hp'
      rcases List.mem_cons.1 (show p ∈ (m.who, (wrapOf S m.pub key).1.1) :: (wrapsL (wrapOf S m.pub key).2 key r).2 from hp') with rfl | hp'
      · exact ⟨m, by simp, rfl, a3, b2.wr _ _ a4⟩
      · obtain ⟨m', hm, e1, e2, e3⟩ := b6 p hp'
        exact ⟨m', by simp [hm], e1, e2, e3⟩
structure BK (S : OS) (s : MS) (last : Int) : Prop where
  ki : KI (beginK S s last).2.2
  le : KLe S (beginK S s last).2.2
  len : (beginK S s last).2.2.used.length ≤ S.used.length + 10
  nz : (beginK S s last).2.1 ≠ 0
  new : (beginK S s last).2.1 ∉ S.used
  us : (beginK S s last).2.1 ∈ (beginK S s last).2.2.used
  kd : (beginK S s last).1.kd = 3
  right : rightM (beginK S s last).1 = true
  app : applyM s (beginK S s last).1 = if s.ep + 1 ≥ 20 then (MS.z, 2) else (⟨s.ml, s.ep + 1⟩, 0)
  opens : 0 ≤ s.ep → openOf (beginK S s last).2.2 (beginK S s last).2.1 (boundE (s.ep + 1)) (beginK S s last).1.old = (boxL last.toNat 0, 0)
  box : ∀ p ∈ (beginK S s last).1.ws, ∃ m ∈ nowM s.ml, p.1 = m.who ∧ p.2.length = 16 ∧ alook (beginK S s last).2.2.wrapped (handL p.2) = some (m.pub, (beginK S s last).2.1)
  whos : (beginK S s last).1.ws.map Prod.fst = (nowM s.ml).map Mem.who
theorem Q3S : ∀ {l : List (Int × List UInt8)} {last : Int}, l.Pairwise (fun a b => a.1 < b.1) → (∀ x ∈ l, last < x.1) → (∀ x ∈ l, x.2.length = 16 ∧ 0 ≤ x.1 ∧ x.1 < 8) → boxesGo last l = true
  | [], last, _, _, _ => rfl
  | x :: r, last, hp, h1, h2 => by
    have h3 := List.pairwise_cons.1 hp
    have hx := h2 x (by simp)
    have := Q3S h3.2 (last := x.1) h3.1 fun y hy => h2 y (by simp [hy])
    unfold boxesGo
    rw [this]
    simp [hx, h1 x (by simp)]
theorem Q49 {l : List Mem} {m : Mem} (h : m ∈ nowM l) : m ∈ l ∧ m.to_ = -1 := by
  unfold nowM at h
  simpa using h
theorem Q4L {S : OS} {s : MS} {last : Int} (h : KI S) (hs : s.ok) (hp : ∀ m ∈ nowM s.ml, (alook S.publics m.pub).isSome) (hne : nowM s.ml ≠ []) (hl : S.used.length < 10000000) : BK S s last := by
  obtain ⟨a1, a2, a3, a4, a5, a6⟩ := h.key
  have h8 := hs.le
  have hnl : (nowM s.ml).length ≤ 8 := Nat.le_trans (List.length_filter_le _ _) h8
  have hki := key_in S
  obtain ⟨b1, b2, b3, b4, b5, b6⟩ := Q2Q (keyOf S).1 (nowM s.ml) (keyOf S).2 a1 hki (fun m hm => by rw [a2.pb]; exact hp m hm) (by omega)
  obtain ⟨d1, d2, d3, d4, d5⟩ := b1.sealK (key := (keyOf S).1) (b := boundE (s.ep + 1)) (p := boxL last.toNat 0) (by rw [b4]; exact hki) (by rw [Q18]) (by omega)
  have hpw : ((wrapsL (keyOf S).2 (keyOf S).1 (nowM s.ml)).2.map Prod.fst).Pairwise (· < ·) := by
    rw [b3, List.pairwise_map]
    exact hs.sorted.filter _
  have hws : boxesP (wrapsL (keyOf S).2 (keyOf S).1 (nowM s.ml)).2 = true := by
    unfold boxesP
    have hne2 : (wrapsL (keyOf S).2 (keyOf S).1 (nowM s.ml)).2 ≠ [] := fun e => by
      rw [e] at b3
      exact hne (List.map_eq_nil_iff.1 b3.symm)
    have hr : ∀ x ∈ (wrapsL (keyOf S).2 (keyOf S).1 (nowM s.ml)).2, x.2.length = 16 ∧ 0 ≤ x.1 ∧ x.1 < 8 := fun x hx => by
      obtain ⟨m, hm, e1, e2, _⟩ := b6 x hx
      have := hs.who m (Q49 hm).1
      rw [e1]; exact ⟨e2, this⟩
    rw [Q3S (List.pairwise_map.1 hpw) (fun x hx => by have := (hr x hx).2; omega) hr]
    simp [hne2]
  have hright : ∀ old : List UInt8, old.length = 0 ∨ old.length = 24 → rightM ⟨3, 0, 0, 0, (wrapsL (keyOf S).2 (keyOf S).1 (nowM s.ml)).2, old⟩ = true := fun old ho => by
    unfold rightM
    show (if (0 : Int) ≤ 0 ∧ (0 : Int) < 8 then (if ((3 : Int) == 3) = boxesP (wrapsL (keyOf S).2 (keyOf S).1 (nowM s.ml)).2 then _ else false) else false) = true
    rw [if_pos (by decide), hws, if_pos rfl]
    show (if (3 : Int) ≠ 3 ∧ ¬ ((wrapsL (keyOf S).2 (keyOf S).1 (nowM s.ml)).2 = [] ∧ old = []) then false else if (3 : Int) = 1 then decide ((0 : Int) ≠ 0 ∧ (0 : Int) = 0) else if (3 : Int) = 2 then decide ((0 : Int) ≠ 0 ∧ (0 : Int) = 0 ∧ 0 ≤ (0 : Int) ∧ (0 : Int) ≤ 200) else if (3 : Int) = 3 then decide ((0 : Int) = 0 ∧ (0 : Int) = 0 ∧ (0 : Int) = 0 ∧ (old.length = 0 ∨ old.length = 24)) else false) = true
    rw [if_neg (fun h => h.1 rfl), if_neg (by decide), if_neg (by decide), if_pos rfl]
    exact decide_eq_true ⟨rfl, rfl, rfl, ho⟩
  have happ : ∀ old : List UInt8, (old.length = 0 ∨ old.length = 24) → ((old.length : Int) == 0) = decide (s.ep < 0) → applyM s ⟨3, 0, 0, 0, (wrapsL (keyOf S).2 (keyOf S).1 (nowM s.ml)).2, old⟩ = if s.ep + 1 ≥ 20 then (MS.z, 2) else (⟨s.ml, s.ep + 1⟩, 0) := fun old ho he => by
    unfold applyM
    rw [if_pos (hright old ho)]
    show (if (3 : Int) = 1 then _ else if (3 : Int) = 2 then _ else beginM s ⟨3, 0, 0, 0, (wrapsL (keyOf S).2 (keyOf S).1 (nowM s.ml)).2, old⟩) = _
    rw [if_neg (by decide), if_neg (by decide)]
    unfold beginM
    by_cases h20 : s.ep + 1 ≥ 20
    · rw [if_pos h20, if_pos h20]
    · rw [if_neg h20, if_neg h20]
      show (if ((old.length : Int) == 0) = decide (s.ep < 0) then (if (nowM s.ml).map Mem.who = (wrapsL (keyOf S).2 (keyOf S).1 (nowM s.ml)).2.map Prod.fst then _ else _) else _) = _
      rw [if_pos he, if_pos b3.symm]
  by_cases hep : 0 ≤ s.ep
  · have hE : beginK S s last = (⟨3, 0, 0, 0, (wrapsL (keyOf S).2 (keyOf S).1 (nowM s.ml)).2, (sealOf (wrapsL (keyOf S).2 (keyOf S).1 (nowM s.ml)).1 (keyOf S).1 (boundE (s.ep + 1)) (boxL last.toNat 0)).1.1⟩, (keyOf S).1, (sealOf (wrapsL (keyOf S).2 (keyOf S).1 (nowM s.ml)).1 (keyOf S).1 (boundE (s.ep + 1)) (boxL last.toNat 0)).2) := by
      unfold beginK; exact if_pos hep
    have hold : ((((sealOf (wrapsL (keyOf S).2 (keyOf S).1 (nowM s.ml)).1 (keyOf S).1 (boundE (s.ep + 1)) (boxL last.toNat 0)).1.1.length : Nat) : Int) == 0) = decide (s.ep < 0) := by
      rw [d3, decide_eq_false (by omega)]; rfl
    constructor <;> rw [hE]
    · exact d1
    · exact (a2.trans b2).trans d2
    · show (sealOf _ _ _ _).2.used.length ≤ _; omega
    · exact a4
    · exact a3
    · exact d2.us _ (b2.us _ a5)
    · exact hright _ (.inr d3)
    · exact happ _ (.inr d3) hold
    · exact fun _ => d4
    · intro p hp'
      obtain ⟨m, hm, e1, e2, e3⟩ := b6 p hp'
      exact ⟨m, hm, e1, e2, d2.wr _ _ e3⟩
    · exact b3
  · have hE : beginK S s last = (⟨3, 0, 0, 0, (wrapsL (keyOf S).2 (keyOf S).1 (nowM s.ml)).2, []⟩, (keyOf S).1, (wrapsL (keyOf S).2 (keyOf S).1 (nowM s.ml)).1) := by
      unfold beginK; exact if_neg hep
    have hold : (((([] : List UInt8).length : Nat) : Int) == 0) = decide (s.ep < 0) := by
      rw [decide_eq_true (by omega)]; rfl
    constructor <;> rw [hE]
    · exact b1
    · exact a2.trans b2
    · show (wrapsL _ _ _).1.used.length ≤ _; omega
    · exact a4
    · exact a3
    · exact b2.us _ a5
    · exact hright _ (.inl rfl)
    · exact happ _ (.inl rfl) hold
    · exact fun h => absurd h hep
    · exact b6
    · exact b3
theorem BK.told {S : OS} {s : MS} {last : Int} (h : BK S s last) {R : Rng} (h1 : ∃ m ∈ nowM s.ml, m.who = R.who) (h2 : ∀ m ∈ nowM s.ml, m.who = R.who → alook S.publics m.pub = some R.secret) : toldBy (beginK S s last).2.2 R (beginK S s last).1 = ((beginK S s last).2.1, 0) := by
  obtain ⟨m, hm, hw⟩ := h1
  unfold toldBy
  cases hf : (beginK S s last).1.ws.find? (fun p => p.1 == R.who) with
  | none =>
    have hmem : m.who ∈ (beginK S s last).1.ws.map Prod.fst := by rw [h.whos]; exact List.mem_map_of_mem hm
    obtain ⟨p, hp, e⟩ := List.mem_map.1 hmem
    have := List.find?_eq_none.1 hf p hp
    simp [e, hw] at this
  | some p =>
    have hp := List.mem_of_find?_eq_some hf
    have he : p.1 = R.who := by have := List.find?_some hf; simpa using this
    obtain ⟨m', hm', e1, e2, e3⟩ := h.box p hp
    show Q12 _ _ _ = _
    unfold Q12
    rw [e3]
    show (if _ then _ else if _ then _ else _) = _
    rw [if_neg (by rw [e2]; exact fun h => h rfl), if_neg (by
      rw [h.le.pb]
      show ¬ (alook S.publics m'.pub).getD 0 ≠ _
      rw [h2 m' hm' (by rw [← e1]; exact he)]
      exact fun h => h rfl)]
theorem BK.other {S : OS} {s : MS} {last : Int} (h : BK S s last) {R : Rng} (h1 : ∀ m ∈ nowM s.ml, m.who ≠ R.who) : toldBy (beginK S s last).2.2 R (beginK S s last).1 = (0, 11) := by
  unfold toldBy
  cases hf : (beginK S s last).1.ws.find? (fun p => p.1 == R.who) with
  | none => rfl
  | some p =>
    have hp := List.mem_of_find?_eq_some hf
    have he : p.1 = R.who := by have := List.find?_some hf; simpa using this
    obtain ⟨m', hm', e1, _⟩ := h.box p hp
    exact absurd (by rw [← e1]; exact he) (h1 m' hm')
def mkK (K : List Int) (m e : Nat) : List Int := (List.range K.length).map fun d => if d < m ∨ e ≤ d then K[d]?.getD 0 else 0
theorem Q1U (K : List Int) (m e : Nat) : (mkK K m e).length = K.length := by simp [mkK]
theorem mkK_get {K : List Int} {m e d : Nat} (hd : d < K.length) : (mkK K m e)[d]?.getD 0 = if d < m ∨ e ≤ d then K[d]?.getD 0 else 0 := by
  unfold mkK
  rw [List.getElem?_map, List.getElem?_range hd]; rfl
theorem Q47 {K : List Int} {m e : Nat} (h : e ≤ m) : mkK K m e = K := by
  refine List.ext_getElem? fun d => ?_
  unfold mkK
  rw [List.getElem?_map]
  by_cases hd : d < K.length
  · rw [List.getElem?_range hd]
    show some (if d < m ∨ e ≤ d then K[d]?.getD 0 else 0) = _
    rw [if_pos (by omega), List.getElem?_eq_getElem hd]; rfl
  · rw [List.getElem?_eq_none (by simp; omega), List.getElem?_eq_none (by omega)]; rfl
theorem Q6I (K : List Int) (m : Nat) (hm : m ≤ K.length) (x : Int) : mkK K m K.length ++ [x] = mkK (K ++ [x]) m K.length := by
  unfold mkK
  rw [List.length_append, List.length_singleton, List.range_succ, List.map_append]
  congr 1
  · refine List.map_congr_left fun d hd => ?_
    have hd := List.mem_range.1 hd
    rw [List.getElem?_append_left hd]
  · show [x] = [if K.length < m ∨ K.length ≤ K.length then (K ++ [x])[K.length]?.getD 0 else 0]
    rw [if_pos (.inr (Nat.le_refl _))]; simp
theorem Q5e (K : List Int) (m : Nat) (hm : m ≤ K.length) (x : Int) : mkK K m K.length ++ [0] = mkK (K ++ [x]) m (K.length + 1) := by
  unfold mkK
  rw [List.length_append, List.length_singleton, List.range_succ, List.map_append]
  congr 1
  · refine List.map_congr_left fun d hd => ?_
    have hd := List.mem_range.1 hd
    rw [List.getElem?_append_left hd]
    by_cases h : d < m
    · rw [if_pos (.inl h), if_pos (.inl h)]
    · rw [if_neg (by omega), if_neg (by omega)]
  · show [(0 : Int)] = [if K.length < m ∨ K.length + 1 ≤ K.length then (K ++ [x])[K.length]?.getD 0 else 0]
    rw [if_neg (by omega)]
structure Chain (S : OS) (K : List Int) (O : List (List UInt8)) : Prop where
  len : O.length = K.length
  nz : ∀ x ∈ K, 0 < x ∧ x < 18446744073709551616
  link : ∀ e, e + 1 < K.length → openOf S (K[e + 1]?.getD 0) (boundE ((e + 1 : Nat) : Int)) (O[e + 1]?.getD []) = (boxL (K[e]?.getD 0).toNat 0, 0)
  short : ∀ b ∈ O, b.length < 1000000
theorem Chain.pos {S : OS} {K : List Int} {O : List (List UInt8)} (h : Chain S K O) {d : Nat} (hd : d < K.length) : 0 < K[d]?.getD 0 ∧ K[d]?.getD 0 < 18446744073709551616 := by
  rw [List.getElem?_eq_getElem hd]; exact h.nz _ (List.getElem_mem hd)
theorem Q6t {h : Nat} (hh : h < 18446744073709551616) : valOf (boxL h 0) = h := by
  have := Q2t hh 0
  unfold handL at this
  rw [if_neg (by rw [Q18]; omega), boxL_eq, List.drop_left' (by rfl), List.take_left' (by rfl), if_neg (by simp)] at this
  rw [boxL_eq, List.replicate_zero, List.append_nil]; exact this
theorem Q4v {S : OS} {K : List Int} {O : List (List UInt8)} (h : Chain S K O) (m : Nat) : ∀ (e : Nat), e < K.length → backK S O e (mkK K m e) = K
  | 0, _ => Q47 (Nat.zero_le _)
  | e + 1, he => by
    unfold backK
    by_cases hem : e < m
    · rw [if_neg, Q47 hem]
      rintro ⟨⟨_, h2⟩, _⟩
      rw [mkK_get (by omega), if_pos (.inl hem)] at h2
      have := (h.pos (d := e) (by omega)).1
      omega
    · have h1 : (mkK K m (e + 1))[e + 1]?.getD 0 = K[e + 1]?.getD 0 := by rw [mkK_get he, if_pos (.inr (Nat.le_refl _))]
      have h0 : (mkK K m (e + 1))[e]?.getD 0 = 0 := by rw [mkK_get (by omega), if_neg (by omega)]
      have hp := h.pos (d := e + 1) he
      have hp0 := h.pos (d := e) (by omega)
      have hl := h.link e he
      rw [if_pos]
      · rw [h1, hl]
        have : ((valOf (boxL (K[e]?.getD 0).toNat 0) : Nat) : Int) = K[e]?.getD 0 := by rw [Q6t (by omega)]; omega
        show backK S O e ((mkK K m (e + 1)).set e ((valOf (boxL (K[e]?.getD 0).toNat 0) : Nat) : Int)) = K
        rw [this]
        have hset : (mkK K m (e + 1)).set e (K[e]?.getD 0) = mkK K m e := by
          refine List.ext_getElem? fun d => ?_
          rw [List.getElem?_set]
          split
          · rename_i hde; subst hde
            rw [if_pos (by rw [Q1U]; omega)]
            unfold mkK
            rw [List.getElem?_map, List.getElem?_range (by omega)]
            show _ = some (if _ then _ else _)
            rw [if_pos (.inr (Nat.le_refl _))]
          · rename_i hde
            unfold mkK
            rw [List.getElem?_map, List.getElem?_map]
            by_cases hd : d < K.length
            · rw [List.getElem?_range hd]
              show some (if d < m ∨ e + 1 ≤ d then _ else _) = some (if d < m ∨ e ≤ d then _ else _)
              have hiff : (d < m ∨ e + 1 ≤ d) ↔ (d < m ∨ e ≤ d) := by omega
              simp only [hiff]
            · rw [List.getElem?_eq_none (by simp; omega)]; rfl
        rw [hset]
        exact Q4v h m e (by omega)
      · unfold tells
        rw [h1, h0, hl]
        exact ⟨⟨by omega, rfl⟩, rfl, by rw [Q18]⟩
set_option maxRecDepth 100000
set_option maxRecDepth 20000
structure WD where
  k : Nat
  j : Nat
  pub : Nat → Int
  rq : Nat → Option Nat
  mq : Nat → Option Nat
  sm : MS
  tm : MS
  sec : Nat → Int
  last : Int
section
variable {w w' w1 w2 : World} {o o' o1 : Own} {q k p N m i : Nat} {K : Nat → Prop} {X : WD} {a : Option Addr} {c : Nat}
theorem Blk.apart {t t' : TypeId} {cs cs' : List Value} (h : Blk w p t cs) (k : Blk w q t' cs') (hn : t ≠ t') : p ≠ q := fun e => by
  subst e
  have : some (Obj.cells cs.toArray t) = some (Obj.cells cs'.toArray t') := h.symm.trans k
  cases this; exact hn rfl
theorem POrc.typ {S : OS} (h : POrc w o k S) : ∃ cs, Blk w k 102 cs := by
  obtain ⟨g, rfl, h1, _⟩ := h
  obtain ⟨da, dc, hb, _⟩ := h1.st
  exact ⟨_, hb⟩
theorem Rof.typ {S : OS} {n : Nat} (h : Rof w o k S n) : ∃ cs, Blk w k 54 cs := by
  obtain ⟨d, R, ⟨R', _, h1⟩, _⟩ := h.ex
  obtain ⟨da, dc, la, lc, hb, _⟩ := h1.at_
  exact ⟨_, hb⟩
theorem EG.typ {R : Rng} (h : EG w o q k R) : ∃ cs, Blk w q 108 cs := by
  obtain ⟨ka, kc, oa, oc, ol, hb, _⟩ := h.mem
  exact ⟨_, hb⟩
theorem MG.typ {R : Rng} (h : MG w o q R) : ∃ cs, Blk w q 61 cs := by
  obtain ⟨ka, kc, oa, oc, ol, hb, _⟩ := h.mem
  exact ⟨_, hb⟩
theorem EG.diff {R R' : Rng} {k' q' : Nat} (h : EG w o q k R) (h' : EG w o q' k' R') (hn : R.who ≠ R'.who) : q ≠ q' := fun e => by
  subst e
  have e2 := h.who.symm.trans h'.who
  simp at e2
  exact hn e2
end
section
variable {w w' w1 w2 : World} {o o' o1 : Own} {q k p N m n i : Nat} {K : Nat → Prop} {X : WD} {S T : OS} {R M : Nat → Rng}
end
theorem Q3o (S : OS) : (pairOf S).2.sealed = S.sealed := by
  obtain ⟨c1, c2, c3, c4, c5, c6, c7, c8⟩ := Q0R S
  obtain ⟨d1, d2, d3, d4, d5, d6, d7, d8⟩ := Q0R { (freshOf S).2 with secrets := badd S.secrets (freshOf S).1 }
  show (freshOf { (freshOf S).2 with secrets := badd S.secrets (freshOf S).1 }).2.sealed = _
  rw [d7]; exact c7
theorem Q2U (S : OS) : (pairOf S).2.wrapped = S.wrapped := by
  obtain ⟨c1, c2, c3, c4, c5, c6, c7, c8⟩ := Q0R S
  obtain ⟨d1, d2, d3, d4, d5, d6, d7, d8⟩ := Q0R { (freshOf S).2 with secrets := badd S.secrets (freshOf S).1 }
  show (freshOf { (freshOf S).2 with secrets := badd S.secrets (freshOf S).1 }).2.wrapped = _
  rw [d8]; exact c8
section
variable {w w' : World} {o o' : Own}
end
section
variable {w w' w1 w2 : World} {o o' o1 : Own} {q k p N m n i : Nat} {K : Nat → Prop} {X : WD} {S T : OS} {R M : Nat → Rng}
end
structure PI (X : WD) (S : OS) (R : Nat → Rng) (K : List Int) (O : List (List UInt8)) : Prop where
  ki : KI S
  pub : ∀ i, i < 4 → alook S.publics (X.pub i) = some (X.sec i)
  st : X.tm = X.sm
  ok : X.sm.ok
  mem : ∀ m ∈ X.sm.ml, ∃ i : Nat, i < 4 ∧ m.who = i ∧ m.pub = X.pub i
  fr : ∀ m ∈ X.sm.ml, m.fr ≤ X.sm.ep + 1
  zero : ∃ m ∈ X.sm.ml, m.who = 0 ∧ m.to_ = -1
  ep : (K.length : Int) = X.sm.ep + 1
  ch : Chain S K O
  last : X.last = K.getLast?.getD 0
  ring : ∀ i : Nat, i < 4 → (R i).who = i ∧ (R i).secret = X.sec i ∧ (R i).olds = O ∧ ∃ m, m ≤ K.length ∧ (R i).keys = mkK K m K.length
theorem PI.ne {X : WD} {S : OS} {R : Nat → Rng} {K : List Int} {O : List (List UInt8)} (h : PI X S R K O) : nowM X.sm.ml ≠ [] := fun e => by
  obtain ⟨m, hm, _, ht⟩ := h.zero
  have : m ∈ nowM X.sm.ml := by unfold nowM; simp [hm, ht]
  rw [e] at this; cases this
theorem PI.known {X : WD} {S : OS} {R : Nat → Rng} {K : List Int} {O : List (List UInt8)} (h : PI X S R K O) : ∀ m ∈ nowM X.sm.ml, (alook S.publics m.pub).isSome := fun m hm => by
  obtain ⟨i, hi, _, e⟩ := h.mem m (Q49 hm).1
  rw [e, h.pub i hi]; rfl
theorem PI.begin {X : WD} {S : OS} {R : Nat → Rng} {K : List Int} {O : List (List UInt8)} (h : PI X S R K O) (hl : S.used.length < 10000000) : BK S X.sm X.last := Q4L h.ki h.ok h.known h.ne hl
theorem PI.last_rng {X : WD} {S : OS} {R : Nat → Rng} {K : List Int} {O : List (List UInt8)} (h : PI X S R K O) : 0 ≤ X.last ∧ X.last < 18446744073709551616 := by
  rw [h.last]
  cases hk : K.getLast? with
  | none => exact ⟨by decide, by decide⟩
  | some x => have := h.ch.nz x (List.mem_of_getLast? hk); exact ⟨by show 0 ≤ x; omega, by show x < _; omega⟩
theorem PI.chain {X : WD} {S : OS} {R : Nat → Rng} {K : List Int} {O : List (List UInt8)} (h : PI X S R K O) (hl : S.used.length < 10000000) (hold : (beginK S X.sm X.last).1.old.length < 1000000) :
    Chain (beginK S X.sm X.last).2.2 (K ++ [(beginK S X.sm X.last).2.1]) (O ++ [(beginK S X.sm X.last).1.old]) := by
  have B := h.begin hl
  have hlen := h.ch.len
  have hfit := B.ki.inv.fit (by have := B.len; omega) B.us
  refine ⟨by simp [hlen], fun x hx => ?_, fun e he => ?_, fun b hb => ?_⟩
  · rcases List.mem_append.1 hx with hx | hx
    · exact h.ch.nz x hx
    · have := B.nz
      simp at hx; subst hx
      omega
  · have he : e + 1 < K.length + 1 := by simpa using he
    by_cases hee : e + 1 < K.length
    · rw [List.getElem?_append_left hee, List.getElem?_append_left (by omega), List.getElem?_append_left (by omega)]
      exact B.le.open (h.ch.link e hee)
    · have hee : e + 1 = K.length := by omega
      have hep : 0 ≤ X.sm.ep := by have := h.ep; omega
      have hop := B.opens hep
      have e1 : (K ++ [(beginK S X.sm X.last).2.1])[e + 1]?.getD 0 = (beginK S X.sm X.last).2.1 := by rw [hee]; simp
      have e2 : (O ++ [(beginK S X.sm X.last).1.old])[e + 1]?.getD [] = (beginK S X.sm X.last).1.old := by rw [hee, ← hlen]; simp
      have e3 : (K ++ [(beginK S X.sm X.last).2.1])[e]?.getD 0 = X.last := by
        rw [List.getElem?_append_left (by omega), h.last, List.getLast?_eq_getElem?, show K.length - 1 = e by omega]
      rw [e1, e2, e3, show ((e + 1 : Nat) : Int) = X.sm.ep + 1 by have := h.ep; omega]
      exact hop
  · rcases List.mem_append.1 hb with hb | hb
    · exact h.ch.short b hb
    · simp at hb; subst hb; exact hold
theorem PI.in_ {X : WD} {S : OS} {R : Nat → Rng} {K : List Int} {O : List (List UInt8)} (h : PI X S R K O) (hl : S.used.length < 10000000) (hold : (beginK S X.sm X.last).1.old.length < 1000000) (hep : X.sm.ep + 1 < 20) {i : Nat} (hi : i < 4) (hm : ∃ m ∈ nowM X.sm.ml, m.who = i) :
    learnK (beginK S X.sm X.last).2.2 (R i) (beginK S X.sm X.last).1 = ({ R i with keys := K ++ [(beginK S X.sm X.last).2.1], olds := O ++ [(beginK S X.sm X.last).1.old] }, 0) := by
  have B := h.begin hl
  have C := h.chain hl hold
  obtain ⟨r1, r2, r3, m, hm', r4⟩ := h.ring i hi
  have hkl : (R i).keys.length = K.length := by rw [r4, Q1U]
  have ht := B.told (R := R i) (by rw [r1]; exact hm) fun m' hm2 hw => by
    obtain ⟨d, hd, e1, e2⟩ := h.mem m' (Q49 hm2).1
    have : d = i := by rw [r1, e1] at hw; omega
    subst this
    rw [e2, r2]; exact h.pub d hd
  unfold learnK
  rw [if_neg (by rw [B.kd, B.right]; simp), if_neg (by have := h.ep; omega), ht, hkl, r3, r4]
  dsimp only
  rw [Q6I K m hm', Q4v C m K.length (by simp)]
theorem PI.out_ {X : WD} {S : OS} {R : Nat → Rng} {K : List Int} {O : List (List UInt8)} (h : PI X S R K O) (hl : S.used.length < 10000000) (hep : X.sm.ep + 1 < 20) {i : Nat} (hi : i < 4) (hm : ∀ m ∈ nowM X.sm.ml, m.who ≠ i) :
    ∃ m, m ≤ K.length ∧ learnK (beginK S X.sm X.last).2.2 (R i) (beginK S X.sm X.last).1 = ({ R i with keys := mkK (K ++ [(beginK S X.sm X.last).2.1]) m (K.length + 1), olds := O ++ [(beginK S X.sm X.last).1.old] }, 11) := by
  have B := h.begin hl
  obtain ⟨r1, r2, r3, m, hm', r4⟩ := h.ring i hi
  have hkl : (R i).keys.length = K.length := by rw [r4, Q1U]
  have ht := B.other (R := R i) (by rw [r1]; exact hm)
  refine ⟨m, hm', ?_⟩
  unfold learnK
  rw [if_neg (by rw [B.kd, B.right]; simp), if_neg (by have := h.ep; omega), ht, hkl, r3, r4]
  dsimp only
  rw [Q5e K m hm' (beginK S X.sm X.last).2.1]
  have hb : backK (beginK S X.sm X.last).2.2 (O ++ [(beginK S X.sm X.last).1.old]) K.length (mkK (K ++ [(beginK S X.sm X.last).2.1]) m (K.length + 1)) = mkK (K ++ [(beginK S X.sm X.last).2.1]) m (K.length + 1) := by
    cases hK : K.length with
    | zero => rfl
    | succ e =>
      unfold backK
      rw [if_neg]
      rintro ⟨⟨h1, _⟩, _⟩
      rw [mkK_get (by simp; omega), if_neg (by omega)] at h1
      exact h1 rfl
  rw [hb]
theorem PI.next {X : WD} {S : OS} {R R' : Nat → Rng} {K : List Int} {O : List (List UInt8)} (h : PI X S R K O) (hl : S.used.length < 10000000) (hold : (beginK S X.sm X.last).1.old.length < 1000000) (hep : X.sm.ep + 1 < 20)
    (hR : ∀ i, i < 4 → R' i = (learnK (beginK S X.sm X.last).2.2 (R i) (beginK S X.sm X.last).1).1) :
    PI { X with last := (beginK S X.sm X.last).2.1, sm := ⟨X.sm.ml, X.sm.ep + 1⟩, tm := ⟨X.sm.ml, X.sm.ep + 1⟩ } (beginK S X.sm X.last).2.2 R' (K ++ [(beginK S X.sm X.last).2.1]) (O ++ [(beginK S X.sm X.last).1.old]) := by
  have B := h.begin hl
  have he := h.ep
  have h0 := h.ok.ep0
  refine ⟨B.ki, fun i hi => by rw [B.le.pb]; exact h.pub i hi, rfl, ⟨h.ok.sorted, h.ok.who, by show -1 ≤ X.sm.ep + 1; omega, hep⟩, h.mem, fun m hm => by have := h.fr m hm; show m.fr ≤ X.sm.ep + 1 + 1; omega, h.zero, by simp; omega, h.chain hl hold, by simp, fun i hi => ?_⟩
  rw [hR i hi]
  obtain ⟨r1, r2, r3, _⟩ := h.ring i hi
  by_cases hm : ∃ m ∈ nowM X.sm.ml, m.who = i
  · rw [h.in_ hl hold hep hi hm]
    exact ⟨r1, r2, rfl, K.length + 1, by simp, by simp [Q47]⟩
  · obtain ⟨m, hm', e⟩ := h.out_ hl hep hi fun m hm1 hm2 => hm ⟨m, hm1, hm2⟩
    rw [e]
    exact ⟨r1, r2, rfl, m, by simp; omega, by simp⟩
theorem Q6p {R : Rng} {K : List Int} {e : Nat} (hk : R.keys = K) (he : e < K.length) (hz : ∀ x ∈ K, 0 < x ∧ x < 18446744073709551616) : keyK R e = (K[e]?.getD 0, 0) := by
  unfold keyK
  have := hz _ (List.getElem_mem he)
  rw [hk, if_neg (by omega), Int.toNat_natCast, if_neg (by rw [List.getElem?_eq_getElem he]; show ¬ (K[e] = 0); omega)]
open W (OwnB GivesW numR countR doneR zig unzig intR)
section
variable {w w' : World} {a : Option Addr} {c N p : Nat} {bs : List UInt8} {k : Int}
/-! ### the reference's -/
end
open W (OwnB GivesW numR countR doneR zig unzig intR)
def Q0v.M (n1 a0 a1 : Int) (R : RW) (w : World) : Prop :=
 bif decide (n1 ≥ a0) then (
 R (.bool (decide (n1 < a1))) w) else (
 R (.bool false) w)

theorem Q0v.ok (n1 a0 a1 : Int) {R : RW} {w : World} (h : Q0v.M n1 a0 a1 R w) : Calls Try.prog 67 #[.int .i64 n1, .int .i64 a0, .int .i64 a1] w fun e w' => ∃ v, e = .returned v ∧ R v w' :=
  Q0i follows (H := []) (args := [.int .i64 n1, .int .i64 a0, .int .i64 a1]) (cast (by kernel_rfl) h)

def Q0v.N (n1 a0 a1 : Int) (R : RW) (w : World) : Prop :=
 (n1 ≥ a0 →
 R (.bool (decide (n1 < a1))) w) ∧
 (n1 < a0 →
 R (.bool false) w)

theorem Q0v.up (n1 a0 a1 : Int) {R : RW} {w : World} (h : Q0v.N n1 a0 a1 R w) : Q0v.M n1 a0 a1 R w := by
  unfold Q0v.M
  unfold Q0v.N at h
  refine bif_of (fun c4 => ?_) (fun c4 => ?_)
  ·have h := h.1 (of_decide_eq_true c4)
   exact h
  have h := h.2 (Int.not_le.1 (of_decide_eq_false c4))
  exact h

theorem Q0v.go (n1 a0 a1 : Int) {R : RW} {w : World} (h : Q0v.N n1 a0 a1 R w) : Calls Try.prog 67 #[.int .i64 n1, .int .i64 a0, .int .i64 a1] w fun e w' => ∃ v, e = .returned v ∧ R v w' := Q0v.ok n1 a0 a1 (Q0v.up n1 a0 a1 h)
theorem Q0v.run (n1 a0 a1 : Int) {V : Value} {Q : World → Prop} {w : World} (h : Q0v.N n1 a0 a1 (fun v w' => v = V ∧ Q w') w) : Calls Try.prog 67 #[.int .i64 n1, .int .i64 a0, .int .i64 a1] w (Ret V Q) := (Q0v.go n1 a0 a1 h).mono fun e w' ⟨v, he, hv, hq⟩ => ⟨by rw [he, hv], hq⟩

def Q0v.F (n1 a0 a1 : Int) : Bool :=
  if n1 ≥ a0 then
    (decide (n1 < a1))
  else
    false
theorem Q0v.pure (n1 a0 a1 : Int) {w : World} : Calls Try.prog 67 #[.int .i64 n1, .int .i64 a0, .int .i64 a1] w (Ret (.bool (Q0v.F n1 a0 a1)) fun w' => Ext no w w') := by
  refine Q0v.run n1 a0 a1 ?_
  unfold Q0v.N
  refine ⟨fun c0 => ?_, fun c0 => ?_⟩
  ·exact ⟨by unfold Q0v.F; rw [if_pos c0], Ext.refl _ _⟩
  ·exact ⟨by unfold Q0v.F; rw [if_neg (show ¬ (n1 ≥ a0) from by omega)], Ext.refl _ _⟩

def Q0T.M (a0 : Int) (R : RW) (w : World) : Prop :=
 bif decide (a0 ≥ 0) then (
 R (.bool (decide (a0 < 8))) w) else (
 R (.bool false) w)

theorem Q0T.ok (a0 : Int) {R : RW} {w : World} (h : Q0T.M a0 R w) : Calls Try.prog 89 #[.int .i64 a0] w fun e w' => ∃ v, e = .returned v ∧ R v w' :=
  Q0i follows (H := []) (args := [.int .i64 a0]) (cast (by kernel_rfl) h)

def Q0T.N (a0 : Int) (R : RW) (w : World) : Prop :=
 (a0 ≥ 0 →
 R (.bool (decide (a0 < 8))) w) ∧
 (a0 < 0 →
 R (.bool false) w)

theorem Q0T.up (a0 : Int) {R : RW} {w : World} (h : Q0T.N a0 R w) : Q0T.M a0 R w := by
  unfold Q0T.M
  unfold Q0T.N at h
  refine bif_of (fun c2 => ?_) (fun c2 => ?_)
  ·have h := h.1 (of_decide_eq_true c2)
   exact h
  have h := h.2 (Int.not_le.1 (of_decide_eq_false c2))
  exact h

theorem Q0T.go (a0 : Int) {R : RW} {w : World} (h : Q0T.N a0 R w) : Calls Try.prog 89 #[.int .i64 a0] w fun e w' => ∃ v, e = .returned v ∧ R v w' := Q0T.ok a0 (Q0T.up a0 h)
theorem Q0T.run (a0 : Int) {V : Value} {Q : World → Prop} {w : World} (h : Q0T.N a0 (fun v w' => v = V ∧ Q w') w) : Calls Try.prog 89 #[.int .i64 a0] w (Ret V Q) := (Q0T.go a0 h).mono fun e w' ⟨v, he, hv, hq⟩ => ⟨by rw [he, hv], hq⟩

def Q0T.F (a0 : Int) : Bool :=
  if a0 ≥ 0 then
    (decide (a0 < 8))
  else
    false
theorem Q0T.pure (a0 : Int) {w : World} : Calls Try.prog 89 #[.int .i64 a0] w (Ret (.bool (Q0T.F a0)) fun w' => Ext no w w') := by
  refine Q0T.run a0 ?_
  unfold Q0T.N
  refine ⟨fun c0 => ?_, fun c0 => ?_⟩
  ·exact ⟨by unfold Q0T.F; rw [if_pos c0], Ext.refl _ _⟩
  ·exact ⟨by unfold Q0T.F; rw [if_neg (show ¬ (a0 ≥ 0) from by omega)], Ext.refl _ _⟩

def Q0U.M (a2 a5 : Int) (R : RW) (w : World) : Prop :=
 thenW (w.alloc (.cells #[.int .i64 a2, .int .i64 a5] 40)) fun a1 =>
 ∃ (T4 : Int), a1.cell? ((blk w.heap.size).add 0) = some (.int .i64 T4) ∧
 bif decide (T4 > 0) then (
 ∃ (T5 : Int), a1.cell? ((blk w.heap.size).add 0) = some (.int .i64 T5) ∧
 bif decide (T5 ≤ 1099511627776) then (
 ∃ (W6 : Int), a1.cell? ((blk w.heap.size).add 1) = some (.int .i64 W6) ∧
 Calls Try.prog 89 #[.int .i64 W6] a1 fun a3 a4 => ∃ (a0 : Bool), a3 = .returned (.bool a0) ∧
 R (.bool a0) a4) else (
 R (.bool false) a1)) else (
 R (.bool false) a1)

theorem Q0U.ok (a0 a1 : Int) {R : RW} {w : World} (h : Q0U.M a0 a1 R w) : Calls Try.prog 68 #[.agg #[.int .i64 a0, .int .i64 a1]] w fun e w' => ∃ v, e = .returned v ∧ R v w' :=
  Q0i follows (H := []) (args := [.agg #[.int .i64 a0, .int .i64 a1]]) (cast (by kernel_rfl) h)

def Q0U.N (a1 a3 : Int) (R : RW) (w : World) : Prop :=
 (a1 > 0 →
 (a1 ≤ 1099511627776 →
 ∀ (a2 : World), Ext no w a2 →
 R (.bool (Q0T.F a3)) a2) ∧
 ((1099511627776 : Int) < a1 →
 ∀ (a0 : World), Ext no w a0 →
 R (.bool false) a0)) ∧
 (a1 ≤ 0 →
 ∀ (a0 : World), Ext no w a0 →
 R (.bool false) a0)

theorem Q0U.up (a1 a0 : Int) {R : RW} {w : World} (h : Q0U.N a1 a0 R w) : Q0U.M a1 a0 R w := by
  unfold Q0U.M
  unfold Q0U.N at h
  refine Q01 fun a4 e3 => ?_
  have a2 := Blk.of_new e3
  have a6 := ((Ext.refl no w)).size
  have a3 := (Ext.refl no w).x_alloc e3
  refine ⟨a1, a2.celli 0 rfl rfl, ?_⟩
  refine bif_fo (fun c4 => ?_) (fun c4 => ?_)
  ·have h := h.2 (Int.not_lt.1 (of_decide_eq_false c4))
   have h := h a4 a3
   exact h
  have h := h.1 (of_decide_eq_true c4)
  refine ⟨a1, a2.celli 0 rfl rfl, ?_⟩
  refine bif_fo (fun c5 => ?_) (fun c5 => ?_)
  ·have h := h.2 (Int.not_le.1 (of_decide_eq_false c5))
   have h := h a4 a3
   exact h
  have h := h.1 (of_decide_eq_true c5)
  refine ⟨a0, a2.celli 1 rfl rfl, ?_⟩
  refine (Q0T.pure a0).mono fun ee ww6 ⟨he, hxx⟩ => ⟨(Q0T.F a0), he, ?_⟩
  have a5 := a3.trans hxx
  have h := h ww6 a5
  exact h

theorem Q0U.go (a0 a1 : Int) {R : RW} {w : World} (h : Q0U.N a0 a1 R w) : Calls Try.prog 68 #[.agg #[.int .i64 a0, .int .i64 a1]] w fun e w' => ∃ v, e = .returned v ∧ R v w' := Q0U.ok a0 a1 (Q0U.up a0 a1 h)
theorem Q0U.run (a0 a1 : Int) {V : Value} {Q : World → Prop} {w : World} (h : Q0U.N a0 a1 (fun v w' => v = V ∧ Q w') w) : Calls Try.prog 68 #[.agg #[.int .i64 a0, .int .i64 a1]] w (Ret V Q) := (Q0U.go a0 a1 h).mono fun e w' ⟨v, he, hv, hq⟩ => ⟨by rw [he, hv], hq⟩

def Q0U.F (a0 a1 : Int) : Bool :=
  if a0 > 0 then
    if a0 ≤ 1099511627776 then
      (Q0T.F a1)
    else
      false
  else
    false
theorem Q0U.pure (a0 a1 : Int) {w : World} : Calls Try.prog 68 #[.agg #[.int .i64 a0, .int .i64 a1]] w (Ret (.bool (Q0U.F a0 a1)) fun w' => Ext no w w') := by
  refine Q0U.run a0 a1 ?_
  unfold Q0U.N
  refine ⟨fun c0 => ?_, fun c0 => ?_⟩
  ·refine ⟨fun c1 => ?_, fun c1 => ?_⟩
   ·intro w' hx; exact ⟨by unfold Q0U.F; rw [if_pos c0, if_pos c1], hx⟩
   ·intro w' hx; exact ⟨by unfold Q0U.F; rw [if_pos c0, if_neg (show ¬ (a0 ≤ 1099511627776) from by omega)], hx⟩
  ·intro w' hx; exact ⟨by unfold Q0U.F; rw [if_neg (show ¬ (a0 > 0) from by omega)], hx⟩

def Q0M.M (b1 bf bm bo bp bb : Int) (b6 : Option Addr) (bc bd : Nat) (bq : Int) (R : RW) (w : World) : Prop :=
 thenW (w.alloc (.cells #[.int .i64 b1, .int .i64 bf, .int .u64 bm, .int .i64 bo, .int .i64 bp, .int .i64 bb, .slice b6 bc bd, .int .u64 bq] 42)) fun c1 =>
 ∃ (ab : Int), c1.cell? ((blk w.heap.size).add 0) = some (.int .i64 ab) ∧
 Calls Try.prog 67 #[.int .i64 ab, .int .i64 0, .int .i64 8] c1 fun br au => ∃ (a3 : Bool), br = .returned (.bool a3) ∧
 bif !a3 then (
 bif !a3 then (
 R (.bool false) au) else (
 ∃ (bg bl : Int), cellsAt au ((blk w.heap.size).add 3) [.int .i64 bg, .int .i64 bl] 0 ∧
 Calls Try.prog 68 #[.agg #[.int .i64 bg, .int .i64 bl]] au fun bu a0 => ∃ (a9 : Bool), bu = .returned (.bool a9) ∧
 bif !a9 then (
 bif !a9 then (
 R (.bool false) a0) else (
 ∃ (aw : Int), a0.cell? ((blk w.heap.size).add 2) = some (.int .u64 aw) ∧
 ∃ (ao : Int), a0.cell? ((blk w.heap.size).add 1) = some (.int .i64 ao) ∧
 R (.bool ((aw == 0) == (ao == 0))) a0)) else (
 ∃ (bx : Int), a0.cell? (((blk w.heap.size).add 3).add 1) = some (.int .i64 bx) ∧
 ∃ (a4 : Int), a0.cell? ((blk w.heap.size).add 0) = some (.int .i64 a4) ∧
 bif bx != a4 then (
 bif bx != a4 then (
 R (.bool false) a0) else (
 ∃ (ar : Int), a0.cell? ((blk w.heap.size).add 2) = some (.int .u64 ar) ∧
 ∃ (ap : Int), a0.cell? ((blk w.heap.size).add 1) = some (.int .i64 ap) ∧
 R (.bool ((ar == 0) == (ap == 0))) a0)) else (
 ∃ (b5 : Option Addr) (ad ba : Nat), a0.cell? ((blk w.heap.size).add 6) = some (.slice b5 ad ba) ∧
 bif decide ((ad : Int) > 1100) then (
 R (.bool false) a0) else (
 ∃ (b3 : Int), a0.cell? ((blk w.heap.size).add 2) = some (.int .u64 b3) ∧
 ∃ (aq : Int), a0.cell? ((blk w.heap.size).add 1) = some (.int .i64 aq) ∧
 R (.bool ((b3 == 0) == (aq == 0))) a0))))) else (
 ∃ (af : Int), au.cell? ((blk w.heap.size).add 1) = some (.int .i64 af) ∧
 Calls Try.prog 67 #[.int .i64 af, .int .i64 0, .int .i64 200] au fun c0 az => ∃ (a6 : Bool), c0 = .returned (.bool a6) ∧
 bif !a6 then (
 bif !a6 then (
 R (.bool false) az) else (
 ∃ (bi bh : Int), cellsAt az ((blk w.heap.size).add 3) [.int .i64 bi, .int .i64 bh] 0 ∧
 Calls Try.prog 68 #[.agg #[.int .i64 bi, .int .i64 bh]] az fun bv a2 => ∃ (aa : Bool), bv = .returned (.bool aa) ∧
 bif !aa then (
 bif !aa then (
 R (.bool false) a2) else (
 ∃ (b0 : Int), a2.cell? ((blk w.heap.size).add 2) = some (.int .u64 b0) ∧
 ∃ (ah : Int), a2.cell? ((blk w.heap.size).add 1) = some (.int .i64 ah) ∧
 R (.bool ((b0 == 0) == (ah == 0))) a2)) else (
 ∃ (bs : Int), a2.cell? (((blk w.heap.size).add 3).add 1) = some (.int .i64 bs) ∧
 ∃ (a5 : Int), a2.cell? ((blk w.heap.size).add 0) = some (.int .i64 a5) ∧
 bif bs != a5 then (
 bif bs != a5 then (
 R (.bool false) a2) else (
 ∃ (b2 : Int), a2.cell? ((blk w.heap.size).add 2) = some (.int .u64 b2) ∧
 ∃ (al : Int), a2.cell? ((blk w.heap.size).add 1) = some (.int .i64 al) ∧
 R (.bool ((b2 == 0) == (al == 0))) a2)) else (
 ∃ (b8 : Option Addr) (ae b9 : Nat), a2.cell? ((blk w.heap.size).add 6) = some (.slice b8 ae b9) ∧
 bif decide ((ae : Int) > 1100) then (
 R (.bool false) a2) else (
 ∃ (av : Int), a2.cell? ((blk w.heap.size).add 2) = some (.int .u64 av) ∧
 ∃ (ag : Int), a2.cell? ((blk w.heap.size).add 1) = some (.int .i64 ag) ∧
 R (.bool ((av == 0) == (ag == 0))) a2))))) else (
 ∃ (ak : Int), az.cell? ((blk w.heap.size).add 5) = some (.int .i64 ak) ∧
 Calls Try.prog 67 #[.int .i64 ak, .int .i64 (-1), .int .i64 20] az fun bt bn => ∃ (ac : Bool), bt = .returned (.bool ac) ∧
 bif !ac then (
 R (.bool false) bn) else (
 ∃ (bj bk : Int), cellsAt bn ((blk w.heap.size).add 3) [.int .i64 bj, .int .i64 bk] 0 ∧
 Calls Try.prog 68 #[.agg #[.int .i64 bj, .int .i64 bk]] bn fun bw a1 => ∃ (a8 : Bool), bw = .returned (.bool a8) ∧
 bif !a8 then (
 bif !a8 then (
 R (.bool false) a1) else (
 ∃ (b4 : Int), a1.cell? ((blk w.heap.size).add 2) = some (.int .u64 b4) ∧
 ∃ (an : Int), a1.cell? ((blk w.heap.size).add 1) = some (.int .i64 an) ∧
 R (.bool ((b4 == 0) == (an == 0))) a1)) else (
 ∃ (bz : Int), a1.cell? (((blk w.heap.size).add 3).add 1) = some (.int .i64 bz) ∧
 ∃ (a7 : Int), a1.cell? ((blk w.heap.size).add 0) = some (.int .i64 a7) ∧
 bif bz != a7 then (
 bif bz != a7 then (
 R (.bool false) a1) else (
 ∃ (ax : Int), a1.cell? ((blk w.heap.size).add 2) = some (.int .u64 ax) ∧
 ∃ (ai : Int), a1.cell? ((blk w.heap.size).add 1) = some (.int .i64 ai) ∧
 R (.bool ((ax == 0) == (ai == 0))) a1)) else (
 ∃ (b7 : Option Addr) (aj be : Nat), a1.cell? ((blk w.heap.size).add 6) = some (.slice b7 aj be) ∧
 bif decide ((aj : Int) > 1100) then (
 R (.bool false) a1) else (
 ∃ (ay : Int), a1.cell? ((blk w.heap.size).add 2) = some (.int .u64 ay) ∧
 ∃ (am : Int), a1.cell? ((blk w.heap.size).add 1) = some (.int .i64 am) ∧
 R (.bool ((ay == 0) == (am == 0))) a1))))))

theorem Q0M.ok (a0 a3 a6 a7 a8 a4 : Int) (a2 : Option Addr) (a5 a1 : Nat) (a9 : Int) {R : RW} {w : World} (h : Q0M.M a0 a3 a6 a7 a8 a4 a2 a5 a1 a9 R w) : Calls Try.prog 30 #[.agg #[.int .i64 a0, .int .i64 a3, .int .u64 a6, .int .i64 a7, .int .i64 a8, .int .i64 a4, .slice a2 a5 a1, .int .u64 a9]] w fun e w' => ∃ v, e = .returned v ∧ R v w' :=
  Q0i follows (H := []) (args := [.agg #[.int .i64 a0, .int .i64 a3, .int .u64 a6, .int .i64 a7, .int .i64 a8, .int .i64 a4, .slice a2 a5 a1, .int .u64 a9]]) (cast (by kernel_rfl) h)

def Q0M.N (a0 a2 a7 a6 a3 a4 : Int) (ac : Option Addr) (a5 ab : Nat) (ad : Int) (R : RW) (w : World) : Prop :=
 ((Q0v.F a0 0 8) = false →
 ∀ (a9 : World), Ext no w a9 →
 R (.bool false) a9) ∧
 ((Q0v.F a0 0 8) = true →
 ((Q0v.F a2 0 200) = false →
 ∀ (aa : World), Ext no w aa →
 R (.bool false) aa) ∧
 ((Q0v.F a2 0 200) = true →
 ((Q0v.F a4 (-1) 20) = false →
 ∀ (a8 : World), Ext no w a8 →
 R (.bool false) a8) ∧
 ((Q0v.F a4 (-1) 20) = true →
 ((Q0U.F a6 a3) = false →
 ∀ (a1 : World), Ext no w a1 →
 R (.bool false) a1) ∧
 ((Q0U.F a6 a3) = true →
 (a3 ≠ a0 →
 ∀ (a1 : World), Ext no w a1 →
 R (.bool false) a1) ∧
 (a3 = a0 →
 ((a5 : Int) > 1100 →
 ∀ (a1 : World), Ext no w a1 →
 R (.bool false) a1) ∧
 ((a5 : Int) ≤ 1100 →
 ∀ (a1 : World), Ext no w a1 →
 R (.bool ((a7 == 0) == (a2 == 0))) a1))))))

theorem Q0M.up (a0 a1 a9 a8 a3 a2 : Int) (a4 : Option Addr) (a5 a6 : Nat) (ab : Int) {R : RW} {w : World} (h : Q0M.N a0 a1 a9 a8 a3 a2 a4 a5 a6 ab R w) : Q0M.M a0 a1 a9 a8 a3 a2 a4 a5 a6 ab R w := by
  unfold Q0M.M
  unfold Q0M.N at h
  refine Q01 fun an e9 => ?_
  have a7 := Blk.of_new e9
  have am := ((Ext.refl no w)).size
  have al := (Ext.refl no w).x_alloc e9
  refine ⟨a0, a7.celli 0 rfl rfl, ?_⟩
  refine (Q0v.pure a0 0 8).mono fun ee ww10 ⟨he, hxx⟩ => ⟨(Q0v.F a0 0 8), he, ?_⟩
  have ac := al.trans hxx
  have a7 := a7.ext hxx id
  refine bif_of (fun ah => ?_) (fun ah => ?_)
  ·have h := h.1 (not_t ah)
   refine bif_tt ah ?_
   have h := h ww10 ac
   exact h
  have h := h.2 (not_f ah)
  refine ⟨a1, a7.celli 1 rfl rfl, ?_⟩
  refine (Q0v.pure a1 0 200).mono fun ee ww13 ⟨he, hxx⟩ => ⟨(Q0v.F a1 0 200), he, ?_⟩
  have ae := ac.trans hxx
  have a7 := a7.ext hxx id
  refine bif_of (fun ag => ?_) (fun ag => ?_)
  ·have h := h.1 (not_t ag)
   refine bif_tt ag ?_
   have h := h ww13 ae
   exact h
  have h := h.2 (not_f ag)
  refine ⟨a2, a7.celli 5 rfl rfl, ?_⟩
  refine (Q0v.pure a2 (-1) 20).mono fun ee ww16 ⟨he, hxx⟩ => ⟨(Q0v.F a2 (-1) 20), he, ?_⟩
  have ad := ae.trans hxx
  have a7 := a7.ext hxx id
  refine bif_of (fun ak => ?_) (fun ak => ?_)
  ·have h := h.1 (not_t ak)
   have h := h ww16 ad
   exact h
  have h := h.2 (not_f ak)
  refine ⟨a8, a3, ⟨a7.celli 3 rfl rfl, a7.celli 4 rfl rfl, trivial⟩, ?_⟩
  refine (Q0U.pure a8 a3).mono fun ee ww19 ⟨he, hxx⟩ => ⟨(Q0U.F a8 a3), he, ?_⟩
  have aa := ad.trans hxx
  have a7 := a7.ext hxx id
  refine bif_of (fun af => ?_) (fun af => ?_)
  ·have h := h.1 (not_t af)
   refine bif_tt af ?_
   have h := h ww19 aa
   exact h
  have h := h.2 (not_f af)
  refine ⟨a3, a7.celli 4 rfl rfl, ?_⟩
  refine ⟨a0, a7.celli 0 rfl rfl, ?_⟩
  refine bif_of (fun ai => ?_) (fun ai => ?_)
  ·have h := h.1 (bne_t ai)
   refine bif_tt ai ?_
   have h := h ww19 aa
   exact h
  have h := h.2 (bne_f ai)
  refine ⟨a4, a5, a6, a7.celli 6 rfl rfl, ?_⟩
  refine bif_of (fun aj => ?_) (fun aj => ?_)
  ·have h := h.1 (of_decide_eq_true aj)
   have h := h ww19 aa
   exact h
  have h := h.2 (Int.not_lt.1 (of_decide_eq_false aj))
  refine ⟨a9, a7.celli 2 rfl rfl, ?_⟩
  refine ⟨a1, a7.celli 1 rfl rfl, ?_⟩
  have h := h ww19 aa
  exact h

theorem Q0M.go (a0 a3 a6 a7 a8 a4 : Int) (a2 : Option Addr) (a5 a1 : Nat) (a9 : Int) {R : RW} {w : World} (h : Q0M.N a0 a3 a6 a7 a8 a4 a2 a5 a1 a9 R w) : Calls Try.prog 30 #[.agg #[.int .i64 a0, .int .i64 a3, .int .u64 a6, .int .i64 a7, .int .i64 a8, .int .i64 a4, .slice a2 a5 a1, .int .u64 a9]] w fun e w' => ∃ v, e = .returned v ∧ R v w' := Q0M.ok a0 a3 a6 a7 a8 a4 a2 a5 a1 a9 (Q0M.up a0 a3 a6 a7 a8 a4 a2 a5 a1 a9 h)
theorem Q0M.run (a0 a3 a6 a7 a8 a4 : Int) (a2 : Option Addr) (a5 a1 : Nat) (a9 : Int) {V : Value} {Q : World → Prop} {w : World} (h : Q0M.N a0 a3 a6 a7 a8 a4 a2 a5 a1 a9 (fun v w' => v = V ∧ Q w') w) : Calls Try.prog 30 #[.agg #[.int .i64 a0, .int .i64 a3, .int .u64 a6, .int .i64 a7, .int .i64 a8, .int .i64 a4, .slice a2 a5 a1, .int .u64 a9]] w (Ret V Q) := (Q0M.go a0 a3 a6 a7 a8 a4 a2 a5 a1 a9 h).mono fun e w' ⟨v, he, hv, hq⟩ => ⟨by rw [he, hv], hq⟩

def Q0M.F (a0 a1 a5 a6 a4 a2 : Int) (a8 : Option Addr) (a3 a7 : Nat) (a9 : Int) : Bool :=
  if (Q0v.F a0 0 8) = false then
    false
  else
    if (Q0v.F a1 0 200) = false then
      false
    else
      if (Q0v.F a2 (-1) 20) = false then
        false
      else
        if (Q0U.F a6 a4) = false then
          false
        else
          if a4 ≠ a0 then
            false
          else
            if (a3 : Int) > 1100 then
              false
            else
              ((a5 == 0) == (a1 == 0))
theorem Q0M.pure (a1 a4 a6 a7 a8 a5 : Int) (a3 : Option Addr) (a0 a2 : Nat) (a9 : Int) {w : World} : Calls Try.prog 30 #[.agg #[.int .i64 a1, .int .i64 a4, .int .u64 a6, .int .i64 a7, .int .i64 a8, .int .i64 a5, .slice a3 a0 a2, .int .u64 a9]] w (Ret (.bool (Q0M.F a1 a4 a6 a7 a8 a5 a3 a0 a2 a9)) fun w' => Ext no w w') := by
  refine Q0M.run a1 a4 a6 a7 a8 a5 a3 a0 a2 a9 ?_
  unfold Q0M.N
  refine ⟨fun c0 => ?_, fun c0 => ?_⟩
  ·intro w' hx; exact ⟨by unfold Q0M.F; rw [if_pos c0], hx⟩
  ·refine ⟨fun c1 => ?_, fun c1 => ?_⟩
   ·intro w' hx; exact ⟨by unfold Q0M.F; rw [if_neg (by rw [c0]; decide), if_pos c1], hx⟩
   ·refine ⟨fun c2 => ?_, fun c2 => ?_⟩
    ·intro w' hx; exact ⟨by unfold Q0M.F; rw [if_neg (by rw [c0]; decide), if_neg (by rw [c1]; decide), if_pos c2], hx⟩
    ·refine ⟨fun c3 => ?_, fun c3 => ?_⟩
     ·intro w' hx; exact ⟨by unfold Q0M.F; rw [if_neg (by rw [c0]; decide), if_neg (by rw [c1]; decide), if_neg (by rw [c2]; decide), if_pos c3], hx⟩
     ·refine ⟨fun c4 => ?_, fun c4 => ?_⟩
      ·intro w' hx; exact ⟨by unfold Q0M.F; rw [if_neg (by rw [c0]; decide), if_neg (by rw [c1]; decide), if_neg (by rw [c2]; decide), if_neg (by rw [c3]; decide), if_pos c4], hx⟩
      ·refine ⟨fun c5 => ?_, fun c5 => ?_⟩
       ·intro w' hx; exact ⟨by unfold Q0M.F; rw [if_neg (by rw [c0]; decide), if_neg (by rw [c1]; decide), if_neg (by rw [c2]; decide), if_neg (by rw [c3]; decide), if_neg (not_not_intro c4), if_pos c5], hx⟩
       ·intro w' hx; exact ⟨by unfold Q0M.F; rw [if_neg (by rw [c0]; decide), if_neg (by rw [c1]; decide), if_neg (by rw [c2]; decide), if_neg (by rw [c3]; decide), if_neg (not_not_intro c4), if_neg (show ¬ ((a0 : Int) > 1100) from by omega)], hx⟩

structure Ent where
  w : Int
  i : Int
  pv : Int
  t : Int
  tw : Int
  ep : Int
  body : List UInt8
  sg : Int
deriving DecidableEq
def entV (e : Ent) (a : Option Addr) (c : Nat) : Value := .agg #[.int .i64 e.w, .int .i64 e.i, .int .u64 e.pv, .int .i64 e.t, .int .i64 e.tw, .int .i64 e.ep, .slice a e.body.length c, .int .u64 e.sg]
def Q1Z (e : Ent) : Bool := decide (0 ≤ e.w ∧ e.w < 8 ∧ 0 ≤ e.i ∧ e.i < 200 ∧ -1 ≤ e.ep ∧ e.ep < 20 ∧ 0 < e.t ∧ e.t ≤ 1099511627776 ∧ e.tw = e.w ∧ e.body.length ≤ 1100 ∧ (e.pv = 0 ↔ e.i = 0))
theorem beq_dec (x y : Int) : ((x == 0) == (y == 0)) = decide (x = 0 ↔ y = 0) := by
  rw [Bool.eq_iff_iff, decide_eq_true_eq, beq_iff_eq, Bool.eq_iff_iff, beq_iff_eq, beq_iff_eq]
theorem Q6H (n a b : Int) : Q0v.F n a b = decide (a ≤ n ∧ n < b) := by
  unfold Q0v.F
  by_cases h : n ≥ a
  · rw [if_pos h, decide_eq_decide]; omega
  · rw [if_neg h, eq_comm, decide_eq_false_iff_not]; omega
theorem Q4I (t w : Int) : Q0U.F t w = decide (0 < t ∧ t ≤ 1099511627776 ∧ 0 ≤ w ∧ w < 8) := by
  unfold Q0U.F Q0T.F
  by_cases h : t > 0
  · rw [if_pos h]
    by_cases h1 : t ≤ 1099511627776
    · rw [if_pos h1]
      by_cases h2 : w ≥ 0
      · rw [if_pos h2, decide_eq_decide]; omega
      · rw [if_neg h2, eq_comm, decide_eq_false_iff_not]; omega
    · rw [if_neg h1, eq_comm, decide_eq_false_iff_not]; omega
  · rw [if_neg h, eq_comm, decide_eq_false_iff_not]; omega
theorem Q3H (e : Ent) (a : Option Addr) (c : Nat) : Q0M.F e.w e.i e.pv e.t e.tw e.ep a e.body.length c e.sg = Q1Z e := by
  unfold Q0M.F Q1Z
  rw [beq_dec]
  simp only [Q6H, Q4I, decide_eq_false_iff_not]
  rw [Bool.eq_iff_iff, decide_eq_true_eq]
  (repeat' split) <;> simp only [Bool.false_eq_true, decide_eq_true_eq, false_iff] <;> omega
def boundL (w i e : Int) : List UInt8 := numL w.toNat ++ numL i.toNat ++ numL (zig e)
/-! ### the plain law -/
theorem Q6a {t : Int} (h0 : -9223372036854775808 ≤ t) (h1 : t < 9223372036854775808) (r : List UInt8) : intR (numL (zig t) ++ r, 0) = (t, (r, 0)) := by
  unfold intR
  rw [W.numR_write (W.zig_lt h0 h1), W.unzig_zig]
theorem Q2P (e : Ent) : Q1Z e = true ↔ (0 ≤ e.w ∧ e.w < 8 ∧ 0 ≤ e.i ∧ e.i < 200 ∧ -1 ≤ e.ep ∧ e.ep < 20 ∧ 0 < e.t ∧ e.t ≤ 1099511627776 ∧ e.tw = e.w ∧ e.body.length ≤ 1100 ∧ (e.pv = 0 ↔ e.i = 0)) := decide_eq_true_iff
open W (OwnB GivesW numR countR doneR zig unzig intR)
def Q1e.M (a1 a0 ab : Int) (R : RW) (w : World) : Prop :=
 Calls Try.prog 74 #[.slice none 0 0, .int .u64 (IntKind.u64.wrap (if (0 : Int) > a1 then 0 else a1))] w fun ag af => ∃ (a5 : Option Addr) (aa a7 : Nat), ag = .returned (.slice a5 aa a7) ∧
 Calls Try.prog 74 #[.slice a5 aa a7, .int .u64 (IntKind.u64.wrap (if (0 : Int) > a0 then 0 else a0))] af fun ae ah => ∃ (a6 : Option Addr) (a9 a8 : Nat), ae = .returned (.slice a6 a9 a8) ∧
 Calls Try.prog 88 #[.slice a6 a9 a8, .int .i64 ab] ah fun ac ad => ∃ (a4 : Option Addr) (a2 a3 : Nat), ac = .returned (.slice a4 a2 a3) ∧
 R (.slice a4 a2 a3) ad

theorem Q1e.ok (a1 a0 a2 : Int) {R : RW} {w : World} (h : Q1e.M a1 a0 a2 R w) : Calls Try.prog 65 #[.int .i64 a1, .int .i64 a0, .int .i64 a2] w fun e w' => ∃ v, e = .returned v ∧ R v w' :=
  Q0i follows (H := []) (args := [.int .i64 a1, .int .i64 a0, .int .i64 a2]) (cast (by kernel_rfl) h)

def Q1e.N (a1 a0 ab : Int) (R : RW) (w : World) : Prop :=
 Calls Try.prog 74 #[.slice none 0 0, .int .u64 (IntKind.u64.wrap (if (0 : Int) > a1 then 0 else a1))] w fun ag af => ∃ (a5 : Option Addr) (aa a7 : Nat), ag = .returned (.slice a5 aa a7) ∧
 Calls Try.prog 74 #[.slice a5 aa a7, .int .u64 (IntKind.u64.wrap (if (0 : Int) > a0 then 0 else a0))] af fun ae ah => ∃ (a6 : Option Addr) (a9 a8 : Nat), ae = .returned (.slice a6 a9 a8) ∧
 Calls Try.prog 88 #[.slice a6 a9 a8, .int .i64 ab] ah fun ac ad => ∃ (a4 : Option Addr) (a2 a3 : Nat), ac = .returned (.slice a4 a2 a3) ∧
 R (.slice a4 a2 a3) ad

theorem Q1e.up (a1 a0 a2 : Int) {R : RW} {w : World} (h : Q1e.N a1 a0 a2 R w) : Q1e.M a1 a0 a2 R w := by
  unfold Q1e.M
  unfold Q1e.N at h
  refine h.mono fun ag af h => ?_
  obtain ⟨a6, ab, a8, he, h⟩ := h
  refine ⟨a6, ab, a8, he, ?_⟩
  refine h.mono fun ae ah h => ?_
  obtain ⟨a7, aa, a9, he, h⟩ := h
  refine ⟨a7, aa, a9, he, ?_⟩
  refine h.mono fun ac ad h => ?_
  obtain ⟨a5, a3, a4, he, h⟩ := h
  refine ⟨a5, a3, a4, he, ?_⟩
  exact h

theorem Q1e.go (a1 a0 a2 : Int) {R : RW} {w : World} (h : Q1e.N a1 a0 a2 R w) : Calls Try.prog 65 #[.int .i64 a1, .int .i64 a0, .int .i64 a2] w fun e w' => ∃ v, e = .returned v ∧ R v w' := Q1e.ok a1 a0 a2 (Q1e.up a1 a0 a2 h)
theorem OwnB.up {N M : Nat} {w : World} {a : Option Addr} {c : Nat} {bs : List UInt8} (h : OwnB N w a c bs) (hM : M ≤ N) : OwnB M w a c bs := ⟨h.own, fun ad ha => ⟨Nat.le_trans hM (h.fr ad ha).1, (h.fr ad ha).2⟩⟩
theorem app {w0 wi w1 : World} {N : Nat} {a xa : Option Addr} {c xc : Nat} {l x : List UInt8} (hB : OwnB N wi a c l) (X : Ext no w0 wi) (h0 : w0.heap.size ≤ N) (hN : N ≤ wi.heap.size) (hx : Ext no wi w1) (hO : RowAt w1 xa (bytesV x)) (hl : l.length + x.length ≤ 100000000) :
    ∃ a' c' w', (Builtin.append_ #[25, 25] 25 #[.slice a l.length c, .slice xa x.length xc]).run Try.prog w1 = .ok (.slice a' (l ++ x).length c') w' ∧ OwnB N w' a' c' (l ++ x) ∧ Ext no w0 w' ∧ Ext (fun b => N ≤ b) w1 w' ∧ N ≤ w'.heap.size := by
  obtain ⟨a', c', w', hr, hO2, hx2⟩ := (hB.no hx).append (t := 25) (ty := 25) Try.underlying25 (Nat.le_trans hN hx.size) (xc := xc) hO hl
  exact ⟨a', c', w', hr, hO2, (X.trans hx).then hx2 fun b hb => .inr (Nat.le_trans h0 hb), hx2, Nat.le_trans hN (Nat.le_trans hx.size hx2.size)⟩
section
variable {w w' : World} {a : Option Addr} {c N p : Nat} {bs : List UInt8} {k : Int}
theorem Q2H {x y z : Int} (hx : x < 9223372036854775808) (hy : y < 9223372036854775808) (hz0 : -9223372036854775808 ≤ z) (hz : z < 9223372036854775808) :
    Calls Try.prog 65 #[.int .i64 x, .int .i64 y, .int .i64 z] w (fun e w' => ∃ a' c', e = .returned (.slice a' (boundL x y z).length c') ∧ OwnB w.heap.size w' a' c' (boundL x y z) ∧ Ext no w w') := by
  refine (Q1e.go x y z (R := fun v w' => ∃ a' c', v = (.slice a' (boundL x y z).length c') ∧ OwnB w.heap.size w' a' c' (boundL x y z) ∧ Ext no w w') ?_).mono fun x w' ⟨v, he, a, c, hv, hw⟩ => ⟨a, c, by rw [he, hv], hw⟩
  unfold Q1e.N
  have e1 : ∀ s : Int, s < 9223372036854775808 → IntKind.u64.wrap (if (0 : Int) > s then 0 else s) = ((s.toNat : Nat) : Int) := fun s hs => by split <;> rw [wu64 (by omega) (by omega)] <;> omega
  rw [e1 x hx, e1 y hy]
  have g1 := W.numL_le x.toNat; have g2 := W.numL_le y.toNat
  refine (W.Num_spec (bs := []) (RowAt.nil _ _) (by simp) (n := x.toNat) (by omega)).mono fun e w6 ⟨a1, c1, he, hO1, X6⟩ => ⟨a1, _, c1, he, ?_⟩
  refine (W.Num_spec hO1.row (by simp; omega) (n := y.toNat) (by omega)).mono fun e w9 ⟨a2, c2, he, hO2, X9⟩ => ⟨a2, _, c2, he, ?_⟩
  refine (W.Int_spec hO2.row (by simp; omega) hz0 hz).mono fun e w12 ⟨a3, c3, he, hO3, X12⟩ => ⟨a3, _, c3, he, a3, c3, ?_, ?_, (X6.trans X9).trans X12⟩
  · unfold boundL; simp
  · exact OwnB.up hO3 (X6.trans X9).size
/-! ### reading -/
end
open W (OwnB GivesW numR countR doneR zig unzig intR)
theorem litB {w w1 : World} {t e : TypeId} (hs : Try.prog.underlying t = some (.slice e)) (he : Try.prog.underlying e = some (.int .u8)) (bs : List UInt8) {q : Nat} (X : Ext no w w1) (hb : Blk w1 q e (bytesV bs)) (hq : w.heap.size ≤ q) :
    ∃ w2, (convert t t (.slice (some (blk q)) bs.length bs.length)).run Try.prog w1 = .ok (.slice (some (blk q)) bs.length bs.length) w2 ∧ RowAt w2 (some (blk q)) (bytesV bs) ∧ Ext no w w2 :=
  ⟨_, Q6f hs he hb, (RowAt.of_blk hb).freeze _ _, X.freeze (.inr hq) _⟩
section
variable {w w' : World} {a : Option Addr} {c N p : Nat} {bs : List UInt8} {k : Int}
end
open W (OwnB GivesW numR countR doneR zig unzig intR)
section
variable {w w' : World} {a : Option Addr} {c N p : Nat} {bs : List UInt8} {k : Int}
end
set_option maxRecDepth 100000
def Q0e.M (a9 a6 a5 : Int) (R : RW) (w : World) : Prop :=
 thenW (w.alloc (.cells #[.int .i64 a9, .int .i64 a6, .int .i64 a5] 87)) fun a3 =>
 ∃ (a8 : Int), a3.cell? ((blk w.heap.size).add 0) = some (.int .i64 a8) ∧
 bif decide (a8 ≥ 0) then (
 ∃ (a7 : Int), a3.cell? ((blk w.heap.size).add 0) = some (.int .i64 a7) ∧
 bif decide (a7 < 8) then (
 ∃ (a1 : Int), a3.cell? ((blk w.heap.size).add 1) = some (.int .i64 a1) ∧
 bif decide (a1 ≥ 0) then (
 ∃ (a0 : Int), a3.cell? ((blk w.heap.size).add 1) = some (.int .i64 a0) ∧
 bif decide (a0 < 200) then (
 ∃ (a4 : Int), a3.cell? ((blk w.heap.size).add 2) = some (.int .i64 a4) ∧
 bif decide (a4 ≥ 0) then (
 ∃ (a2 : Int), a3.cell? ((blk w.heap.size).add 2) = some (.int .i64 a2) ∧
 R (.bool (decide (a2 < 20))) a3) else (
 R (.bool false) a3)) else (
 R (.bool false) a3)) else (
 R (.bool false) a3)) else (
 R (.bool false) a3)) else (
 R (.bool false) a3)

theorem Q0e.ok (a2 a0 a1 : Int) {R : RW} {w : World} (h : Q0e.M a2 a0 a1 R w) : Calls Try.prog 27 #[.agg #[.int .i64 a2, .int .i64 a0, .int .i64 a1]] w fun e w' => ∃ v, e = .returned v ∧ R v w' :=
  Q0i follows (H := []) (args := [.agg #[.int .i64 a2, .int .i64 a0, .int .i64 a1]]) (cast (by kernel_rfl) h)

def Q0e.N (a3 a0 a1 : Int) (R : RW) (w : World) : Prop :=
 (a3 ≥ 0 →
 (a3 < 8 →
 (a0 ≥ 0 →
 (a0 < 200 →
 (a1 ≥ 0 →
 ∀ (a2 : World), Ext no w a2 →
 R (.bool (decide (a1 < 20))) a2) ∧
 (a1 < 0 →
 ∀ (a2 : World), Ext no w a2 →
 R (.bool false) a2)) ∧
 ((200 : Int) ≤ a0 →
 ∀ (a2 : World), Ext no w a2 →
 R (.bool false) a2)) ∧
 (a0 < 0 →
 ∀ (a2 : World), Ext no w a2 →
 R (.bool false) a2)) ∧
 ((8 : Int) ≤ a3 →
 ∀ (a2 : World), Ext no w a2 →
 R (.bool false) a2)) ∧
 (a3 < 0 →
 ∀ (a2 : World), Ext no w a2 →
 R (.bool false) a2)

theorem Q0e.up (a5 a1 a0 : Int) {R : RW} {w : World} (h : Q0e.N a5 a1 a0 R w) : Q0e.M a5 a1 a0 R w := by
  unfold Q0e.M
  unfold Q0e.N at h
  refine Q01 fun a4 e4 => ?_
  have a2 := Blk.of_new e4
  have a6 := ((Ext.refl no w)).size
  have a3 := (Ext.refl no w).x_alloc e4
  refine ⟨a5, a2.celli 0 rfl rfl, ?_⟩
  refine bif_fo (fun c5 => ?_) (fun c5 => ?_)
  ·have h := h.2 (Int.not_le.1 (of_decide_eq_false c5))
   have h := h a4 a3
   exact h
  have h := h.1 (of_decide_eq_true c5)
  refine ⟨a5, a2.celli 0 rfl rfl, ?_⟩
  refine bif_fo (fun c6 => ?_) (fun c6 => ?_)
  ·have h := h.2 (Int.not_lt.1 (of_decide_eq_false c6))
   have h := h a4 a3
   exact h
  have h := h.1 (of_decide_eq_true c6)
  refine ⟨a1, a2.celli 1 rfl rfl, ?_⟩
  refine bif_fo (fun c7 => ?_) (fun c7 => ?_)
  ·have h := h.2 (Int.not_le.1 (of_decide_eq_false c7))
   have h := h a4 a3
   exact h
  have h := h.1 (of_decide_eq_true c7)
  refine ⟨a1, a2.celli 1 rfl rfl, ?_⟩
  refine bif_fo (fun c8 => ?_) (fun c8 => ?_)
  ·have h := h.2 (Int.not_lt.1 (of_decide_eq_false c8))
   have h := h a4 a3
   exact h
  have h := h.1 (of_decide_eq_true c8)
  refine ⟨a0, a2.celli 2 rfl rfl, ?_⟩
  refine bif_fo (fun c9 => ?_) (fun c9 => ?_)
  ·have h := h.2 (Int.not_le.1 (of_decide_eq_false c9))
   have h := h a4 a3
   exact h
  have h := h.1 (of_decide_eq_true c9)
  refine ⟨a0, a2.celli 2 rfl rfl, ?_⟩
  have h := h a4 a3
  exact h

theorem Q0e.go (a2 a0 a1 : Int) {R : RW} {w : World} (h : Q0e.N a2 a0 a1 R w) : Calls Try.prog 27 #[.agg #[.int .i64 a2, .int .i64 a0, .int .i64 a1]] w fun e w' => ∃ v, e = .returned v ∧ R v w' := Q0e.ok a2 a0 a1 (Q0e.up a2 a0 a1 h)
theorem Q0e.run (a2 a0 a1 : Int) {V : Value} {Q : World → Prop} {w : World} (h : Q0e.N a2 a0 a1 (fun v w' => v = V ∧ Q w') w) : Calls Try.prog 27 #[.agg #[.int .i64 a2, .int .i64 a0, .int .i64 a1]] w (Ret V Q) := (Q0e.go a2 a0 a1 h).mono fun e w' ⟨v, he, hv, hq⟩ => ⟨by rw [he, hv], hq⟩

def Q0e.F (a2 a1 a0 : Int) : Bool :=
  if a2 ≥ 0 then
    if a2 < 8 then
      if a1 ≥ 0 then
        if a1 < 200 then
          if a0 ≥ 0 then
            (decide (a0 < 20))
          else
            false
        else
          false
      else
        false
    else
      false
  else
    false
theorem Q0e.pure (a2 a0 a1 : Int) {w : World} : Calls Try.prog 27 #[.agg #[.int .i64 a2, .int .i64 a0, .int .i64 a1]] w (Ret (.bool (Q0e.F a2 a0 a1)) fun w' => Ext no w w') := by
  refine Q0e.run a2 a0 a1 ?_
  unfold Q0e.N
  refine ⟨fun c0 => ?_, fun c0 => ?_⟩
  ·refine ⟨fun c1 => ?_, fun c1 => ?_⟩
   ·refine ⟨fun c2 => ?_, fun c2 => ?_⟩
    ·refine ⟨fun c3 => ?_, fun c3 => ?_⟩
     ·refine ⟨fun c4 => ?_, fun c4 => ?_⟩
      ·intro w' hx; exact ⟨by unfold Q0e.F; rw [if_pos c0, if_pos c1, if_pos c2, if_pos c3, if_pos c4], hx⟩
      ·intro w' hx; exact ⟨by unfold Q0e.F; rw [if_pos c0, if_pos c1, if_pos c2, if_pos c3, if_neg (show ¬ (a1 ≥ 0) from by omega)], hx⟩
     ·intro w' hx; exact ⟨by unfold Q0e.F; rw [if_pos c0, if_pos c1, if_pos c2, if_neg (show ¬ (a0 < 200) from by omega)], hx⟩
    ·intro w' hx; exact ⟨by unfold Q0e.F; rw [if_pos c0, if_pos c1, if_neg (show ¬ (a0 ≥ 0) from by omega)], hx⟩
   ·intro w' hx; exact ⟨by unfold Q0e.F; rw [if_pos c0, if_neg (show ¬ (a2 < 8) from by omega)], hx⟩
  ·intro w' hx; exact ⟨by unfold Q0e.F; rw [if_neg (show ¬ (a2 ≥ 0) from by omega)], hx⟩

def Q0s.M  (R : RW) (w : World) : Prop :=
 R (.int .i64 7) w

theorem Q0s.ok  {R : RW} {w : World} (h : Q0s.M  R w) : Calls Try.prog 32 #[] w fun e w' => ∃ v, e = .returned v ∧ R v w' :=
  Q0i follows (H := []) (args := []) (cast (by kernel_rfl) h)

def Q0s.N  (R : RW) (w : World) : Prop :=
 R (.int .i64 7) w

theorem Q0s.up  {R : RW} {w : World} (h : Q0s.N  R w) : Q0s.M  R w := by
  unfold Q0s.M
  unfold Q0s.N at h
  exact h

theorem Q0s.go  {R : RW} {w : World} (h : Q0s.N  R w) : Calls Try.prog 32 #[] w fun e w' => ∃ v, e = .returned v ∧ R v w' := Q0s.ok  (Q0s.up  h)
theorem Q0s.run  {V : Value} {Q : World → Prop} {w : World} (h : Q0s.N  (fun v w' => v = V ∧ Q w') w) : Calls Try.prog 32 #[] w (Ret V Q) := (Q0s.go  h).mono fun e w' ⟨v, he, hv, hq⟩ => ⟨by rw [he, hv], hq⟩

def Q0s.F  : Int :=
  7
theorem Q0s.pure  {w : World} : Calls Try.prog 32 #[] w (Ret (.int .i64 Q0s.F) fun w' => Ext no w w') := by
  refine Q0s.run ?_
  unfold Q0s.N
  exact ⟨by unfold Q0s.F; rfl, Ext.refl _ _⟩

abbrev Q0y.J1 (aj : Int) (ae : Addr) (af : Nat) (an al : Array Value) (ak : Option Addr) (ai am : Nat) (R : RW) (a8 : World) : Prop :=
 ∃ (a9 : Int), a8.cell? (ae.add 0) = some (.int .i64 a9) ∧
 ∃ (a3 : Int), a8.cell? (ae.add 1) = some (.int .i64 a3) ∧
 ∃ (a4 : Int), a8.cell? (ae.add 2) = some (.int .i64 a4) ∧
 Calls Try.prog 65 #[.int .i64 a9, .int .i64 a3, .int .i64 a4] a8 fun ag ab => ∃ (a2 : Option Addr) (a1 a0 : Nat), ag = .returned (.slice a2 a1 a0) ∧
 bif enters Try.prog af then Calls Try.prog af (an.toList ++ ([.int .u64 aj, .slice a2 a1 a0, .slice ak ai am] : List Value) ++ al.toList).toArray ab (fun ah ad => ∃ (a7 : Option Addr) (a6 a5 : Nat) (aa : Int), ah = .returned (.tuple #[.slice a7 a6 a5, .int .i64 aa]) ∧
 R (.tuple #[.slice a7 a6 a5, .int .i64 aa]) ad) else (∃ (a7 : Option Addr) (a6 a5 : Nat) (aa : Int) (ac : World), (Q1l af (an.toList ++ ([.int .u64 aj, .slice a2 a1 a0, .slice ak ai am] : List Value) ++ al.toList).toArray).run Try.prog ab = .ok (.tuple #[.slice a7 a6 a5, .int .i64 aa]) ac ∧
 R (.tuple #[.slice a7 a6 a5, .int .i64 aa]) ac)

def Q0y.M (ad a3 a2 : Int) (a5 : Nat) (a4 a6 : Array Value) (r5 ae : Option Addr) (ac ab : Nat) (R : RW) (w : World) : Prop :=
 thenW (w.alloc (.cells #[.int .i64 ad, .int .i64 a3, .int .i64 a2] 87)) fun aa =>
 ∃ (a1 : Int), aa.cell? ((blk w.heap.size).add 2) = some (.int .i64 a1) ∧
 Calls Try.prog 64 #[.pointer r5, .int .i64 a1] aa fun a9 a8 => ∃ (a7 a0 : Int), a9 = .returned (.tuple #[.int .u64 a7, .int .i64 a0]) ∧
 bif a0 != 0 then (
 R (.tuple #[.slice none 0 0, .int .i64 a0]) a8) else (
 Q0y.J1 a7 (blk w.heap.size) a5 a4 a6 ae ac ab R a8)

theorem Q0y.ok (a7 a1 a0 : Int) (a3 : Nat) (a2 a4 : Array Value) (r5 a8 : Option Addr) (a6 a5 : Nat) {R : RW} {w : World} (h : Q0y.M a7 a1 a0 a3 a2 a4 r5 a8 a6 a5 R w) : Calls Try.prog 28 #[.agg #[.int .i64 a7, .int .i64 a1, .int .i64 a0], .func (.func a3) a2 a4, .pointer r5, .slice a8 a6 a5] w fun e w' => ∃ v, e = .returned v ∧ R v w' :=
  Q0i follows (H := []) (args := [.agg #[.int .i64 a7, .int .i64 a1, .int .i64 a0], .func (.func a3) a2 a4, .pointer r5, .slice a8 a6 a5]) (cast (by kernel_rfl) h)

def Q0y.N (an a6 a3 : Int) (a5 : Nat) (a8 a9 : Array Value) (r5 al : Option Addr) (ao am : Nat) (R : RW) (w : World) : Prop :=
 ∀ (ae : World) (p8 : Nat), Ext no w ae → Priv w ae [p8] →
 Calls Try.prog 64 #[.pointer r5, .int .i64 a3] ae fun ag a7 => ∃ (aa a4 : Int), ag = .returned (.tuple #[.int .u64 aa, .int .i64 a4]) ∧
 Keep [p8] ae a7 ∧
 (a4 ≠ 0 →
 R (.tuple #[.slice none 0 0, .int .i64 a4]) a7) ∧
 (a4 = 0 →
 Calls Try.prog 65 #[.int .i64 an, .int .i64 a6, .int .i64 a3] a7 fun ai ah => ∃ (a0 : Option Addr) (a1 a2 : Nat), ai = .returned (.slice a0 a1 a2) ∧
 enters Try.prog a5 = true ∧ Calls Try.prog a5 (a8.toList ++ ([.int .u64 aa, .slice a0 a1 a2, .slice al ao am] : List Value) ++ a9.toList).toArray ah (fun af aj => ∃ (ad : Option Addr) (ab ac : Nat) (ak : Int), af = .returned (.tuple #[.slice ad ab ac, .int .i64 ak]) ∧
 R (.tuple #[.slice ad ab ac, .int .i64 ak]) aj))

theorem Q0y.up (ac a1 a0 : Int) (a3 : Nat) (a5 a7 : Array Value) (r5 ag : Option Addr) (ai ah : Nat) {R : RW} {w : World} (h : Q0y.N ac a1 a0 a3 a5 a7 r5 ag ai ah R w) : Q0y.M ac a1 a0 a3 a5 a7 r5 ag ai ah R w := by
  unfold Q0y.M
  unfold Q0y.N at h
  refine Q01 fun ao e7 => ?_
  have a8 := Blk.of_new e7
  have ak := ((Ext.refl no w)).size
  have ap := (Ext.refl no w).x_alloc e7
  refine ⟨a0, a8.celli 2 rfl rfl, ?_⟩
  have h := h ao (w.heap.size) ap (Priv.cons ak a8.lt Priv.nil)
  refine h.mono fun am ar h => ?_
  obtain ⟨aa, a9, he, hk, h⟩ := h
  refine ⟨aa, a9, he, ?_⟩
  have a8 := hk.blk a8 (by simp)
  refine bif_of (fun ad => ?_) (fun ad => ?_)
  ·have h := h.1 (bne_t ad)
   exact h
  have h := h.2 (bne_f ad)
  unfold Q0y.J1
  refine ⟨ac, a8.celli 0 rfl rfl, ?_⟩
  refine ⟨a1, a8.celli 1 rfl rfl, ?_⟩
  refine ⟨a0, a8.celli 2 rfl rfl, ?_⟩
  refine h.mono fun aq an h => ?_
  obtain ⟨a2, a4, a6, he, h⟩ := h
  refine ⟨a2, a4, a6, he, ?_⟩
  obtain ⟨hen, h⟩ := h
  refine bif_tt hen ?_
  refine h.mono fun al au h => ?_
  obtain ⟨af, ab, ae, aj, he, h⟩ := h
  refine ⟨af, ab, ae, aj, he, ?_⟩
  exact h

theorem Q0y.go (a7 a1 a0 : Int) (a3 : Nat) (a2 a4 : Array Value) (r5 a8 : Option Addr) (a6 a5 : Nat) {R : RW} {w : World} (h : Q0y.N a7 a1 a0 a3 a2 a4 r5 a8 a6 a5 R w) : Calls Try.prog 28 #[.agg #[.int .i64 a7, .int .i64 a1, .int .i64 a0], .func (.func a3) a2 a4, .pointer r5, .slice a8 a6 a5] w fun e w' => ∃ v, e = .returned v ∧ R v w' := Q0y.ok a7 a1 a0 a3 a2 a4 r5 a8 a6 a5 (Q0y.up a7 a1 a0 a3 a2 a4 r5 a8 a6 a5 h)
def Q11.M (o1 r2 : Option Addr) (al a8 ae : Int) (ad : Option Addr) (aa ab : Nat) (R : RW) (w : World) : Prop :=
 thenW (w.alloc (.cells #[.int .i64 0, .int .i64 0, .int .i64 0] 87)) fun am =>
 putsK am (blk w.heap.size) [.int .i64 al, .int .i64 a8, .int .i64 ae] 0 fun aj =>
 ∃ (ak a0 a2 : Int), cellsAt aj (blk w.heap.size) [.int .i64 ak, .int .i64 a0, .int .i64 a2] 0 ∧
 Calls Try.prog 27 #[.agg #[.int .i64 ak, .int .i64 a0, .int .i64 a2]] aj fun ag ac => ∃ (a4 : Bool), ag = .returned (.bool a4) ∧
 bif !a4 then (
 R (.tuple #[.slice none 0 0, .int .i64 1]) ac) else (
 ∃ (af a3 a1 : Int), cellsAt ac (blk w.heap.size) [.int .i64 af, .int .i64 a3, .int .i64 a1] 0 ∧
 Calls Try.prog 28 #[.agg #[.int .i64 af, .int .i64 a3, .int .i64 a1], .func (.func 29) #[.pointer o1] #[], .pointer r2, .slice ad aa ab] ac fun ah ai => ∃ (a5 : Option Addr) (a6 a7 : Nat) (a9 : Int), ah = .returned (.tuple #[.slice a5 a6 a7, .int .i64 a9]) ∧
 R (.tuple #[.slice a5 a6 a7, .int .i64 a9]) ai)

theorem Q11.ok (o1 r2 : Option Addr) (a5 a0 a2 : Int) (a1 : Option Addr) (a3 a4 : Nat) {R : RW} {w : World} (h : Q11.M o1 r2 a5 a0 a2 a1 a3 a4 R w) : Calls Try.prog 8 #[.pointer o1, .pointer r2, .int .i64 a5, .int .i64 a0, .int .i64 a2, .slice a1 a3 a4] w fun e w' => ∃ v, e = .returned v ∧ R v w' :=
  Q0i follows (H := []) (args := [.pointer o1, .pointer r2, .int .i64 a5, .int .i64 a0, .int .i64 a2, .slice a1 a3 a4]) (cast (by kernel_rfl) h)

def Q11.N (o1 r2 : Option Addr) (aa a0 a1 : Int) (a6 : Option Addr) (a7 a8 : Nat) (R : RW) (w : World) : Prop :=
 ((Q0e.F aa a0 a1) = false →
 ∀ (a9 : World), Ext no w a9 →
 R (.tuple #[.slice none 0 0, .int .i64 1]) a9) ∧
 ((Q0e.F aa a0 a1) = true →
 ∀ (a9 : World), Ext no w a9 →
 Calls Try.prog 28 #[.agg #[.int .i64 aa, .int .i64 a0, .int .i64 a1], .func (.func 29) #[.pointer o1] #[], .pointer r2, .slice a6 a7 a8] a9 fun ac ab => ∃ (a2 : Option Addr) (a3 a4 : Nat) (a5 : Int), ac = .returned (.tuple #[.slice a2 a3 a4, .int .i64 a5]) ∧
 R (.tuple #[.slice a2 a3 a4, .int .i64 a5]) ab)

theorem Q11.up (o1 r2 : Option Addr) (a7 a0 a1 : Int) (a4 : Option Addr) (a2 a3 : Nat) {R : RW} {w : World} (h : Q11.N o1 r2 a7 a0 a1 a4 a2 a3 R w) : Q11.M o1 r2 a7 a0 a1 a4 a2 a3 R w := by
  unfold Q11.M
  unfold Q11.N at h
  refine Q01 fun aj e7 => ?_
  have a5 := Blk.of_new e7
  have ad := ((Ext.refl no w)).size
  have ag := (Ext.refl no w).x_alloc e7
  refine Q0p (k := 0) (j := 0) a5 (Nat.le_of_ble_eq_true rfl) fun af X8 b8 => ?_
  have ai := ag.x_puts X8 (.inr ad)
  have a5 : Blk af w.heap.size 87 [.int .i64 a7, .int .i64 a0, .int .i64 a1] := b8
  refine ⟨a7, a0, a1, ⟨a5.celli 0 rfl rfl, a5.celli 1 rfl rfl, a5.celli 2 rfl rfl, trivial⟩, ?_⟩
  refine (Q0e.pure a7 a0 a1).mono fun ee ww9 ⟨he, hxx⟩ => ⟨(Q0e.F a7 a0 a1), he, ?_⟩
  have ac := ai.trans hxx
  have a5 := a5.ext hxx id
  refine bif_of (fun ab => ?_) (fun ab => ?_)
  ·have h := h.1 (not_t ab)
   have h := h ww9 ac
   exact h
  have h := h.2 (not_f ab)
  refine ⟨a7, a0, a1, ⟨a5.celli 0 rfl rfl, a5.celli 1 rfl rfl, a5.celli 2 rfl rfl, trivial⟩, ?_⟩
  have h := h ww9 ac
  refine h.mono fun ah ae h => ?_
  obtain ⟨a9, a8, a6, aa, he, h⟩ := h
  refine ⟨a9, a8, a6, aa, he, ?_⟩
  exact h

theorem Q11.go (o1 r2 : Option Addr) (a5 a0 a2 : Int) (a1 : Option Addr) (a3 a4 : Nat) {R : RW} {w : World} (h : Q11.N o1 r2 a5 a0 a2 a1 a3 a4 R w) : Calls Try.prog 8 #[.pointer o1, .pointer r2, .int .i64 a5, .int .i64 a0, .int .i64 a2, .slice a1 a3 a4] w fun e w' => ∃ v, e = .returned v ∧ R v w' := Q11.ok o1 r2 a5 a0 a2 a1 a3 a4 (Q11.up o1 r2 a5 a0 a2 a1 a3 a4 h)
def Q14.M (o1 r2 : Option Addr) (al an av ax ay ap : Int) (ar : Option Addr) (aq ao : Nat) (aw : Int) (R : RW) (w : World) : Prop :=
 thenW (w.alloc (.cells #[.int .i64 al, .int .i64 an, .int .u64 av, .int .i64 ax, .int .i64 ay, .int .i64 ap, .slice ar aq ao, .int .u64 aw] 42)) fun az =>
 ∃ (a0 a6 ac ai aj a4 : Int) (a3 : Option Addr) (a1 a2 : Nat) (ak : Int), cellsAt az (blk w.heap.size) [.int .i64 a0, .int .i64 a6, .int .u64 ac, .int .i64 ai, .int .i64 aj, .int .i64 a4, .slice a3 a1 a2, .int .u64 ak] 0 ∧
 Calls Try.prog 30 #[.agg #[.int .i64 a0, .int .i64 a6, .int .u64 ac, .int .i64 ai, .int .i64 aj, .int .i64 a4, .slice a3 a1 a2, .int .u64 ak]] az fun b0 a5 => ∃ (aa : Bool), b0 = .returned (.bool aa) ∧
 bif !aa then (
 R (.tuple #[.slice none 0 0, .int .i64 1]) a5) else (
 ∃ (ae : Int), a5.cell? ((blk w.heap.size).add 5) = some (.int .i64 ae) ∧
 bif decide (ae < 0) then (
 R (.tuple #[.slice none 0 0, .int .i64 10]) a5) else (
 ∃ (a7 : Int), a5.cell? ((blk w.heap.size).add 0) = some (.int .i64 a7) ∧
 ∃ (a9 : Int), a5.cell? ((blk w.heap.size).add 1) = some (.int .i64 a9) ∧
 ∃ (ab : Int), a5.cell? ((blk w.heap.size).add 5) = some (.int .i64 ab) ∧
 ∃ (af : Option Addr) (a8 ad : Nat), a5.cell? ((blk w.heap.size).add 6) = some (.slice af a8 ad) ∧
 Calls Try.prog 28 #[.agg #[.int .i64 a7, .int .i64 a9, .int .i64 ab], .func (.func 31) #[.pointer o1] #[], .pointer r2, .slice af a8 ad] a5 fun b2 b1 => ∃ (ah : Option Addr) (am ag : Nat) (au : Int), b2 = .returned (.tuple #[.slice ah am ag, .int .i64 au]) ∧
 R (.tuple #[.slice ah am ag, .int .i64 au]) b1))

theorem Q14.ok (o1 r2 : Option Addr) (a0 a2 a6 a8 a9 a4 : Int) (a1 : Option Addr) (a5 a3 : Nat) (a7 : Int) {R : RW} {w : World} (h : Q14.M o1 r2 a0 a2 a6 a8 a9 a4 a1 a5 a3 a7 R w) : Calls Try.prog 9 #[.pointer o1, .pointer r2, .agg #[.int .i64 a0, .int .i64 a2, .int .u64 a6, .int .i64 a8, .int .i64 a9, .int .i64 a4, .slice a1 a5 a3, .int .u64 a7]] w fun e w' => ∃ v, e = .returned v ∧ R v w' :=
  Q0i follows (H := []) (args := [.pointer o1, .pointer r2, .agg #[.int .i64 a0, .int .i64 a2, .int .u64 a6, .int .i64 a8, .int .i64 a9, .int .i64 a4, .slice a1 a5 a3, .int .u64 a7]]) (cast (by kernel_rfl) h)

def Q14.N (o1 r2 : Option Addr) (a1 a3 a8 ad ae a0 : Int) (a2 : Option Addr) (a5 a4 : Nat) (ab : Int) (R : RW) (w : World) : Prop :=
 ((Q0M.F a1 a3 a8 ad ae a0 a2 a5 a4 ab) = false →
 ∀ (a6 : World), Ext no w a6 →
 R (.tuple #[.slice none 0 0, .int .i64 1]) a6) ∧
 ((Q0M.F a1 a3 a8 ad ae a0 a2 a5 a4 ab) = true →
 (a0 < 0 →
 ∀ (a6 : World), Ext no w a6 →
 R (.tuple #[.slice none 0 0, .int .i64 10]) a6) ∧
 ((0 : Int) ≤ a0 →
 ∀ (a6 : World), Ext no w a6 →
 Calls Try.prog 28 #[.agg #[.int .i64 a1, .int .i64 a3, .int .i64 a0], .func (.func 31) #[.pointer o1] #[], .pointer r2, .slice a2 a5 a4] a6 fun af ag => ∃ (a9 : Option Addr) (a7 aa : Nat) (ac : Int), af = .returned (.tuple #[.slice a9 a7 aa, .int .i64 ac]) ∧
 R (.tuple #[.slice a9 a7 aa, .int .i64 ac]) ag))

theorem Q14.up (o1 r2 : Option Addr) (a0 a2 a6 a8 a9 a1 : Int) (a5 : Option Addr) (a4 a3 : Nat) (a7 : Int) {R : RW} {w : World} (h : Q14.N o1 r2 a0 a2 a6 a8 a9 a1 a5 a4 a3 a7 R w) : Q14.M o1 r2 a0 a2 a6 a8 a9 a1 a5 a4 a3 a7 R w := by
  unfold Q14.M
  unfold Q14.N at h
  refine Q01 fun ak aj => ?_
  have aa := Blk.of_new aj
  have an := ((Ext.refl no w)).size
  have ag := (Ext.refl no w).x_alloc aj
  refine ⟨a0, a2, a6, a8, a9, a1, a5, a4, a3, a7, ⟨aa.celli 0 rfl rfl, aa.celli 1 rfl rfl, aa.celli 2 rfl rfl, aa.celli 3 rfl rfl, aa.celli 4 rfl rfl, aa.celli 5 rfl rfl, aa.celli 6 rfl rfl, aa.celli 7 rfl rfl, trivial⟩, ?_⟩
  refine (Q0M.pure a0 a2 a6 a8 a9 a1 a5 a4 a3 a7).mono fun ee ww12 ⟨he, hxx⟩ => ⟨(Q0M.F a0 a2 a6 a8 a9 a1 a5 a4 a3 a7), he, ?_⟩
  have ad := ag.trans hxx
  have aa := aa.ext hxx id
  refine bif_of (fun ah => ?_) (fun ah => ?_)
  ·have h := h.1 (not_t ah)
   have h := h ww12 ad
   exact h
  have h := h.2 (not_f ah)
  refine ⟨a1, aa.celli 5 rfl rfl, ?_⟩
  refine bif_of (fun ai => ?_) (fun ai => ?_)
  ·have h := h.1 (of_decide_eq_true ai)
   have h := h ww12 ad
   exact h
  have h := h.2 (Int.not_lt.1 (of_decide_eq_false ai))
  refine ⟨a0, aa.celli 0 rfl rfl, ?_⟩
  refine ⟨a2, aa.celli 1 rfl rfl, ?_⟩
  refine ⟨a1, aa.celli 5 rfl rfl, ?_⟩
  refine ⟨a5, a4, a3, aa.celli 6 rfl rfl, ?_⟩
  have h := h ww12 ad
  refine h.mono fun al am h => ?_
  obtain ⟨ab, ac, ae, af, he, h⟩ := h
  refine ⟨ab, ac, ae, af, he, ?_⟩
  exact h

theorem Q14.go (o1 r2 : Option Addr) (a0 a2 a6 a8 a9 a4 : Int) (a1 : Option Addr) (a5 a3 : Nat) (a7 : Int) {R : RW} {w : World} (h : Q14.N o1 r2 a0 a2 a6 a8 a9 a4 a1 a5 a3 a7 R w) : Calls Try.prog 9 #[.pointer o1, .pointer r2, .agg #[.int .i64 a0, .int .i64 a2, .int .u64 a6, .int .i64 a8, .int .i64 a9, .int .i64 a4, .slice a1 a5 a3, .int .u64 a7]] w fun e w' => ∃ v, e = .returned v ∧ R v w' := Q14.ok o1 r2 a0 a2 a6 a8 a9 a4 a1 a5 a3 a7 (Q14.up o1 r2 a0 a2 a6 a8 a9 a4 a1 a5 a3 a7 h)
def Q16.M (a5 aa ab af ag a7 : Int) (a6 : Option Addr) (a8 a9 : Nat) (ah : Int) (R : RW) (w : World) : Prop :=
 thenW (w.alloc (.cells #[.int .i64 a5, .int .i64 aa, .int .u64 ab, .int .i64 af, .int .i64 ag, .int .i64 a7, .slice a6 a8 a9, .int .u64 ah] 42)) fun ao =>
 Calls Try.prog 32 #[] ao fun aj ak => ∃ (a0 : Int), aj = .returned (.int .i64 a0) ∧
 ∃ (I0 : Nat → List Value → World → Prop) (ap : Nat), I0 ap [.int .i64 0] ak ∧ ∀ (an : Nat) (ac : World) (ae : Int), I0 an [.int .i64 ae] ac →
 bif decide (ae < a0) then (
 thenW (ac.drew) fun ai =>
 ∃ (a2 : Option Addr) (a1 a3 : Nat), ai.cell? ((blk w.heap.size).add 6) = some (.slice a2 a1 a3) ∧
 Calls Try.prog 33 #[.int .i64 ae] ai fun al ad => ∃ (a4 : Int), al = .returned (.int .i64 a4) ∧
 ad.cell? ((blk w.heap.size).add 6) = some (.slice a2 a1 a3) ∧
 bif (a1 : Int) == (IntKind.i64.wrap ((8 : Int) + a4)) then (
 R (.int .i64 ae) ad) else (
 ∃ am, am < an ∧ I0 am [.int .i64 (IntKind.i64.wrap (ae + 1))] ad)) else (
 R (.int .i64 (-1)) ac)

theorem Q16.ok (a0 a3 a6 a7 a8 a4 : Int) (a2 : Option Addr) (a5 a1 : Nat) (a9 : Int) {R : RW} {w : World} (h : Q16.M a0 a3 a6 a7 a8 a4 a2 a5 a1 a9 R w) : Calls Try.prog 12 #[.agg #[.int .i64 a0, .int .i64 a3, .int .u64 a6, .int .i64 a7, .int .i64 a8, .int .i64 a4, .slice a2 a5 a1, .int .u64 a9]] w fun e w' => ∃ v, e = .returned v ∧ R v w' :=
  Q0i follows (H := [(0, [1, 4], [(5, (.one (.int .i64)))])]) (args := [.agg #[.int .i64 a0, .int .i64 a3, .int .u64 a6, .int .i64 a7, .int .i64 a8, .int .i64 a4, .slice a2 a5 a1, .int .u64 a9]]) (cast (by kernel_rfl) h)

def Q16.N (a7 ab ad ag ah a9 : Int) (a8 : Option Addr) (a1 aa : Nat) (ai : Int) (R : RW) (w : World) : Prop :=
 ∀ (a3 : World) (ae : Nat), Ext no w a3 → Priv w a3 [ae] →
 ∃ (I0 : Nat → List Value → World → Prop) (ak : Nat), I0 ak [.int .i64 0] a3 ∧ ∀ (aj : Nat) (a4 : World) (a2 : Int), I0 aj [.int .i64 a2] a4 →
 (a2 < Q0s.F →
 ∀ (a6 : World), Ext no a4 a6 →
 Calls Try.prog 33 #[.int .i64 a2] a6 fun ac a5 => ∃ (a0 : Int), ac = .returned (.int .i64 a0) ∧
 Keep [ae] a6 a5 ∧
 (-9223372036854775808 : Int) ≤ ((8 : Int) + a0) ∧ ((8 : Int) + a0) < 9223372036854775808 ∧
 ((a1 : Int) = ((8 : Int) + a0) →
 R (.int .i64 a2) a5) ∧
 ((a1 : Int) ≠ ((8 : Int) + a0) →
 (-9223372036854775808 : Int) ≤ (a2 + 1) ∧ (a2 + 1) < 9223372036854775808 ∧
 ∃ af, af < aj ∧ I0 af [.int .i64 (a2 + 1)] a5)) ∧
 (Q0s.F ≤ a2 →
 R (.int .i64 (-1)) a4)

theorem Q16.up (a3 a5 a6 a8 a9 a4 : Int) (a0 : Option Addr) (a1 a2 : Nat) (aa : Int) {R : RW} {w : World} (h : Q16.N a3 a5 a6 a8 a9 a4 a0 a1 a2 aa R w) : Q16.M a3 a5 a6 a8 a9 a4 a0 a1 a2 aa R w := by
  unfold Q16.M
  unfold Q16.N at h
  refine Q01 fun av e9 => ?_
  have a7 := Blk.of_new e9
  have al := ((Ext.refl no w)).size
  have ao := (Ext.refl no w).x_alloc e9
  refine (Q0s.pure).mono fun ee ww10 ⟨he, hxx⟩ => ⟨(Q0s.F), he, ?_⟩
  have ad := ao.trans hxx
  have a7 := a7.ext hxx id
  have h := h ww10 (w.heap.size) ad (Priv.cons al a7.lt Priv.nil)
  obtain ⟨I0, au, h0, h⟩ := h
  refine ⟨fun k vs ww => Blk ww w.heap.size 42 [.int .i64 a3, .int .i64 a5, .int .u64 a6, .int .i64 a8, .int .i64 a9, .int .i64 a4, .slice a0 a1 a2, .int .u64 aa] ∧ I0 k vs ww, au, ⟨a7, h0⟩, fun ar ac am hI => ?_⟩
  obtain ⟨a7, hI⟩ := hI
  have h := h ar ac am hI
  refine bif_fo (fun ah => ?_) (fun ah => ?_)
  ·have h := h.2 (Int.not_lt.1 (of_decide_eq_false ah))
   exact h
  have h := h.1 (of_decide_eq_true ah)
  refine Q01 fun aj ak => ?_
  have ae := (Ext.refl no ac).x_drew ak
  have a7 := a7.x_drew ak
  refine ⟨a0, a1, a2, a7.celli 6 rfl rfl, ?_⟩
  have h := h aj ae
  refine h.mono fun an aq h => ?_
  obtain ⟨ab, he, hk, h⟩ := h
  refine ⟨ab, he, ?_⟩
  have a7 := hk.blk a7 (by simp)
  refine ⟨a7.celli 6 rfl rfl, ?_⟩
  obtain ⟨ai, ag, h⟩ := h
  try rw [w64 ai ag]
  refine bif_of (fun af => ?_) (fun af => ?_)
  ·have h := h.1 (beq_t af)
   exact h
  have h := h.2 (beq_f af)
  obtain ⟨ai, ag, h⟩ := h
  try rw [w64 ai ag]
  obtain ⟨ap, hk, h⟩ := h
  exact ⟨ap, hk, a7, h⟩

theorem Q16.go (a0 a3 a6 a7 a8 a4 : Int) (a2 : Option Addr) (a5 a1 : Nat) (a9 : Int) {R : RW} {w : World} (h : Q16.N a0 a3 a6 a7 a8 a4 a2 a5 a1 a9 R w) : Calls Try.prog 12 #[.agg #[.int .i64 a0, .int .i64 a3, .int .u64 a6, .int .i64 a7, .int .i64 a8, .int .i64 a4, .slice a2 a5 a1, .int .u64 a9]] w fun e w' => ∃ v, e = .returned v ∧ R v w' := Q16.ok a0 a3 a6 a7 a8 a4 a2 a5 a1 a9 (Q16.up a0 a3 a6 a7 a8 a4 a2 a5 a1 a9 h)
def Q1g.M (c1 : Int) (R : RW) (w : World) : Prop :=
 Calls Try.prog 34 #[.int .i64 c1] w fun a1 a2 => ∃ (a0 : Int), a1 = .returned (.int .i64 a0) ∧
 R (.int .i64 a0) a2

theorem Q1g.ok (c1 : Int) {R : RW} {w : World} (h : Q1g.M c1 R w) : Calls Try.prog 35 #[.int .i64 c1] w fun e w' => ∃ v, e = .returned v ∧ R v w' :=
  Q0i follows (H := []) (args := [.int .i64 c1]) (cast (by kernel_rfl) h)

def Q1g.N (c1 : Int) (R : RW) (w : World) : Prop :=
 Calls Try.prog 34 #[.int .i64 c1] w fun a1 a2 => ∃ (a0 : Int), a1 = .returned (.int .i64 a0) ∧
 R (.int .i64 a0) a2

theorem Q1g.up (c1 : Int) {R : RW} {w : World} (h : Q1g.N c1 R w) : Q1g.M c1 R w := by
  unfold Q1g.M
  unfold Q1g.N at h
  refine h.mono fun a2 a1 h => ?_
  obtain ⟨a0, he, h⟩ := h
  refine ⟨a0, he, ?_⟩
  exact h

theorem Q1g.go (c1 : Int) {R : RW} {w : World} (h : Q1g.N c1 R w) : Calls Try.prog 35 #[.int .i64 c1] w fun e w' => ∃ v, e = .returned v ∧ R v w' := Q1g.ok c1 (Q1g.up c1 h)
def Q1b.M  (R : RW) (w : World) : Prop :=
 Calls Try.prog 32 #[] w fun a3 a5 => ∃ (a0 : Int), a3 = .returned (.int .i64 a0) ∧
 Calls Try.prog 35 #[.int .i64 (IntKind.i64.wrap (a0 - 1))] a5 fun a4 a2 => ∃ (a1 : Int), a4 = .returned (.int .i64 a1) ∧
 R (.int .i64 a1) a2

theorem Q1b.ok  {R : RW} {w : World} (h : Q1b.M  R w) : Calls Try.prog 14 #[] w fun e w' => ∃ v, e = .returned v ∧ R v w' :=
  Q0i follows (H := []) (args := []) (cast (by kernel_rfl) h)

def Q1b.N  (R : RW) (w : World) : Prop :=
 (-9223372036854775808 : Int) ≤ (Q0s.F - 1) ∧ (Q0s.F - 1) < 9223372036854775808 ∧
 ∀ (a1 : World), Ext no w a1 →
 Calls Try.prog 35 #[.int .i64 (Q0s.F - 1)] a1 fun a3 a2 => ∃ (a0 : Int), a3 = .returned (.int .i64 a0) ∧
 R (.int .i64 a0) a2

theorem Q1b.up  {R : RW} {w : World} (h : Q1b.N  R w) : Q1b.M  R w := by
  unfold Q1b.M
  unfold Q1b.N at h
  refine (Q0s.pure).mono fun ee ww1 ⟨he, hxx⟩ => ⟨(Q0s.F), he, ?_⟩
  have a1 := (Ext.refl no w).trans hxx
  obtain ⟨a3, a2, h⟩ := h
  try rw [w64 a3 a2]
  have h := h ww1 a1
  refine h.mono fun a4 a5 h => ?_
  obtain ⟨a0, he, h⟩ := h
  refine ⟨a0, he, ?_⟩
  exact h

theorem Q1b.go  {R : RW} {w : World} (h : Q1b.N  R w) : Calls Try.prog 14 #[] w fun e w' => ∃ v, e = .returned v ∧ R v w' := Q1b.ok  (Q1b.up  h)
abbrev Q06.J1 (bg : Int) (bh b6 : Addr) (bi : Int) (I0 : Nat → List Value → World → Prop) (b2 : Addr) (bj : Nat) (R : RW) (bd : World) : Prop :=
 thenW (bd.drew) fun az =>
 ∃ (be : Option Addr), az.cell? (b2.add 2) = some (.pointer be) ∧
 ∃ (aq au a8 ae : Int) (aa : Option Addr) (a2 a9 : Nat) (ag : Option Addr) (ap aj : Nat), cellsAt az b6 [.int .i64 aq, .int .i64 au, .int .u64 a8, .int .i64 ae, .slice aa a2 a9, .slice ag ap aj] 0 ∧
 Calls Try.prog 25 #[.pointer be, .agg #[.int .i64 aq, .int .i64 au, .int .u64 a8, .int .i64 ae, .slice aa a2 a9, .slice ag ap aj]] az fun b4 b3 => ∃ (b1 : Int), b4 = .returned (.int .i64 b1) ∧
 thenW (b3.drew) fun ax =>
 ∃ (bf : Option Addr), ax.cell? (b2.add 3) = some (.pointer bf) ∧
 ∃ (ai av a4 ac : Int) (ab : Option Addr) (a3 a0 : Nat) (af : Option Addr) (am an : Nat), cellsAt ax b6 [.int .i64 ai, .int .i64 av, .int .u64 a4, .int .i64 ac, .slice ab a3 a0, .slice af am an] 0 ∧
 Calls Try.prog 25 #[.pointer bf, .agg #[.int .i64 ai, .int .i64 av, .int .u64 a4, .int .i64 ac, .slice ab a3 a0, .slice af am an]] ax fun bc b9 => ∃ (ay : Int), bc = .returned (.int .i64 ay) ∧
 thenW (b9.drew) fun ar =>
 ∃ (b7 : Option Addr), ar.cell? (b2.add 4) = some (.pointer b7) ∧
 ∃ (bb : Option Addr), ar.cell? (b2.add 1) = some (.pointer bb) ∧
 ∃ (ak aw a1 ad : Int) (a6 : Option Addr) (a7 a5 : Nat) (ah : Option Addr) (al ao : Nat), cellsAt ar bh [.int .i64 ak, .int .i64 aw, .int .u64 a1, .int .i64 ad, .slice a6 a7 a5, .slice ah al ao] 0 ∧
 Calls Try.prog 26 #[.pointer b7, .pointer bb, .agg #[.int .i64 ak, .int .i64 aw, .int .u64 a1, .int .i64 ad, .slice a6 a7 a5, .slice ah al ao]] ar fun b8 ba => ∃ (b0 : Int), b8 = .returned (.int .i64 b0) ∧
 ∃ b5, b5 < bj ∧ I0 b5 [.int .u64 bg, .int .i64 (IntKind.i64.wrap (bi + 1))] ba

abbrev Q06.J2 (ad al : Addr) (ag : Int) (ak af : Addr) (aj : Int) (I0 : Nat → List Value → World → Prop) (ah : Addr) (ai : Nat) (ab ae : World) (R : RW) (ac : World) : Prop :=
 thenW (ac.drew) fun a7 =>
 ∃ (a8 : Option Addr) (a6 a5 : Nat) (a1 : Int), cellsAt a7 al [.slice a8 a6 a5, .int .i64 a1] 0 ∧
 ∃ (a3 : Option Addr) (a2 a4 : Nat) (a0 : Int), cellsAt a7 ad [.slice a3 a2 a4, .int .i64 a0] 0 ∧
 putsK a7 (blk ab.heap.size) [.slice a8 a6 a5, .int .i64 a1] 0 fun a9 =>
 cellsAt a9 ad [.slice a3 a2 a4, .int .i64 a0] 0 ∧
 putsK a9 (blk ae.heap.size) [.slice a3 a2 a4, .int .i64 a0] 0 fun aa =>
 Q06.J1 ag ak af aj I0 ah ai R aa

abbrev Q06.J3 (be : Addr) (bh : Int) (bb : Addr) (bk : Int) (I0 : Nat → List Value → World → Prop) (bi : Addr) (bj : Nat) (b6 b9 : World) (R : RW) (az : World) : Prop :=
 ∃ (aq : Option Addr) (au b1 : Nat) (a8 : Int), cellsAt az (blk b6.heap.size) [.slice aq au b1, .int .i64 a8] 0 ∧
 ∃ (ad ap a1 aa : Int) (a4 : Option Addr) (a7 a5 : Nat) (am : Option Addr) (ae aj : Nat), cellsAt az bb [.int .i64 ad, .int .i64 ap, .int .u64 a1, .int .i64 aa, .slice a4 a7 a5, .slice am ae aj] 0 ∧
 Calls Try.prog 23 #[.agg #[.slice aq au b1, .int .i64 a8], .agg #[.int .i64 ad, .int .i64 ap, .int .u64 a1, .int .i64 aa, .slice a4 a7 a5, .slice am ae aj]] az fun bf ax => ∃ (b4 : Option Addr) (b3 b5 : Nat) (ai ak : Int), bf = .returned (.tuple #[.agg #[.slice b4 b3 b5, .int .i64 ai], .int .i64 ak]) ∧
 thenW (ax.alloc (.cells #[.slice none 0 0, .int .i64 0] 64)) fun bc =>
 putsK bc (blk ax.heap.size) [.slice b4 b3 b5, .int .i64 ai] 0 fun b2 =>
 ∃ (aw : Option Addr) (ar ay : Nat) (ab : Int), cellsAt b2 (blk b9.heap.size) [.slice aw ar ay, .int .i64 ab] 0 ∧
 ∃ (ac ao a6 a9 : Int) (a2 : Option Addr) (a3 a0 : Nat) (al : Option Addr) (ag af : Nat), cellsAt b2 be [.int .i64 ac, .int .i64 ao, .int .u64 a6, .int .i64 a9, .slice a2 a3 a0, .slice al ag af] 0 ∧
 Calls Try.prog 24 #[.agg #[.slice aw ar ay, .int .i64 ab], .agg #[.int .i64 ac, .int .i64 ao, .int .u64 a6, .int .i64 a9, .slice a2 a3 a0, .slice al ag af]] b2 fun bg b0 => ∃ (ba : Option Addr) (b8 b7 : Nat) (an ah : Int), bg = .returned (.tuple #[.agg #[.slice ba b8 b7, .int .i64 an], .int .i64 ah]) ∧
 thenW (b0.alloc (.cells #[.slice none 0 0, .int .i64 0] 68)) fun bd =>
 putsK bd (blk b0.heap.size) [.slice ba b8 b7, .int .i64 an] 0 fun av =>
 bif ak != 0 then (
 R (.pointer none) av) else (
 bif ah != 0 then (
 R (.pointer none) av) else (
 Q06.J2 (blk b0.heap.size) (blk ax.heap.size) bh be bb bk I0 bi bj b6 b9 R av))

abbrev Q06.J4 (a4 : Addr) (a6 a8 : Int) (a3 : Addr) (a7 : Int) (I0 : Nat → List Value → World → Prop) (a5 : Addr) (a9 : Nat) (a1 a2 : World) (R : RW) (a0 : World) : Prop :=
 bif a6 != 0 then (
 R (.pointer none) a0) else (
 Q06.J3 a4 a8 a3 a7 I0 a5 a9 a1 a2 R a0)

abbrev Q06.J5 (b3 b4 : Int) (b7 : Addr) (b2 b1 : Int) (I0 : Nat → List Value → World → Prop) (ay : Addr) (b8 : Nat) (b0 an : World) (R : RW) (ba : World) : Prop :=
 thenW (ba.drew) fun a3 =>
 ∃ (az : Option Addr), a3.cell? (ay.add 1) = some (.pointer az) ∧
 ∃ (aa : Option Addr) (ab ac : Nat) (a0 : Int), cellsAt a3 (blk an.heap.size) [.slice aa ab ac, .int .i64 a0] 0 ∧
 (Calls Try.prog 22 #[.pointer az, .agg #[.slice aa ab ac, .int .i64 a0], .int .u64 b2] a3 fun bd ax => ∃ (ak aw a9 ad : Int) (a4 : Option Addr) (a8 a2 : Nat) (ai : Option Addr) (al am : Nat) (ap ar : Int), bd = .returned (.tuple #[.agg #[.int .i64 ak, .int .i64 aw, .int .u64 a9, .int .i64 ad, .slice a4 a8 a2, .slice ai al am], .int .u64 ap, .int .i64 ar]) ∧
 thenW (ax.alloc (.cells #[.int .i64 0, .int .i64 0, .int .u64 0, .int .i64 0, .slice none 0 0, .slice none 0 0] 77)) fun b6 =>
 putsK b6 (blk ax.heap.size) [.int .i64 ak, .int .i64 aw, .int .u64 a9, .int .i64 ad, .slice a4 a8 a2, .slice ai al am] 0 fun bc =>
 Q06.J4 (blk ax.heap.size) b3 b4 b7 b1 I0 ay b8 b0 an R bc) ∧
 (thenW (a3.alloc (.cells #[.int .i64 0, .int .i64 0, .int .u64 0, .int .i64 0, .slice none 0 0, .slice none 0 0] 77)) fun av =>
 cellsAt av (blk an.heap.size) [.slice aa ab ac, .int .i64 a0] 0 ∧
 av.cell? (ay.add 1) = some (.pointer az) ∧
 Calls Try.prog 22 #[.pointer az, .agg #[.slice aa ab ac, .int .i64 a0], .int .u64 b2] av fun bb b9 => ∃ (ag au a1 ae : Int) (a5 : Option Addr) (a7 a6 : Nat) (af : Option Addr) (aj ah : Nat) (ao aq : Int), bb = .returned (.tuple #[.agg #[.int .i64 ag, .int .i64 au, .int .u64 a1, .int .i64 ae, .slice a5 a7 a6, .slice af aj ah], .int .u64 ao, .int .i64 aq]) ∧
 putsK b9 (blk a3.heap.size) [.int .i64 ag, .int .i64 au, .int .u64 a1, .int .i64 ae, .slice a5 a7 a6, .slice af aj ah] 0 fun b5 =>
 Q06.J4 (blk a3.heap.size) b3 b4 b7 b1 I0 ay b8 b0 an R b5)

abbrev Q06.J6 (b0 b2 : Int) (I0 : Nat → List Value → World → Prop) (az : Addr) (b6 : Nat) (al b1 : World) (R : RW) (b8 : World) : Prop :=
 thenW (b8.drew) fun a8 =>
 ∃ (ay : Option Addr), a8.cell? (az.add 0) = some (.pointer ay) ∧
 ∃ (af : Option Addr) (ag ae : Nat) (a0 : Int), cellsAt a8 (blk al.heap.size) [.slice af ag ae, .int .i64 a0] 0 ∧
 (Calls Try.prog 21 #[.pointer ay, .agg #[.slice af ag ae, .int .i64 a0], .int .u64 b0] a8 fun ba au => ∃ (ak av a2 ah : Int) (ac : Option Addr) (a5 a1 : Nat) (aj : Option Addr) (an ao : Nat) (a4 a9 : Int), ba = .returned (.tuple #[.agg #[.int .i64 ak, .int .i64 av, .int .u64 a2, .int .i64 ah, .slice ac a5 a1, .slice aj an ao], .int .u64 a4, .int .i64 a9]) ∧
 thenW (au.alloc (.cells #[.int .i64 0, .int .i64 0, .int .u64 0, .int .i64 0, .slice none 0 0, .slice none 0 0] 72)) fun b5 =>
 putsK b5 (blk au.heap.size) [.int .i64 ak, .int .i64 av, .int .u64 a2, .int .i64 ah, .slice ac a5 a1, .slice aj an ao] 0 fun b4 =>
 Q06.J5 a9 a4 (blk au.heap.size) b0 b2 I0 az b6 al b1 R b4) ∧
 (thenW (a8.alloc (.cells #[.int .i64 0, .int .i64 0, .int .u64 0, .int .i64 0, .slice none 0 0, .slice none 0 0] 72)) fun ax =>
 cellsAt ax (blk al.heap.size) [.slice af ag ae, .int .i64 a0] 0 ∧
 ax.cell? (az.add 0) = some (.pointer ay) ∧
 Calls Try.prog 21 #[.pointer ay, .agg #[.slice af ag ae, .int .i64 a0], .int .u64 b0] ax fun b7 b3 => ∃ (am aw a6 ai : Int) (aa : Option Addr) (ab a7 : Nat) (ar : Option Addr) (aq ap : Nat) (ad a3 : Int), b7 = .returned (.tuple #[.agg #[.int .i64 am, .int .i64 aw, .int .u64 a6, .int .i64 ai, .slice aa ab a7, .slice ar aq ap], .int .u64 ad, .int .i64 a3]) ∧
 putsK b3 (blk a8.heap.size) [.int .i64 am, .int .i64 aw, .int .u64 a6, .int .i64 ai, .slice aa ab a7, .slice ar aq ap] 0 fun b9 =>
 Q06.J5 a3 ad (blk a8.heap.size) b0 b2 I0 az b6 al b1 R b9)

abbrev Q06.J7 (aw ax : Option Addr) (ak ar : Int) (a0 : Addr) (av : Int) (R : RW) (ac : World) : Prop :=
 Q0d ac ((a0.add 2).add 0) ∧
 thenW (ac.setCell ((a0.add 2).add 0) (.pointer ax)) fun ad =>
 Q0d ad ((a0.add 3).add 0) ∧
 thenW (ad.setCell ((a0.add 3).add 0) (.pointer aw)) fun ae =>
 thenW (ae.alloc (.cells #[.int .i64 0, .int .u64 ar, .slice none 0 0, .slice none 0 0] 61)) fun a8 =>
 Q0d a8 ((a0.add 4).add 0) ∧
 thenW (a8.setCell ((a0.add 4).add 0) (.pointer (some (blk ae.heap.size)))) fun aj =>
 Calls Try.prog 19 #[.int .u64 ak] aj fun ap ai => ∃ (ag : Option Addr) (aa ab : Nat) (a1 : Int), ap = .returned (.agg #[.slice ag aa ab, .int .i64 a1]) ∧
 Calls Try.prog 20 #[.int .u64 ak] ai fun ao a5 => ∃ (af : Option Addr) (a9 a7 : Nat) (a2 : Int), ao = .returned (.agg #[.slice af a9 a7, .int .i64 a2]) ∧
 thenW (a5.alloc (.cells #[.slice none 0 0, .int .i64 0] 64)) fun a6 =>
 thenW (a6.alloc (.cells #[.slice none 0 0, .int .i64 0] 68)) fun aq =>
 putsK aq (blk a5.heap.size) [.slice ag aa ab, .int .i64 a1] 0 fun am =>
 putsK am (blk a6.heap.size) [.slice af a9 a7, .int .i64 a2] 0 fun al =>
 ∃ (I0 : Nat → List Value → World → Prop) (au : Nat), I0 au [.int .u64 0, .int .i64 0] al ∧ ∀ (an : Nat) (a4 : World) (a3 ah : Int), I0 an [.int .u64 a3, .int .i64 ah] a4 →
 bif decide (ah < av) then (
 Q06.J6 a3 ah I0 a0 an a5 a6 R a4) else (
 R (.pointer (some a0)) a4)

def Q06.M (a1 : Option Addr) (a3 a2 : Nat) (ah : Int) (R : RW) (w : World) : Prop :=
 Calls Try.prog 15 #[.slice a1 a3 a2] w fun b4 b3 => ∃ (am : Option Addr), b4 = .returned (.pointer am) ∧
 thenW (b3.alloc (.cells #[.slice a1 a3 a2, .slice none 0 0] 54)) fun a7 =>
 thenW (a7.alloc (.cells #[.pointer am, .pointer (some (blk b3.heap.size)), .pointer none, .pointer none, .pointer none, .int .u64 0] 38)) fun ay =>
 ∃ (o8 : Option Addr), ay.cell? ((blk a7.heap.size).add 0) = some (.pointer o8) ∧
 Calls Try.prog 16 #[.pointer o8] ay fun ap ak => ∃ (a5 a0 : Int), ap = .returned (.tuple #[.int .u64 a5, .int .u64 a0]) ∧
 ∃ (b2 : Option Addr), ak.cell? ((blk a7.heap.size).add 0) = some (.pointer b2) ∧
 Calls Try.prog 16 #[.pointer b2] ak fun aq ao => ∃ (a6 ag : Int), aq = .returned (.tuple #[.int .u64 a6, .int .u64 ag]) ∧
 ∃ (b0 : Option Addr), ao.cell? ((blk a7.heap.size).add 1) = some (.pointer b0) ∧
 Calls Try.prog 17 #[.pointer b0] ao fun ar ai => ∃ (ae af : Int), ar = .returned (.tuple #[.int .u64 ae, .int .u64 af]) ∧
 ∃ (b1 : Option Addr), ai.cell? ((blk a7.heap.size).add 1) = some (.pointer b1) ∧
 Calls Try.prog 17 #[.pointer b1] ai fun aw aj => ∃ (ac ad : Int), aw = .returned (.tuple #[.int .u64 ac, .int .u64 ad]) ∧
 Q0d aj (((blk a7.heap.size).add 5).add 0) ∧
 thenW (aj.setCell (((blk a7.heap.size).add 5).add 0) (.int .u64 a0)) fun al =>
 ∃ (ax : Option Addr), al.cell? ((blk a7.heap.size).add 0) = some (.pointer ax) ∧
 Calls Try.prog 18 #[.pointer ax, .int .i64 0, .int .u64 a5] al fun av an => ∃ (a4 : Option Addr) (aa : Int), av = .returned (.tuple #[.pointer a4, .int .i64 aa]) ∧
 ∃ (az : Option Addr), an.cell? ((blk a7.heap.size).add 0) = some (.pointer az) ∧
 Calls Try.prog 18 #[.pointer az, .int .i64 1, .int .u64 a6] an fun au a8 => ∃ (a9 : Option Addr) (ab : Int), au = .returned (.tuple #[.pointer a9, .int .i64 ab]) ∧
 bif aa != 0 then (
 R (.pointer none) a8) else (
 bif ab != 0 then (
 R (.pointer none) a8) else (
 bif Option.isNone a4 then (
 R (.pointer none) a8) else (
 Q06.J7 a9 a4 a0 a5 (blk a7.heap.size) ah R a8)))

theorem Q06.ok (a1 : Option Addr) (a0 a2 : Nat) (a3 : Int) {R : RW} {w : World} (h : Q06.M a1 a0 a2 a3 R w) : Calls Try.prog 7 #[.slice a1 a0 a2, .int .i64 a3] w fun e w' => ∃ v, e = .returned v ∧ R v w' :=
  Q0i follows (H := [(0, [1, 5, 14, 15], [(16, (.one (.int .u64))), (17, (.one (.int .i64)))])]) (args := [.slice a1 a0 a2, .int .i64 a3]) (cast (by kernel_rfl) h)

def Q06.N (b8 : Option Addr) (b2 b0 : Nat) (c4 : Int) (R : RW) (w : World) : Prop :=
 Calls Try.prog 15 #[.slice b8 b2 b0] w fun e5 dv => ∃ (dd : Option Addr), e5 = .returned (.pointer dd) ∧
 ∀ (d4 : World) (q7 : Nat), Ext no dv d4 → Blk d4 q7 54 [.slice b8 b2 b0, .slice none 0 0] → dv.heap.size ≤ q7 → q7 < d4.heap.size →
 ∀ (cp : World) (q9 : Nat), Ext no d4 cp → Blk cp q9 38 [.pointer dd, .pointer (some (blk q7)), .pointer none, .pointer none, .pointer none, .int .u64 0] → d4.heap.size ≤ q9 → q9 < cp.heap.size →
 ∃ (e3 : Option Addr), cp.cell? ((blk q9).add 0) = some (.pointer e3) ∧
 Calls Try.prog 16 #[.pointer e3] cp fun dk cz => ∃ (ay ad : Int), dk = .returned (.tuple #[.int .u64 ay, .int .u64 ad]) ∧
 ∃ (dx : Option Addr), cz.cell? ((blk q9).add 0) = some (.pointer dx) ∧
 Calls Try.prog 16 #[.pointer dx] cz fun dt d7 => ∃ (bg ch : Int), dt = .returned (.tuple #[.int .u64 bg, .int .u64 ch]) ∧
 ∃ (e2 : Option Addr), d7.cell? ((blk q9).add 1) = some (.pointer e2) ∧
 Calls Try.prog 17 #[.pointer e2] d7 fun dl dc => ∃ (cc ce : Int), dl = .returned (.tuple #[.int .u64 cc, .int .u64 ce]) ∧
 ∃ (e1 : Option Addr), dc.cell? ((blk q9).add 1) = some (.pointer e1) ∧
 Calls Try.prog 17 #[.pointer e1] dc fun dn cu => ∃ (c8 cb : Int), dn = .returned (.tuple #[.int .u64 c8, .int .u64 cb]) ∧
 Q0d cu (((blk q9).add 5).add 0) ∧
 thenW (cu.setCell (((blk q9).add 5).add 0) (.int .u64 ad)) fun df =>
 ∃ (dw : Option Addr), df.cell? ((blk q9).add 0) = some (.pointer dw) ∧
 Calls Try.prog 18 #[.pointer dw, .int .i64 0, .int .u64 ay] df fun dj cs => ∃ (b7 : Option Addr) (br : Int), dj = .returned (.tuple #[.pointer b7, .int .i64 br]) ∧
 ∃ (e0 : Option Addr), cs.cell? ((blk q9).add 0) = some (.pointer e0) ∧
 Calls Try.prog 18 #[.pointer e0, .int .i64 1, .int .u64 bg] cs fun dr bn => ∃ (c6 : Option Addr) (bp : Int), dr = .returned (.tuple #[.pointer c6, .int .i64 bp]) ∧
 (br ≠ 0 →
 R (.pointer none) bn) ∧
 (br = 0 →
 (bp ≠ 0 →
 R (.pointer none) bn) ∧
 (bp = 0 →
 (b7 = none →
 R (.pointer none) bn) ∧
 (b7 ≠ none →
 Q0d bn (((blk q9).add 2).add 0) ∧
 thenW (bn.setCell (((blk q9).add 2).add 0) (.pointer b7)) fun d8 =>
 Q0d d8 (((blk q9).add 3).add 0) ∧
 thenW (d8.setCell (((blk q9).add 3).add 0) (.pointer c6)) fun cv =>
 ∀ (bf : World) (dg : Nat), Ext no cv bf → Blk bf dg 61 [.int .i64 0, .int .u64 ay, .slice none 0 0, .slice none 0 0] → cv.heap.size ≤ dg → dg < bf.heap.size →
 Q0d bf (((blk q9).add 4).add 0) ∧
 thenW (bf.setCell (((blk q9).add 4).add 0) (.pointer (some (blk dg)))) fun ds =>
 Calls Try.prog 19 #[.int .u64 ad] ds fun dm dp => ∃ (co : Option Addr) (d0 cr : Nat) (b9 : Int), dm = .returned (.agg #[.slice co d0 cr, .int .i64 b9]) ∧
 Calls Try.prog 20 #[.int .u64 ad] dp fun dq cy => ∃ (de : Option Addr) (d5 d2 : Nat) (bb : Int), dq = .returned (.agg #[.slice de d5 d2, .int .i64 bb]) ∧
 ∀ (cd : World) (bv bw : Nat), Ext no cy cd → Priv cy cd [bv, bw] →
 ∃ (I0 : Nat → List Value → World → Prop) (e4 : Nat), I0 e4 [.int .u64 0, .int .i64 0, .slice co d0 cr, .int .i64 b9, .slice de d5 d2, .int .i64 bb] cd ∧ ∀ (dy : Nat) (bs : World) (ax ck : Int) (cf : Option Addr) (ca c9 : Nat) (ai : Int) (ci : Option Addr) (cg cj : Nat) (ak : Int), I0 dy [.int .u64 ax, .int .i64 ck, .slice cf ca c9, .int .i64 ai, .slice ci cg cj, .int .i64 ak] bs →
 (ck < c4 →
 ∃ (dz : Option Addr), bs.cell? ((blk q9).add 0) = some (.pointer dz) ∧
 ∀ (bi : World) (dh : List Nat), Ext no bs bi → Priv bs bi dh →
 Calls Try.prog 21 #[.pointer dz, .agg #[.slice cf ca c9, .int .i64 ai], .int .u64 ax] bi fun di bu => ∃ (an ba a0 a8 : Int) (a2 : Option Addr) (a1 a3 : Nat) (aj : Option Addr) (am af : Nat) (ap ab : Int), di = .returned (.tuple #[.agg #[.int .i64 an, .int .i64 ba, .int .u64 a0, .int .i64 a8, .slice a2 a1 a3, .slice aj am af], .int .u64 ap, .int .i64 ab]) ∧
 Keep dh bi bu ∧
 Keep [bv, bw] bi bu ∧
 ∀ (ao : World) (da : Nat), Ext (fun b => b ∈ dh) bu ao → PrivJ dh bu ao [da] →
 ∃ (du : Option Addr), ao.cell? ((blk q9).add 1) = some (.pointer du) ∧
 ∀ (aq : World) (bq : List Nat), Ext no ao aq → Priv ao aq bq →
 Calls Try.prog 22 #[.pointer du, .agg #[.slice ci cg cj, .int .i64 ak], .int .u64 ax] aq fun cw aw => ∃ (ah az a5 aa : Int) (a4 : Option Addr) (a6 a7 : Nat) (ae : Option Addr) (ag al : Nat) (bd bc : Int), cw = .returned (.tuple #[.agg #[.int .i64 ah, .int .i64 az, .int .u64 a5, .int .i64 aa, .slice a4 a6 a7, .slice ae ag al], .int .u64 bd, .int .i64 bc]) ∧
 Keep bq aq aw ∧
 Keep [bv, bw, da] aq aw ∧
 (ab ≠ 0 →
 ∀ (bz : World), Ext (fun b => b ∈ bq) aw bz →
 R (.pointer none) bz) ∧
 (ab = 0 →
 ∀ (b4 : World) (be : Nat), Ext (fun b => b ∈ bq) aw b4 → PrivJ bq aw b4 [be] →
 Calls Try.prog 23 #[.agg #[.slice cf ca c9, .int .i64 ai], .agg #[.int .i64 an, .int .i64 ba, .int .u64 a0, .int .i64 a8, .slice a2 a1 a3, .slice aj am af]] b4 fun d3 bm => ∃ (c2 : Option Addr) (c5 c0 : Nat) (ar a9 : Int), d3 = .returned (.tuple #[.agg #[.slice c2 c5 c0, .int .i64 ar], .int .i64 a9]) ∧
 Keep [bv, bw, da, be] b4 bm ∧
 ∀ (b3 : World) (d1 : Nat), Ext no bm b3 → Priv bm b3 [d1] →
 Calls Try.prog 24 #[.agg #[.slice ci cg cj, .int .i64 ak], .agg #[.int .i64 ah, .int .i64 az, .int .u64 a5, .int .i64 aa, .slice a4 a6 a7, .slice ae ag al]] b3 fun d6 b6 => ∃ (c1 : Option Addr) (bx c7 : Nat) (au ac : Int), d6 = .returned (.tuple #[.agg #[.slice c1 bx c7, .int .i64 au], .int .i64 ac]) ∧
 Keep [bv, bw, da, be, d1] b3 b6 ∧
 (a9 ≠ 0 →
 ∀ (av : World), Ext no b6 av →
 R (.pointer none) av) ∧
 (a9 = 0 →
 (ac ≠ 0 →
 ∀ (av : World), Ext no b6 av →
 R (.pointer none) av) ∧
 (ac = 0 →
 ∀ (b1 : World), Ext (fun b => b = bw ∨ b = bv) b6 b1 →
 ∃ (cq : Option Addr), b1.cell? ((blk q9).add 2) = some (.pointer cq) ∧
 Calls Try.prog 25 #[.pointer cq, .agg #[.int .i64 an, .int .i64 ba, .int .u64 a0, .int .i64 a8, .slice a2 a1 a3, .slice aj am af]] b1 fun cm bk => ∃ (bt : Int), cm = .returned (.int .i64 bt) ∧
 Keep [bv, bw, da, be] b1 bk ∧
 ∃ (db : Option Addr), bk.cell? ((blk q9).add 3) = some (.pointer db) ∧
 ∀ (bj : World), Ext no bk bj →
 Calls Try.prog 25 #[.pointer db, .agg #[.int .i64 an, .int .i64 ba, .int .u64 a0, .int .i64 a8, .slice a2 a1 a3, .slice aj am af]] bj fun cl b5 => ∃ (bh : Int), cl = .returned (.int .i64 bh) ∧
 Keep [bv, bw, be] bj b5 ∧
 ∃ (ct : Option Addr), b5.cell? ((blk q9).add 4) = some (.pointer ct) ∧
 ∃ (cx : Option Addr), b5.cell? ((blk q9).add 1) = some (.pointer cx) ∧
 ∀ (bl : World), Ext no b5 bl →
 Calls Try.prog 26 #[.pointer ct, .pointer cx, .agg #[.int .i64 ah, .int .i64 az, .int .u64 a5, .int .i64 aa, .slice a4 a6 a7, .slice ae ag al]] bl fun cn c3 => ∃ (bo : Int), cn = .returned (.int .i64 bo) ∧
 Keep [bv, bw] bl c3 ∧
 (-9223372036854775808 : Int) ≤ (ck + 1) ∧ (ck + 1) < 9223372036854775808 ∧
 ∃ d9, d9 < dy ∧ I0 d9 [.int .u64 ap, .int .i64 (ck + 1), .slice c2 c5 c0, .int .i64 ar, .slice c1 bx c7, .int .i64 au] c3)))) ∧
 (c4 ≤ ck →
 R (.pointer (some (blk q9))) bs))))

theorem Q06.up (cq : Option Addr) (cn cm : Nat) (di : Int) {R : RW} {w : World} (h : Q06.N cq cn cm di R w) : Q06.M cq cn cm di R w := by
  unfold Q06.M
  unfold Q06.N at h
  refine h.mono fun ih fd h => ?_
  obtain ⟨fy, he, h⟩ := h
  refine ⟨fy, he, ?_⟩
  refine Q01 fun f3 e6 => ?_
  have h := h f3 fd.heap.size ((Ext.refl no fd).x_alloc e6) (Blk.of_new e6) ((Ext.refl no fd)).size (Q0x e6)
  refine Q01 fun gc e8 => ?_
  have h := h gc f3.heap.size ((Ext.refl no f3).x_alloc e8) (Blk.of_new e8) ((Ext.refl no f3)).size (Q0x e8)
  obtain ⟨i5, fe, h⟩ := h
  refine ⟨i5, fe, ?_⟩
  refine h.mono fun gk gl h => ?_
  obtain ⟨e2, dk, he, h⟩ := h
  refine ⟨e2, dk, he, ?_⟩
  obtain ⟨gq, fz, h⟩ := h
  refine ⟨gq, fz, ?_⟩
  refine h.mono fun ig i3 h => ?_
  obtain ⟨dt, e3, he, h⟩ := h
  refine ⟨dt, e3, he, ?_⟩
  obtain ⟨gz, fk, h⟩ := h
  refine ⟨gz, fk, ?_⟩
  refine h.mono fun gp i8 h => ?_
  obtain ⟨dy, e0, he, h⟩ := h
  refine ⟨dy, e0, he, ?_⟩
  obtain ⟨gx, fm, h⟩ := h
  refine ⟨gx, fm, ?_⟩
  refine h.mono fun i0 gg h => ?_
  obtain ⟨dn, dw, he, h⟩ := h
  refine ⟨dn, dw, he, ?_⟩
  obtain ⟨hcs, h⟩ := h
  refine ⟨hcs, Q01 fun ie gs => ?_⟩
  replace h := Q1d h gs
  obtain ⟨gi, fv, h⟩ := h
  refine ⟨gi, fv, ?_⟩
  refine h.mono fun gj gf h => ?_
  obtain ⟨eq, eu, he, h⟩ := h
  refine ⟨eq, eu, he, ?_⟩
  obtain ⟨gv, ff, h⟩ := h
  refine ⟨gv, ff, ?_⟩
  refine h.mono fun i9 gn h => ?_
  obtain ⟨ev, er, he, h⟩ := h
  refine ⟨ev, er, he, ?_⟩
  refine bif_of (fun fo => ?_) (fun fo => ?_)
  ·have h := h.1 (bne_t fo)
   exact h
  have h := h.2 (bne_f fo)
  refine bif_of (fun fu => ?_) (fun fu => ?_)
  ·have h := h.1 (bne_t fu)
   exact h
  have h := h.2 (bne_f fu)
  refine bif_of (fun fl => ?_) (fun fl => ?_)
  ·have h := h.1 (Q1B fl)
   exact h
  have h := h.2 (Q1C fl)
  unfold Q06.J7
  obtain ⟨hcs, h⟩ := h
  refine ⟨hcs, Q01 fun i4 gh => ?_⟩
  replace h := Q1d h gh
  obtain ⟨hcs, h⟩ := h
  refine ⟨hcs, Q01 fun dr ia => ?_⟩
  replace h := Q1d h ia
  refine Q01 fun f6 fx => ?_
  have h := h f6 dr.heap.size ((Ext.refl no dr).x_alloc fx) (Blk.of_new fx) ((Ext.refl no dr)).size (Q0x fx)
  obtain ⟨hcs, h⟩ := h
  refine ⟨hcs, Q01 fun ic ga => ?_⟩
  replace h := Q1d h ga
  refine h.mono fun gw i2 h => ?_
  obtain ⟨dp, dv, dq, cd, he, h⟩ := h
  refine ⟨dp, dv, dq, cd, he, ?_⟩
  refine h.mono fun i7 cf h => ?_
  obtain ⟨e4, e1, dx, ce, he, h⟩ := h
  refine ⟨e4, e1, dx, ce, he, ?_⟩
  refine Q01 fun d6 g9 => ?_
  have a2 := Blk.of_new g9
  have g4 := ((Ext.refl no cf)).size
  have es := (Ext.refl no cf).x_alloc g9
  refine Q01 fun i6 fa => ?_
  have a1 := Blk.of_new fa
  have g7 := (es).size
  have co := Nat.ne_of_lt a2.lt
  have a2 := a2.x_alloc fa
  have fp := es.x_alloc fa
  refine Q0p (k := 0) (j := 0) a2 (Nat.le_of_ble_eq_true rfl) fun fj g8 gm => ?_
  have f7 := fp.x_puts g8 (.inr g4)
  have a2 : Blk fj cf.heap.size 64 [.slice dp dv dq, .int .i64 cd] := gm
  have a1 := a1.x_puts g8 (Ne.symm co)
  refine Q0p (k := 0) (j := 0) a1 (Nat.le_of_ble_eq_true rfl) fun em g6 ge => ?_
  have g0 := f7.x_puts g6 (.inr g7)
  have a2 := a2.x_puts g6 co
  have a1 : Blk em d6.heap.size 68 [.slice e4 e1 dx, .int .i64 ce] := ge
  have h := h em (cf.heap.size) (d6.heap.size) g0 (Priv.cons g4 a2.lt (Priv.cons g7 a1.lt Priv.nil))
  obtain ⟨I0, i1, h0, h⟩ := h
  refine ⟨fun k vs ww => ∃ (cc : Option Addr) (ca c9 : Nat) (au : Int) (c7 : Option Addr) (c6 c8 : Nat) (aq : Int), Blk ww cf.heap.size 64 [.slice cc ca c9, .int .i64 au] ∧ Blk ww d6.heap.size 68 [.slice c7 c6 c8, .int .i64 aq] ∧ I0 k (vs ++ [.slice cc ca c9, .int .i64 au, .slice c7 c6 c8, .int .i64 aq]) ww, i1, ⟨dp, dv, dq, cd, e4, e1, dx, ce, a2, a1, h0⟩, fun gr ew du gu hI => ?_⟩
  obtain ⟨cc, ca, c9, au, c7, c6, c8, aq, a2, a1, hI⟩ := hI
  have h := h gr ew du gu cc ca c9 au c7 c6 c8 aq hI
  refine bif_fo (fun fi => ?_) (fun fi => ?_)
  ·have h := h.2 (Int.not_lt.1 (of_decide_eq_false fi))
   exact h
  have h := h.1 (of_decide_eq_true fi)
  unfold Q06.J6
  refine Q01 fun cs fh => ?_
  have df := (Ext.refl no ew).x_drew fh
  have a2 := a2.x_drew fh
  have a1 := a1.x_drew fh
  obtain ⟨gt, ey, h⟩ := h
  refine ⟨gt, (df).cell ey id, ?_⟩
  refine ⟨cc, ca, c9, au, ⟨a2.celli 0 rfl rfl, a2.celli 1 rfl rfl, trivial⟩, ?_⟩
  refine ⟨?_, ?_⟩
  focus
   have h := h cs [] df Priv.nil
   refine h.mono fun gb db h => ?_
   obtain ⟨b1, bg, af, al, ah, ag, ai, ay, b0, ax, cx, c3, he, hkL, hk, h⟩ := h
   refine ⟨b1, bg, af, al, ah, ag, ai, ay, b0, ax, cx, c3, he, ?_⟩
   have a2 := hk.blk a2 (by simp)
   have a1 := hk.blk a1 (by simp)
   refine Q01 fun ek f1 => ?_
   have a0 := Blk.of_new f1
   have f4 := ((Ext.refl (fun b => b ∈ ([] : List Nat)) db)).size
   have cp := Nat.ne_of_lt a2.lt
   have a2 := a2.x_alloc f1
   have cr := Nat.ne_of_lt a1.lt
   have a1 := a1.x_alloc f1
   have fq := (Ext.refl (fun b => b ∈ ([] : List Nat)) db).x_alloc f1
   refine Q0p (k := 0) (j := 0) a0 (Nat.le_of_ble_eq_true rfl) fun dz ds fc => ?_
   have e5 := fq.x_puts ds (.inr f4)
   have a2 := a2.x_puts ds cp
   have a1 := a1.x_puts ds cr
   have a0 : Blk dz db.heap.size 72 [.int .i64 b1, .int .i64 bg, .int .u64 af, .int .i64 al, .slice ah ag ai, .slice ay b0 ax] := fc
   unfold Q06.J5
   refine Q01 fun bc dg => ?_
   have dl := e5.x_drew dg
   have a2 := a2.x_drew dg
   have a1 := a1.x_drew dg
   have a0 := a0.x_drew dg
   have h := h bc (db.heap.size) dl (PrivJ.cons (.inr f4) a0.lt PrivJ.nil)
   obtain ⟨f5, d0, h⟩ := h
   refine ⟨f5, d0, ?_⟩
   refine ⟨c7, c6, c8, aq, ⟨a1.celli 0 rfl rfl, a1.celli 1 rfl rfl, trivial⟩, ?_⟩
   refine ⟨?_, ?_⟩
   have h := h bc [] (Ext.refl no bc) Priv.nil
   refine h.mono fun ec bk h => ?_
   obtain ⟨ad, aj, a5, a8, a4, a6, a7, ab, ac, ae, bm, an, he, hkL, hk, h⟩ := h
   refine ⟨ad, aj, a5, a8, a4, a6, a7, ab, ac, ae, bm, an, he, ?_⟩
   have a2 := hk.blk a2 (by simp)
   have a1 := hk.blk a1 (by simp)
   have a0 := hk.blk a0 (by simp)
   refine Q01 fun cg bw => ?_
   have a3 := Blk.of_new bw
   have de := ((Ext.refl (fun b => b ∈ ([] : List Nat)) bk)).size
   have bn := Nat.ne_of_lt a2.lt
   have a2 := a2.x_alloc bw
   have bp := Nat.ne_of_lt a1.lt
   have a1 := a1.x_alloc bw
   have bt := Nat.ne_of_lt a0.lt
   have a0 := a0.x_alloc bw
   have cu := (Ext.refl (fun b => b ∈ ([] : List Nat)) bk).x_alloc bw
   refine Q0p (k := 0) (j := 0) a3 (Nat.le_of_ble_eq_true rfl) fun aw bb ci => ?_
   have bf := cu.x_puts bb (.inr de)
   have a2 := a2.x_puts bb bn
   have a1 := a1.x_puts bb bp
   have a0 := a0.x_puts bb bt
   have a3 : Blk aw bk.heap.size 77 [.int .i64 ad, .int .i64 aj, .int .u64 a5, .int .i64 a8, .slice a4 a6 a7, .slice ab ac ae] := ci
   unfold Q06.J4
   refine bif_of (fun bi => ?_) (fun bi => ?_)
   ·have h := h.1 (bne_t bi)
    have h := h aw bf
    exact h
   have h := h.2 (bne_f bi)
   unfold Q06.J3
   refine ⟨cc, ca, c9, au, ⟨a2.celli 0 rfl rfl, a2.celli 1 rfl rfl, trivial⟩, ?_⟩
   refine ⟨b1, bg, af, al, ah, ag, ai, ay, b0, ax, ⟨a0.celli 0 rfl rfl, a0.celli 1 rfl rfl, a0.celli 2 rfl rfl, a0.celli 3 rfl rfl, a0.celli 4 rfl rfl, a0.celli 5 rfl rfl, trivial⟩, ?_⟩
   have h := h aw (bk.heap.size) bf (PrivJ.cons (.inr de) a3.lt PrivJ.nil)
   refine h.mono fun d3 am h => ?_
   obtain ⟨b8, b9, b6, a9, av, he, hk, h⟩ := h
   refine ⟨b8, b9, b6, a9, av, he, ?_⟩
   have a2 := hk.blk a2 (by simp)
   have a1 := hk.blk a1 (by simp)
   have a0 := hk.blk a0 (by simp)
   have a3 := hk.blk a3 (by simp)
   refine Q01 fun cv ao => ?_
   have az := Blk.of_new ao
   have d4 := ((Ext.refl no am)).size
   have c5 := Nat.ne_of_lt a2.lt
   have a2 := a2.x_alloc ao
   have c4 := Nat.ne_of_lt a1.lt
   have a1 := a1.x_alloc ao
   have bs := Nat.ne_of_lt a0.lt
   have a0 := a0.x_alloc ao
   have c2 := Nat.ne_of_lt a3.lt
   have a3 := a3.x_alloc ao
   have br := (Ext.refl no am).x_alloc ao
   refine Q0p (k := 0) (j := 0) az (Nat.le_of_ble_eq_true rfl) fun be b2 cl => ?_
   have bu := br.x_puts b2 (.inr d4)
   have a2 := a2.x_puts b2 c5
   have a1 := a1.x_puts b2 c4
   have a0 := a0.x_puts b2 bs
   have a3 := a3.x_puts b2 c2
   have az : Blk be am.heap.size 64 [.slice b8 b9 b6, .int .i64 a9] := cl
   refine ⟨c7, c6, c8, aq, ⟨a1.celli 0 rfl rfl, a1.celli 1 rfl rfl, trivial⟩, ?_⟩
   refine ⟨ad, aj, a5, a8, a4, a6, a7, ab, ac, ae, ⟨a3.celli 0 rfl rfl, a3.celli 1 rfl rfl, a3.celli 2 rfl rfl, a3.celli 3 rfl rfl, a3.celli 4 rfl rfl, a3.celli 5 rfl rfl, trivial⟩, ?_⟩
   have h := h be (am.heap.size) bu (Priv.cons d4 az.lt Priv.nil)
   refine h.mono fun d5 ar h => ?_
   obtain ⟨b7, b5, ba, aa, b3, he, hk, h⟩ := h
   refine ⟨b7, b5, ba, aa, b3, he, ?_⟩
   have a2 := hk.blk a2 (by simp)
   have a1 := hk.blk a1 (by simp)
   have a0 := hk.blk a0 (by simp)
   have a3 := hk.blk a3 (by simp)
   have az := hk.blk az (by simp)
   refine Q01 fun cz ak => ?_
   have cb := Blk.of_new ak
   have dm := ((Ext.refl no ar)).size
   have bo := Nat.ne_of_lt a2.lt
   have a2 := a2.x_alloc ak
   have c1 := Nat.ne_of_lt a1.lt
   have a1 := a1.x_alloc ak
   have bz := Nat.ne_of_lt a0.lt
   have a0 := a0.x_alloc ak
   have bq := Nat.ne_of_lt a3.lt
   have a3 := a3.x_alloc ak
   have c0 := Nat.ne_of_lt az.lt
   have az := az.x_alloc ak
   have bx := (Ext.refl no ar).x_alloc ak
   refine Q0p (k := 0) (j := 0) cb (Nat.le_of_ble_eq_true rfl) fun b4 ap cj => ?_
   have bd := bx.x_puts ap (.inr dm)
   have a2 := a2.x_puts ap bo
   have a1 := a1.x_puts ap c1
   have a0 := a0.x_puts ap bz
   have a3 := a3.x_puts ap bq
   have az := az.x_puts ap c0
   have cb : Blk b4 ar.heap.size 68 [.slice b7 b5 ba, .int .i64 aa] := cj
   refine bif_of (fun bj => ?_) (fun bj => ?_)
   ·have h := h.1 (bne_t bj)
    have h := h b4 bd
    exact h
   have h := h.2 (bne_f bj)
   refine bif_of (fun bh => ?_) (fun bh => ?_)
   ·have h := h.1 (bne_t bh)
    have h := h b4 bd
    exact h
   have h := h.2 (bne_f bh)
   rotate_left
   refine Q01 fun d8 bv => ?_
   have a3 := Blk.of_new bv
   have de := ((Ext.refl no bc)).size
   have bn := Nat.ne_of_lt a2.lt
   have a2 := a2.x_alloc bv
   have bp := Nat.ne_of_lt a1.lt
   have a1 := a1.x_alloc bv
   have bt := Nat.ne_of_lt a0.lt
   have a0 := a0.x_alloc bv
   have ch := (Ext.refl no bc).x_alloc bv
   refine ⟨⟨a1.celli 0 rfl rfl, a1.celli 1 rfl rfl, trivial⟩, (ch).cell d0 id, ?_⟩
   have h := h d8 [bc.heap.size] ch (Priv.cons de a3.lt Priv.nil)
   refine h.mono fun e7 cg h => ?_
   obtain ⟨ad, aj, a5, a8, a4, a6, a7, ab, ac, ae, an, bl, he, hkL, hk, h⟩ := h
   refine ⟨ad, aj, a5, a8, a4, a6, a7, ab, ac, ae, an, bl, he, ?_⟩
   have a3 := hkL.blk a3 (by simp)
   have a2 := hk.blk a2 (by simp)
   have a1 := hk.blk a1 (by simp)
   have a0 := hk.blk a0 (by simp)
   refine Q0p (k := 0) (j := 0) a3 (Nat.le_of_ble_eq_true rfl) fun aw bb ci => ?_
   have bf := (Ext.refl (fun b => b ∈ ([bc.heap.size] : List Nat)) cg).x_puts bb (.inl (by simp))
   have a2 := a2.x_puts bb bn
   have a1 := a1.x_puts bb bp
   have a0 := a0.x_puts bb bt
   have a3 : Blk aw bc.heap.size 77 [.int .i64 ad, .int .i64 aj, .int .u64 a5, .int .i64 a8, .slice a4 a6 a7, .slice ab ac ae] := ci
   unfold Q06.J4
   refine bif_of (fun bi => ?_) (fun bi => ?_)
   ·have h := h.1 (bne_t bi)
    have h := h aw bf
    exact h
   have h := h.2 (bne_f bi)
   unfold Q06.J3
   refine ⟨cc, ca, c9, au, ⟨a2.celli 0 rfl rfl, a2.celli 1 rfl rfl, trivial⟩, ?_⟩
   refine ⟨b1, bg, af, al, ah, ag, ai, ay, b0, ax, ⟨a0.celli 0 rfl rfl, a0.celli 1 rfl rfl, a0.celli 2 rfl rfl, a0.celli 3 rfl rfl, a0.celli 4 rfl rfl, a0.celli 5 rfl rfl, trivial⟩, ?_⟩
   have h := h aw (bc.heap.size) bf (PrivJ.cons (.inl (by simp)) a3.lt PrivJ.nil)
   refine h.mono fun d3 am h => ?_
   obtain ⟨b8, b9, b6, a9, av, he, hk, h⟩ := h
   refine ⟨b8, b9, b6, a9, av, he, ?_⟩
   have a2 := hk.blk a2 (by simp)
   have a1 := hk.blk a1 (by simp)
   have a0 := hk.blk a0 (by simp)
   have a3 := hk.blk a3 (by simp)
   refine Q01 fun cv ao => ?_
   have az := Blk.of_new ao
   have d4 := ((Ext.refl no am)).size
   have c5 := Nat.ne_of_lt a2.lt
   have a2 := a2.x_alloc ao
   have c4 := Nat.ne_of_lt a1.lt
   have a1 := a1.x_alloc ao
   have bs := Nat.ne_of_lt a0.lt
   have a0 := a0.x_alloc ao
   have c2 := Nat.ne_of_lt a3.lt
   have a3 := a3.x_alloc ao
   have br := (Ext.refl no am).x_alloc ao
   refine Q0p (k := 0) (j := 0) az (Nat.le_of_ble_eq_true rfl) fun be b2 cl => ?_
   have bu := br.x_puts b2 (.inr d4)
   have a2 := a2.x_puts b2 c5
   have a1 := a1.x_puts b2 c4
   have a0 := a0.x_puts b2 bs
   have a3 := a3.x_puts b2 c2
   have az : Blk be am.heap.size 64 [.slice b8 b9 b6, .int .i64 a9] := cl
   refine ⟨c7, c6, c8, aq, ⟨a1.celli 0 rfl rfl, a1.celli 1 rfl rfl, trivial⟩, ?_⟩
   refine ⟨ad, aj, a5, a8, a4, a6, a7, ab, ac, ae, ⟨a3.celli 0 rfl rfl, a3.celli 1 rfl rfl, a3.celli 2 rfl rfl, a3.celli 3 rfl rfl, a3.celli 4 rfl rfl, a3.celli 5 rfl rfl, trivial⟩, ?_⟩
   have h := h be (am.heap.size) bu (Priv.cons d4 az.lt Priv.nil)
   refine h.mono fun d5 ar h => ?_
   obtain ⟨b7, b5, ba, aa, b3, he, hk, h⟩ := h
   refine ⟨b7, b5, ba, aa, b3, he, ?_⟩
   have a2 := hk.blk a2 (by simp)
   have a1 := hk.blk a1 (by simp)
   have a0 := hk.blk a0 (by simp)
   have a3 := hk.blk a3 (by simp)
   have az := hk.blk az (by simp)
   refine Q01 fun cz ak => ?_
   have cb := Blk.of_new ak
   have dm := ((Ext.refl no ar)).size
   have bo := Nat.ne_of_lt a2.lt
   have a2 := a2.x_alloc ak
   have c1 := Nat.ne_of_lt a1.lt
   have a1 := a1.x_alloc ak
   have bz := Nat.ne_of_lt a0.lt
   have a0 := a0.x_alloc ak
   have bq := Nat.ne_of_lt a3.lt
   have a3 := a3.x_alloc ak
   have c0 := Nat.ne_of_lt az.lt
   have az := az.x_alloc ak
   have bx := (Ext.refl no ar).x_alloc ak
   refine Q0p (k := 0) (j := 0) cb (Nat.le_of_ble_eq_true rfl) fun b4 ap cj => ?_
   have bd := bx.x_puts ap (.inr dm)
   have a2 := a2.x_puts ap bo
   have a1 := a1.x_puts ap c1
   have a0 := a0.x_puts ap bz
   have a3 := a3.x_puts ap bq
   have az := az.x_puts ap c0
   have cb : Blk b4 ar.heap.size 68 [.slice b7 b5 ba, .int .i64 aa] := cj
   refine bif_of (fun bj => ?_) (fun bj => ?_)
   ·have h := h.1 (bne_t bj)
    have h := h b4 bd
    exact h
   have h := h.2 (bne_f bj)
   refine bif_of (fun bh => ?_) (fun bh => ?_)
   ·have h := h.1 (bne_t bh)
    have h := h b4 bd
    exact h
   have h := h.2 (bne_f bh)
   rotate_left
  rotate_left 2
  focus
   refine Q01 fun fr f2 => ?_
   have a0 := Blk.of_new f2
   have f4 := (df).size
   have cp := Nat.ne_of_lt a2.lt
   have a2 := a2.x_alloc f2
   have cr := Nat.ne_of_lt a1.lt
   have a1 := a1.x_alloc f2
   have eo := df.x_alloc f2
   refine ⟨⟨a2.celli 0 rfl rfl, a2.celli 1 rfl rfl, trivial⟩, (eo).cell ey id, ?_⟩
   have h := h fr [cs.heap.size] eo (Priv.cons f4 a0.lt Priv.nil)
   refine h.mono fun gd ek h => ?_
   obtain ⟨b1, bg, af, al, ah, ag, ai, ay, b0, ax, c3, cw, he, hkL, hk, h⟩ := h
   refine ⟨b1, bg, af, al, ah, ag, ai, ay, b0, ax, c3, cw, he, ?_⟩
   have a0 := hkL.blk a0 (by simp)
   have a2 := hk.blk a2 (by simp)
   have a1 := hk.blk a1 (by simp)
   refine Q0p (k := 0) (j := 0) a0 (Nat.le_of_ble_eq_true rfl) fun dz ds fc => ?_
   have e5 := (Ext.refl (fun b => b ∈ ([cs.heap.size] : List Nat)) ek).x_puts ds (.inl (by simp))
   have a2 := a2.x_puts ds cp
   have a1 := a1.x_puts ds cr
   have a0 : Blk dz cs.heap.size 72 [.int .i64 b1, .int .i64 bg, .int .u64 af, .int .i64 al, .slice ah ag ai, .slice ay b0 ax] := fc
   unfold Q06.J5
   refine Q01 fun bc dg => ?_
   have dl := e5.x_drew dg
   have a2 := a2.x_drew dg
   have a1 := a1.x_drew dg
   have a0 := a0.x_drew dg
   have h := h bc (cs.heap.size) dl (PrivJ.cons (.inl (by simp)) a0.lt PrivJ.nil)
   obtain ⟨f5, d0, h⟩ := h
   refine ⟨f5, d0, ?_⟩
   refine ⟨c7, c6, c8, aq, ⟨a1.celli 0 rfl rfl, a1.celli 1 rfl rfl, trivial⟩, ?_⟩
   refine ⟨?_, ?_⟩
   have h := h bc [] (Ext.refl no bc) Priv.nil
   refine h.mono fun ec bk h => ?_
   obtain ⟨ad, aj, a5, a8, a4, a6, a7, ab, ac, ae, bm, an, he, hkL, hk, h⟩ := h
   refine ⟨ad, aj, a5, a8, a4, a6, a7, ab, ac, ae, bm, an, he, ?_⟩
   have a2 := hk.blk a2 (by simp)
   have a1 := hk.blk a1 (by simp)
   have a0 := hk.blk a0 (by simp)
   refine Q01 fun cg bw => ?_
   have a3 := Blk.of_new bw
   have de := ((Ext.refl (fun b => b ∈ ([] : List Nat)) bk)).size
   have bn := Nat.ne_of_lt a2.lt
   have a2 := a2.x_alloc bw
   have bp := Nat.ne_of_lt a1.lt
   have a1 := a1.x_alloc bw
   have bt := Nat.ne_of_lt a0.lt
   have a0 := a0.x_alloc bw
   have cu := (Ext.refl (fun b => b ∈ ([] : List Nat)) bk).x_alloc bw
   refine Q0p (k := 0) (j := 0) a3 (Nat.le_of_ble_eq_true rfl) fun aw bb ci => ?_
   have bf := cu.x_puts bb (.inr de)
   have a2 := a2.x_puts bb bn
   have a1 := a1.x_puts bb bp
   have a0 := a0.x_puts bb bt
   have a3 : Blk aw bk.heap.size 77 [.int .i64 ad, .int .i64 aj, .int .u64 a5, .int .i64 a8, .slice a4 a6 a7, .slice ab ac ae] := ci
   unfold Q06.J4
   refine bif_of (fun bi => ?_) (fun bi => ?_)
   ·have h := h.1 (bne_t bi)
    have h := h aw bf
    exact h
   have h := h.2 (bne_f bi)
   unfold Q06.J3
   refine ⟨cc, ca, c9, au, ⟨a2.celli 0 rfl rfl, a2.celli 1 rfl rfl, trivial⟩, ?_⟩
   refine ⟨b1, bg, af, al, ah, ag, ai, ay, b0, ax, ⟨a0.celli 0 rfl rfl, a0.celli 1 rfl rfl, a0.celli 2 rfl rfl, a0.celli 3 rfl rfl, a0.celli 4 rfl rfl, a0.celli 5 rfl rfl, trivial⟩, ?_⟩
   have h := h aw (bk.heap.size) bf (PrivJ.cons (.inr de) a3.lt PrivJ.nil)
   refine h.mono fun d3 am h => ?_
   obtain ⟨b8, b9, b6, a9, av, he, hk, h⟩ := h
   refine ⟨b8, b9, b6, a9, av, he, ?_⟩
   have a2 := hk.blk a2 (by simp)
   have a1 := hk.blk a1 (by simp)
   have a0 := hk.blk a0 (by simp)
   have a3 := hk.blk a3 (by simp)
   refine Q01 fun cv ao => ?_
   have az := Blk.of_new ao
   have d4 := ((Ext.refl no am)).size
   have c5 := Nat.ne_of_lt a2.lt
   have a2 := a2.x_alloc ao
   have c4 := Nat.ne_of_lt a1.lt
   have a1 := a1.x_alloc ao
   have bs := Nat.ne_of_lt a0.lt
   have a0 := a0.x_alloc ao
   have c2 := Nat.ne_of_lt a3.lt
   have a3 := a3.x_alloc ao
   have br := (Ext.refl no am).x_alloc ao
   refine Q0p (k := 0) (j := 0) az (Nat.le_of_ble_eq_true rfl) fun be b2 cl => ?_
   have bu := br.x_puts b2 (.inr d4)
   have a2 := a2.x_puts b2 c5
   have a1 := a1.x_puts b2 c4
   have a0 := a0.x_puts b2 bs
   have a3 := a3.x_puts b2 c2
   have az : Blk be am.heap.size 64 [.slice b8 b9 b6, .int .i64 a9] := cl
   refine ⟨c7, c6, c8, aq, ⟨a1.celli 0 rfl rfl, a1.celli 1 rfl rfl, trivial⟩, ?_⟩
   refine ⟨ad, aj, a5, a8, a4, a6, a7, ab, ac, ae, ⟨a3.celli 0 rfl rfl, a3.celli 1 rfl rfl, a3.celli 2 rfl rfl, a3.celli 3 rfl rfl, a3.celli 4 rfl rfl, a3.celli 5 rfl rfl, trivial⟩, ?_⟩
   have h := h be (am.heap.size) bu (Priv.cons d4 az.lt Priv.nil)
   refine h.mono fun d5 ar h => ?_
   obtain ⟨b7, b5, ba, aa, b3, he, hk, h⟩ := h
   refine ⟨b7, b5, ba, aa, b3, he, ?_⟩
   have a2 := hk.blk a2 (by simp)
   have a1 := hk.blk a1 (by simp)
   have a0 := hk.blk a0 (by simp)
   have a3 := hk.blk a3 (by simp)
   have az := hk.blk az (by simp)
   refine Q01 fun cz ak => ?_
   have cb := Blk.of_new ak
   have dm := ((Ext.refl no ar)).size
   have bo := Nat.ne_of_lt a2.lt
   have a2 := a2.x_alloc ak
   have c1 := Nat.ne_of_lt a1.lt
   have a1 := a1.x_alloc ak
   have bz := Nat.ne_of_lt a0.lt
   have a0 := a0.x_alloc ak
   have bq := Nat.ne_of_lt a3.lt
   have a3 := a3.x_alloc ak
   have c0 := Nat.ne_of_lt az.lt
   have az := az.x_alloc ak
   have bx := (Ext.refl no ar).x_alloc ak
   refine Q0p (k := 0) (j := 0) cb (Nat.le_of_ble_eq_true rfl) fun b4 ap cj => ?_
   have bd := bx.x_puts ap (.inr dm)
   have a2 := a2.x_puts ap bo
   have a1 := a1.x_puts ap c1
   have a0 := a0.x_puts ap bz
   have a3 := a3.x_puts ap bq
   have az := az.x_puts ap c0
   have cb : Blk b4 ar.heap.size 68 [.slice b7 b5 ba, .int .i64 aa] := cj
   refine bif_of (fun bj => ?_) (fun bj => ?_)
   ·have h := h.1 (bne_t bj)
    have h := h b4 bd
    exact h
   have h := h.2 (bne_f bj)
   refine bif_of (fun bh => ?_) (fun bh => ?_)
   ·have h := h.1 (bne_t bh)
    have h := h b4 bd
    exact h
   have h := h.2 (bne_f bh)
   rotate_left
   refine Q01 fun d8 bv => ?_
   have a3 := Blk.of_new bv
   have de := ((Ext.refl no bc)).size
   have bn := Nat.ne_of_lt a2.lt
   have a2 := a2.x_alloc bv
   have bp := Nat.ne_of_lt a1.lt
   have a1 := a1.x_alloc bv
   have bt := Nat.ne_of_lt a0.lt
   have a0 := a0.x_alloc bv
   have ch := (Ext.refl no bc).x_alloc bv
   refine ⟨⟨a1.celli 0 rfl rfl, a1.celli 1 rfl rfl, trivial⟩, (ch).cell d0 id, ?_⟩
   have h := h d8 [bc.heap.size] ch (Priv.cons de a3.lt Priv.nil)
   refine h.mono fun e7 cg h => ?_
   obtain ⟨ad, aj, a5, a8, a4, a6, a7, ab, ac, ae, an, bl, he, hkL, hk, h⟩ := h
   refine ⟨ad, aj, a5, a8, a4, a6, a7, ab, ac, ae, an, bl, he, ?_⟩
   have a3 := hkL.blk a3 (by simp)
   have a2 := hk.blk a2 (by simp)
   have a1 := hk.blk a1 (by simp)
   have a0 := hk.blk a0 (by simp)
   refine Q0p (k := 0) (j := 0) a3 (Nat.le_of_ble_eq_true rfl) fun aw bb ci => ?_
   have bf := (Ext.refl (fun b => b ∈ ([bc.heap.size] : List Nat)) cg).x_puts bb (.inl (by simp))
   have a2 := a2.x_puts bb bn
   have a1 := a1.x_puts bb bp
   have a0 := a0.x_puts bb bt
   have a3 : Blk aw bc.heap.size 77 [.int .i64 ad, .int .i64 aj, .int .u64 a5, .int .i64 a8, .slice a4 a6 a7, .slice ab ac ae] := ci
   unfold Q06.J4
   refine bif_of (fun bi => ?_) (fun bi => ?_)
   ·have h := h.1 (bne_t bi)
    have h := h aw bf
    exact h
   have h := h.2 (bne_f bi)
   unfold Q06.J3
   refine ⟨cc, ca, c9, au, ⟨a2.celli 0 rfl rfl, a2.celli 1 rfl rfl, trivial⟩, ?_⟩
   refine ⟨b1, bg, af, al, ah, ag, ai, ay, b0, ax, ⟨a0.celli 0 rfl rfl, a0.celli 1 rfl rfl, a0.celli 2 rfl rfl, a0.celli 3 rfl rfl, a0.celli 4 rfl rfl, a0.celli 5 rfl rfl, trivial⟩, ?_⟩
   have h := h aw (bc.heap.size) bf (PrivJ.cons (.inl (by simp)) a3.lt PrivJ.nil)
   refine h.mono fun d3 am h => ?_
   obtain ⟨b8, b9, b6, a9, av, he, hk, h⟩ := h
   refine ⟨b8, b9, b6, a9, av, he, ?_⟩
   have a2 := hk.blk a2 (by simp)
   have a1 := hk.blk a1 (by simp)
   have a0 := hk.blk a0 (by simp)
   have a3 := hk.blk a3 (by simp)
   refine Q01 fun cv ao => ?_
   have az := Blk.of_new ao
   have d4 := ((Ext.refl no am)).size
   have c5 := Nat.ne_of_lt a2.lt
   have a2 := a2.x_alloc ao
   have c4 := Nat.ne_of_lt a1.lt
   have a1 := a1.x_alloc ao
   have bs := Nat.ne_of_lt a0.lt
   have a0 := a0.x_alloc ao
   have c2 := Nat.ne_of_lt a3.lt
   have a3 := a3.x_alloc ao
   have br := (Ext.refl no am).x_alloc ao
   refine Q0p (k := 0) (j := 0) az (Nat.le_of_ble_eq_true rfl) fun be b2 cl => ?_
   have bu := br.x_puts b2 (.inr d4)
   have a2 := a2.x_puts b2 c5
   have a1 := a1.x_puts b2 c4
   have a0 := a0.x_puts b2 bs
   have a3 := a3.x_puts b2 c2
   have az : Blk be am.heap.size 64 [.slice b8 b9 b6, .int .i64 a9] := cl
   refine ⟨c7, c6, c8, aq, ⟨a1.celli 0 rfl rfl, a1.celli 1 rfl rfl, trivial⟩, ?_⟩
   refine ⟨ad, aj, a5, a8, a4, a6, a7, ab, ac, ae, ⟨a3.celli 0 rfl rfl, a3.celli 1 rfl rfl, a3.celli 2 rfl rfl, a3.celli 3 rfl rfl, a3.celli 4 rfl rfl, a3.celli 5 rfl rfl, trivial⟩, ?_⟩
   have h := h be (am.heap.size) bu (Priv.cons d4 az.lt Priv.nil)
   refine h.mono fun d5 ar h => ?_
   obtain ⟨b7, b5, ba, aa, b3, he, hk, h⟩ := h
   refine ⟨b7, b5, ba, aa, b3, he, ?_⟩
   have a2 := hk.blk a2 (by simp)
   have a1 := hk.blk a1 (by simp)
   have a0 := hk.blk a0 (by simp)
   have a3 := hk.blk a3 (by simp)
   have az := hk.blk az (by simp)
   refine Q01 fun cz ak => ?_
   have cb := Blk.of_new ak
   have dm := ((Ext.refl no ar)).size
   have bo := Nat.ne_of_lt a2.lt
   have a2 := a2.x_alloc ak
   have c1 := Nat.ne_of_lt a1.lt
   have a1 := a1.x_alloc ak
   have bz := Nat.ne_of_lt a0.lt
   have a0 := a0.x_alloc ak
   have bq := Nat.ne_of_lt a3.lt
   have a3 := a3.x_alloc ak
   have c0 := Nat.ne_of_lt az.lt
   have az := az.x_alloc ak
   have bx := (Ext.refl no ar).x_alloc ak
   refine Q0p (k := 0) (j := 0) cb (Nat.le_of_ble_eq_true rfl) fun b4 ap cj => ?_
   have bd := bx.x_puts ap (.inr dm)
   have a2 := a2.x_puts ap bo
   have a1 := a1.x_puts ap c1
   have a0 := a0.x_puts ap bz
   have a3 := a3.x_puts ap bq
   have az := az.x_puts ap c0
   have cb : Blk b4 ar.heap.size 68 [.slice b7 b5 ba, .int .i64 aa] := cj
   refine bif_of (fun bj => ?_) (fun bj => ?_)
   ·have h := h.1 (bne_t bj)
    have h := h b4 bd
    exact h
   have h := h.2 (bne_f bj)
   refine bif_of (fun bh => ?_) (fun bh => ?_)
   ·have h := h.1 (bne_t bh)
    have h := h b4 bd
    exact h
   have h := h.2 (bne_f bh)
   rotate_left
  rotate_left 2
  all_goals
   unfold Q06.J2
   refine Q01 fun ed ck => ?_
   have ez := bd.x_drew ck
   have a2 := a2.x_drew ck
   have a1 := a1.x_drew ck
   have a0 := a0.x_drew ck
   have a3 := a3.x_drew ck
   have az := az.x_drew ck
   have cb := cb.x_drew ck
   refine ⟨b8, b9, b6, a9, ⟨az.celli 0 rfl rfl, az.celli 1 rfl rfl, trivial⟩, ?_⟩
   refine ⟨b7, b5, ba, aa, ⟨cb.celli 0 rfl rfl, cb.celli 1 rfl rfl, trivial⟩, ?_⟩
   have en : Ext (fun b => b = cf.heap.size) ar ed := (ez).none
   refine Q0p (k := 0) (j := 0) a2 (Nat.le_of_ble_eq_true rfl) fun dj ct fw => ?_
   have f0 := en.x_puts ct (.inl rfl)
   have a2 : Blk dj cf.heap.size 64 [.slice b8 b9 b6, .int .i64 a9] := fw
   have a1 := a1.x_puts ct (Ne.symm co)
   have a0 := a0.x_puts ct (Ne.symm cp)
   have a3 := a3.x_puts ct (Ne.symm bn)
   have cb := cb.x_puts ct (Ne.symm bo)
   refine ⟨⟨cb.celli 0 rfl rfl, cb.celli 1 rfl rfl, trivial⟩, ?_⟩
   have e9 : Ext (fun b => b = d6.heap.size ∨ b = cf.heap.size) ar dj := (f0).mono fun _ h _ => .inr h
   refine Q0p (k := 0) (j := 0) a1 (Nat.le_of_ble_eq_true rfl) fun ea dd f9 => ?_
   have et := e9.x_puts dd (.inl (.inl rfl))
   have a2 := a2.x_puts dd co
   have a1 : Blk ea d6.heap.size 68 [.slice b7 b5 ba, .int .i64 aa] := f9
   have a0 := a0.x_puts dd (Ne.symm cr)
   have a3 := a3.x_puts dd (Ne.symm bp)
   unfold Q06.J1
   refine Q01 fun eb d2 => ?_
   have ep := et.x_drew d2
   have a2 := a2.x_drew d2
   have a1 := a1.x_drew d2
   have a0 := a0.x_drew d2
   have a3 := a3.x_drew d2
   have h := h eb ep
   obtain ⟨f8, ef, h⟩ := h
   refine ⟨f8, ef, ?_⟩
   refine ⟨b1, bg, af, al, ah, ag, ai, ay, b0, ax, ⟨a0.celli 0 rfl rfl, a0.celli 1 rfl rfl, a0.celli 2 rfl rfl, a0.celli 3 rfl rfl, a0.celli 4 rfl rfl, a0.celli 5 rfl rfl, trivial⟩, ?_⟩
   refine h.mono fun g2 ei h => ?_
   obtain ⟨d7, he, hk, h⟩ := h
   refine ⟨d7, he, ?_⟩
   have a2 := hk.blk a2 (by simp)
   have a1 := hk.blk a1 (by simp)
   have a0 := hk.blk a0 (by simp)
   have a3 := hk.blk a3 (by simp)
   refine Q01 fun eg da => ?_
   have dh := (Ext.refl no ei).x_drew da
   have a2 := a2.x_drew da
   have a1 := a1.x_drew da
   have a0 := a0.x_drew da
   have a3 := a3.x_drew da
   obtain ⟨ft, eh, h⟩ := h
   refine ⟨ft, (dh).cell eh id, ?_⟩
   refine ⟨b1, bg, af, al, ah, ag, ai, ay, b0, ax, ⟨a0.celli 0 rfl rfl, a0.celli 1 rfl rfl, a0.celli 2 rfl rfl, a0.celli 3 rfl rfl, a0.celli 4 rfl rfl, a0.celli 5 rfl rfl, trivial⟩, ?_⟩
   have h := h eg dh
   refine h.mono fun g1 el h => ?_
   obtain ⟨cy, he, hk, h⟩ := h
   refine ⟨cy, he, ?_⟩
   have a2 := hk.blk a2 (by simp)
   have a1 := hk.blk a1 (by simp)
   have a3 := hk.blk a3 (by simp)
   refine Q01 fun ej dc => ?_
   have d9 := (Ext.refl no el).x_drew dc
   have a2 := a2.x_drew dc
   have a1 := a1.x_drew dc
   have a3 := a3.x_drew dc
   obtain ⟨fb, ex, h⟩ := h
   refine ⟨fb, (d9).cell ex id, ?_⟩
   obtain ⟨fg, ee, h⟩ := h
   refine ⟨fg, (d9).cell ee id, ?_⟩
   refine ⟨ad, aj, a5, a8, a4, a6, a7, ab, ac, ae, ⟨a3.celli 0 rfl rfl, a3.celli 1 rfl rfl, a3.celli 2 rfl rfl, a3.celli 3 rfl rfl, a3.celli 4 rfl rfl, a3.celli 5 rfl rfl, trivial⟩, ?_⟩
   have h := h ej d9
   refine h.mono fun g3 g5 h => ?_
   obtain ⟨d1, he, hk, h⟩ := h
   refine ⟨d1, he, ?_⟩
   have a2 := hk.blk a2 (by simp)
   have a1 := hk.blk a1 (by simp)
   obtain ⟨gy, ib, h⟩ := h
   try rw [w64 gy ib]
   obtain ⟨fs, hk, h⟩ := h
   exact ⟨fs, hk, b8, b9, b6, a9, b7, b5, ba, aa, a2, a1, h⟩

theorem Q06.go (a1 : Option Addr) (a0 a2 : Nat) (a3 : Int) {R : RW} {w : World} (h : Q06.N a1 a0 a2 a3 R w) : Calls Try.prog 7 #[.slice a1 a0 a2, .int .i64 a3] w fun e w' => ∃ v, e = .returned v ∧ R v w' := Q06.ok a1 a0 a2 a3 (Q06.up a1 a0 a2 a3 h)
abbrev Q0z.J1 (bs : Int) (bp : Option Addr) (br bt : Nat) (bd : Option Addr) (R : RW) (a8 : World) : Prop :=
 thenW (a8.alloc (.cells #[.int .i64 0, .int .i64 0, .int .u64 0, .int .i64 0, .int .i64 0, .int .i64 0, .slice none 0 0, .int .u64 0] 42)) fun bi =>
 putsK bi (blk a8.heap.size) [.int .i64 1, .int .i64 0, .int .u64 0, .int .i64 1, .int .i64 1, .int .i64 0, .slice bp br bt, .int .u64 0] 0 fun be =>
 thenW (be.drew) fun b8 =>
 bd.elim False fun bo =>
 ∃ (bm : Option Addr), b8.cell? (bo.add 0) = some (.pointer bm) ∧
 bd.elim False fun bu =>
 ∃ (bj : Option Addr), b8.cell? (bu.add 2) = some (.pointer bj) ∧
 ∃ (a3 aa au b6 b0 a9 : Int) (ac : Option Addr) (ah ab : Nat) (ax : Int), cellsAt b8 (blk a8.heap.size) [.int .i64 a3, .int .i64 aa, .int .u64 au, .int .i64 b6, .int .i64 b0, .int .i64 a9, .slice ac ah ab, .int .u64 ax] 0 ∧
 Calls Try.prog 9 #[.pointer bm, .pointer bj, .agg #[.int .i64 a3, .int .i64 aa, .int .u64 au, .int .i64 b6, .int .i64 b0, .int .i64 a9, .slice ac ah ab, .int .u64 ax]] b8 fun bg bc => ∃ (ak : Option Addr) (an ag : Nat) (ap : Int), bg = .returned (.tuple #[.slice ak an ag, .int .i64 ap]) ∧
 Q0d bc (((blk a8.heap.size).add 1).add 0) ∧
 thenW (bc.setCell (((blk a8.heap.size).add 1).add 0) (.int .i64 1)) fun bb =>
 Q0d bb (((blk a8.heap.size).add 2).add 0) ∧
 thenW (bb.setCell (((blk a8.heap.size).add 2).add 0) (.int .u64 5)) fun bh =>
 thenW (bh.drew) fun b7 =>
 bd.elim False fun bv =>
 ∃ (bk : Option Addr), b7.cell? (bv.add 0) = some (.pointer bk) ∧
 bd.elim False fun bq =>
 ∃ (bn : Option Addr), b7.cell? (bq.add 2) = some (.pointer bn) ∧
 ∃ (a5 aj aq b4 ay al : Int) (af : Option Addr) (ad ae : Nat) (az : Int), cellsAt b7 (blk a8.heap.size) [.int .i64 a5, .int .i64 aj, .int .u64 aq, .int .i64 b4, .int .i64 ay, .int .i64 al, .slice af ad ae, .int .u64 az] 0 ∧
 Calls Try.prog 9 #[.pointer bk, .pointer bn, .agg #[.int .i64 a5, .int .i64 aj, .int .u64 aq, .int .i64 b4, .int .i64 ay, .int .i64 al, .slice af ad ae, .int .u64 az]] b7 fun bf am => ∃ (b1 : Option Addr) (b2 aw : Nat) (av : Int), bf = .returned (.tuple #[.slice b1 b2 aw, .int .i64 av]) ∧
 bif bs == 0 then (
 bif ap == 0 then (
 ∃ (bl : ByteArray), (convert 25 9 (.slice ak an ag)).run Try.prog am = .ok (.string bl) am ∧
 bif bl.toList == (ByteArray.mk #[120]).toList then (
 bif av == 5 then (
 ∃ (a0 ai ao b5 b3 a1 : Int) (a7 : Option Addr) (a4 a2 : Nat) (ar : Int), cellsAt am (blk a8.heap.size) [.int .i64 a0, .int .i64 ai, .int .u64 ao, .int .i64 b5, .int .i64 b3, .int .i64 a1, .slice a7 a4 a2, .int .u64 ar] 0 ∧
 Calls Try.prog 12 #[.agg #[.int .i64 a0, .int .i64 ai, .int .u64 ao, .int .i64 b5, .int .i64 b3, .int .i64 a1, .slice a7 a4 a2, .int .u64 ar]] am fun b9 ba => ∃ (a6 : Int), b9 = .returned (.int .i64 a6) ∧
 R (.bool (a6 == 0)) ba) else (
 R (.bool false) am)) else (
 R (.bool false) am)) else (
 R (.bool false) am)) else (
 R (.bool false) am)

abbrev Q0z.J2 (j6 : Option Addr) (R : RW) (ag : World) : Prop :=
 thenW (ag.drew) fun aa =>
 j6.elim False fun af =>
 ∃ (ab : Option Addr), aa.cell? (af.add 0) = some (.pointer ab) ∧
 j6.elim False fun ae =>
 ∃ (a9 : Option Addr), aa.cell? (ae.add 2) = some (.pointer a9) ∧
 thenW (aa.alloc (.cells #[.int .u8 120] 5)) fun a5 =>
 a5.cell? (ae.add 2) = some (.pointer a9) ∧
 a5.cell? (af.add 0) = some (.pointer ab) ∧
 ∃ (a8 : Option Addr) (a6 a7 : Nat) (a4 : World), (convert 25 25 (.slice (some (blk aa.heap.size)) 1 1)).run Try.prog a5 = .ok (.slice a8 a6 a7) a4 ∧
 a4.cell? (ae.add 2) = some (.pointer a9) ∧
 a4.cell? (af.add 0) = some (.pointer ab) ∧
 Calls Try.prog 8 #[.pointer ab, .pointer a9, .int .i64 1, .int .i64 0, .int .i64 0, .slice a8 a6 a7] a4 fun ad ac => ∃ (a0 : Option Addr) (a1 a2 : Nat) (a3 : Int), ad = .returned (.tuple #[.slice a0 a1 a2, .int .i64 a3]) ∧
 Q0z.J1 a3 a0 a1 a2 j6 R ac

def Q0z.M  (R : RW) (w : World) : Prop :=
 Calls Try.prog 7 #[.slice none 0 0, .int .i64 1] w fun a2 a1 => ∃ (a0 : Option Addr), a2 = .returned (.pointer a0) ∧
 bif Option.isNone a0 then (
 R (.bool false) a1) else (
 Q0z.J2 a0 R a1)

theorem Q0z.ok  {R : RW} {w : World} (h : Q0z.M  R w) : Calls Try.prog 6 #[] w fun e w' => ∃ v, e = .returned v ∧ R v w' :=
  Q0i follows (H := []) (args := []) (cast (by kernel_rfl) h)

def Q0z.N  (R : RW) (w : World) : Prop :=
 Calls Try.prog 7 #[.slice none 0 0, .int .i64 1] w fun b5 ao => ∃ (a2 : Option Addr), b5 = .returned (.pointer a2) ∧
 (a2 = none →
 R (.bool false) ao) ∧
 (a2 ≠ none →
 ∃ a6 : Addr, a2 = some a6 ∧
 ∃ (o8 : Option Addr), ao.cell? (a6.add 0) = some (.pointer o8) ∧
 ∃ (au : Option Addr), ao.cell? (a6.add 2) = some (.pointer au) ∧
 ∀ (ad : World) (ar : Nat), Ext no ao ad → Blk ad ar 5 [.int .u8 120] → ao.heap.size ≤ ar → ar < ad.heap.size →
 ad.cell? (a6.add 2) = some (.pointer au) ∧
 ad.cell? (a6.add 0) = some (.pointer o8) ∧
 ∃ (ap : Option Addr) (al am : Nat) (ai : World), (convert 25 25 (.slice (some (blk ar)) 1 1)).run Try.prog ad = .ok (.slice ap al am) ai ∧
 ai.cell? (a6.add 2) = some (.pointer au) ∧
 ai.cell? (a6.add 0) = some (.pointer o8) ∧
 Calls Try.prog 8 #[.pointer o8, .pointer au, .int .i64 1, .int .i64 0, .int .i64 0, .slice ap al am] ai fun aw ak => ∃ (a1 : Option Addr) (a0 a3 : Nat) (a7 : Int), aw = .returned (.tuple #[.slice a1 a0 a3, .int .i64 a7]) ∧
 ∃ (b3 : Option Addr), ak.cell? (a6.add 0) = some (.pointer b3) ∧
 ∃ (b2 : Option Addr), ak.cell? (a6.add 2) = some (.pointer b2) ∧
 ∀ (aj : World) (aq : Nat), Ext no ak aj → Priv ak aj [aq] →
 Calls Try.prog 9 #[.pointer b3, .pointer b2, .agg #[.int .i64 1, .int .i64 0, .int .u64 0, .int .i64 1, .int .i64 1, .int .i64 0, .slice a1 a0 a3, .int .u64 0]] aj fun av an => ∃ (a8 : Option Addr) (ac ab : Nat) (a4 : Int), av = .returned (.tuple #[.slice a8 ac ab, .int .i64 a4]) ∧
 Keep [aq] aj an ∧
 ∀ (ag : World), Ext (fun b => b = aq) an ag →
 ∃ (b4 : Option Addr), ag.cell? (a6.add 0) = some (.pointer b4) ∧
 ∃ (b1 : Option Addr), ag.cell? (a6.add 2) = some (.pointer b1) ∧
 Calls Try.prog 9 #[.pointer b4, .pointer b1, .agg #[.int .i64 1, .int .i64 1, .int .u64 5, .int .i64 1, .int .i64 1, .int .i64 0, .slice a1 a0 a3, .int .u64 0]] ag fun b0 aa => ∃ (ae : Option Addr) (ah af : Nat) (a5 : Int), b0 = .returned (.tuple #[.slice ae ah af, .int .i64 a5]) ∧
 Keep [aq] ag aa ∧
 (a7 = 0 →
 (a4 = 0 →
 ∃ (ax : ByteArray), (convert 25 9 (.slice a8 ac ab)).run Try.prog aa = .ok (.string ax) aa ∧
 (ax.toList = (ByteArray.mk #[120]).toList →
 (a5 = 5 →
 Calls Try.prog 12 #[.agg #[.int .i64 1, .int .i64 1, .int .u64 5, .int .i64 1, .int .i64 1, .int .i64 0, .slice a1 a0 a3, .int .u64 0]] aa fun ay az => ∃ (a9 : Int), ay = .returned (.int .i64 a9) ∧
 R (.bool (a9 == 0)) az) ∧
 (a5 ≠ 5 →
 R (.bool false) aa)) ∧
 (ax.toList ≠ (ByteArray.mk #[120]).toList →
 R (.bool false) aa)) ∧
 (a4 ≠ 0 →
 R (.bool false) aa)) ∧
 (a7 ≠ 0 →
 R (.bool false) aa))

theorem Q0z.up  {R : RW} {w : World} (h : Q0z.N  R w) : Q0z.M  R w := by
  unfold Q0z.M
  unfold Q0z.N at h
  refine h.mono fun c8 c6 h => ?_
  obtain ⟨aa, he, h⟩ := h
  refine ⟨aa, he, ?_⟩
  refine bif_of (fun c4 => ?_) (fun c4 => ?_)
  ·have h := h.1 (Q1B c4)
   exact h
  have h := h.2 (Q1C c4)
  unfold Q0z.J2
  refine Q01 fun bn e5 => ?_
  have ak := (Ext.refl no c6).x_drew e5
  obtain ⟨a6, aj, h⟩ := h
  refine Q05 aj ?_
  obtain ⟨o8, c3, h⟩ := h
  refine ⟨o8, (ak).cell c3 id, ?_⟩
  refine Q05 aj ?_
  obtain ⟨c5, bx, h⟩ := h
  refine ⟨c5, (ak).cell bx id, ?_⟩
  refine Q01 fun b3 az => ?_
  have h := h b3 bn.heap.size (ak.x_alloc az) (Blk.of_new az) (ak).size (Q0x az)
  obtain ⟨au, al, h⟩ := h
  refine ⟨au, al, ?_⟩
  obtain ⟨bg, aq, b4, ap, hr, h⟩ := h
  refine ⟨bg, aq, b4, ap, hr, ?_⟩
  obtain ⟨bc, bf, h⟩ := h
  refine ⟨bc, bf, ?_⟩
  refine h.mono fun bp a4 h => ?_
  obtain ⟨a1, a0, a2, ag, he, h⟩ := h
  refine ⟨a1, a0, a2, ag, he, ?_⟩
  unfold Q0z.J1
  refine Q01 fun c1 bl => ?_
  have a3 := Blk.of_new bl
  have bh := ((Ext.refl no a4)).size
  have ao := (Ext.refl no a4).x_alloc bl
  refine Q0p (k := 0) (j := 0) a3 (Nat.le_of_ble_eq_true rfl) fun b5 bv br => ?_
  have b8 := ao.x_puts bv (.inr bh)
  have a3 : Blk b5 a4.heap.size 42 [.int .i64 1, .int .i64 0, .int .u64 0, .int .i64 1, .int .i64 1, .int .i64 0, .slice a1 a0 a2, .int .u64 0] := br
  refine Q01 fun aw bm => ?_
  have ah := b8.x_drew bm
  have a3 := a3.x_drew bm
  refine Q05 aj ?_
  obtain ⟨bu, b6, h⟩ := h
  refine ⟨bu, (ah).cell b6 id, ?_⟩
  refine Q05 aj ?_
  obtain ⟨bs, b7, h⟩ := h
  refine ⟨bs, (ah).cell b7 id, ?_⟩
  refine ⟨1, 0, 0, 1, 1, 0, a1, a0, a2, 0, ⟨a3.celli 0 rfl rfl, a3.celli 1 rfl rfl, a3.celli 2 rfl rfl, a3.celli 3 rfl rfl, a3.celli 4 rfl rfl, a3.celli 5 rfl rfl, a3.celli 6 rfl rfl, a3.celli 7 rfl rfl, trivial⟩, ?_⟩
  have h := h aw (a4.heap.size) ah (Priv.cons bh a3.lt Priv.nil)
  refine h.mono fun bo ai h => ?_
  obtain ⟨a8, ad, ab, ae, he, hk, h⟩ := h
  refine ⟨a8, ad, ab, ae, he, ?_⟩
  have a3 := hk.blk a3 (by simp)
  have an : Ext (fun b => b = a4.heap.size) ai ai := ((Ext.refl no ai)).none
  refine ⟨a3.cani 1 rfl rfl, Q01 fun bd bi => ?_⟩
  have ay := an.x_set (q := a4.heap.size) (i := 1) rfl (.inl rfl) bi
  have a3 : Blk bd a4.heap.size 42 [.int .i64 1, .int .i64 1, .int .u64 0, .int .i64 1, .int .i64 1, .int .i64 0, .slice a1 a0 a2, .int .u64 0] := a3.seti 1 rfl bi
  refine ⟨a3.cani 2 rfl rfl, Q01 fun ba bk => ?_⟩
  have b1 := ay.x_set (q := a4.heap.size) (i := 2) rfl (.inl rfl) bk
  have a3 : Blk ba a4.heap.size 42 [.int .i64 1, .int .i64 1, .int .u64 5, .int .i64 1, .int .i64 1, .int .i64 0, .slice a1 a0 a2, .int .u64 0] := a3.seti 2 rfl bk
  refine Q01 fun bb bj => ?_
  have ax := b1.x_drew bj
  have a3 := a3.x_drew bj
  refine Q05 aj ?_
  have h := h bb ax
  obtain ⟨c2, b9, h⟩ := h
  refine ⟨c2, b9, ?_⟩
  refine Q05 aj ?_
  obtain ⟨bq, b2, h⟩ := h
  refine ⟨bq, b2, ?_⟩
  refine ⟨1, 1, 5, 1, 1, 0, a1, a0, a2, 0, ⟨a3.celli 0 rfl rfl, a3.celli 1 rfl rfl, a3.celli 2 rfl rfl, a3.celli 3 rfl rfl, a3.celli 4 rfl rfl, a3.celli 5 rfl rfl, a3.celli 6 rfl rfl, a3.celli 7 rfl rfl, trivial⟩, ?_⟩
  refine h.mono fun c7 bw h => ?_
  obtain ⟨a5, ac, a7, af, he, hk, h⟩ := h
  refine ⟨a5, ac, a7, af, he, ?_⟩
  have a3 := hk.blk a3 (by simp)
  refine bif_fo (fun b0 => ?_) (fun b0 => ?_)
  ·have h := h.2 (beq_f b0)
   exact h
  have h := h.1 (beq_t b0)
  refine bif_fo (fun ar => ?_) (fun ar => ?_)
  ·have h := h.2 (beq_f ar)
   exact h
  have h := h.1 (beq_t ar)
  obtain ⟨bt, av, h⟩ := h
  refine ⟨bt, av, ?_⟩
  refine bif_fo (fun am => ?_) (fun am => ?_)
  ·have h := h.2 (lbeq_f am)
   exact h
  have h := h.1 (lbeq_t am)
  refine bif_fo (fun be => ?_) (fun be => ?_)
  ·have h := h.2 (beq_f be)
   exact h
  have h := h.1 (beq_t be)
  refine ⟨1, 1, 5, 1, 1, 0, a1, a0, a2, 0, ⟨a3.celli 0 rfl rfl, a3.celli 1 rfl rfl, a3.celli 2 rfl rfl, a3.celli 3 rfl rfl, a3.celli 4 rfl rfl, a3.celli 5 rfl rfl, a3.celli 6 rfl rfl, a3.celli 7 rfl rfl, trivial⟩, ?_⟩
  refine h.mono fun bz c0 h => ?_
  obtain ⟨a9, he, h⟩ := h
  refine ⟨a9, he, ?_⟩
  exact h

theorem Q0z.go  {R : RW} {w : World} (h : Q0z.N  R w) : Calls Try.prog 6 #[] w fun e w' => ∃ v, e = .returned v ∧ R v w' := Q0z.ok  (Q0z.up  h)
set_option maxRecDepth 20000
structure RB where
  q : Nat
  k : Nat
  j : Nat
  a : Nat
  x : Nat
  b : Nat
  pub : Int
def RB.V (B : RB) : List Value := [.pointer (some (blk B.k)), .pointer (some (blk B.j)), .pointer (some (blk B.a)), .pointer (some (blk B.x)), .pointer (some (blk B.b)), .int .u64 B.pub]
structure RB.under (B : RB) (N : Nat) : Prop where
  q : B.q < N
  k : B.k < N
  j : B.j < N
  a : B.a < N
  x : B.x < N
  b : B.b < N
structure RB.over (B : RB) (N : Nat) : Prop where
  q : N ≤ B.q
  k : N ≤ B.k
  j : N ≤ B.j
  a : N ≤ B.a
  x : N ≤ B.x
  b : N ≤ B.b
structure RmG (w : World) (o : Own) (B : RB) (S T : OS) (n : Nat) (Ra Rx Rb : Rng) : Prop where
  bk : Blk w B.q 38 B.V
  tg : o B.q = some B.q
  orc : POrc w o B.k S
  rof : Rof w o B.j T n
  a : EG w o B.a B.k Ra
  x : EG w o B.x B.k Rx
  b : MG w o B.b Rb
  ne : Ra.who ≠ Rx.who
section
variable {w w' w1 w2 : World} {o o' o1 : Own} {q k p N m n i : Nat} {K : Nat → Prop} {B : RB} {S T : OS} {Ra Rx Rb : Rng}
theorem blkSet {t : TypeId} {cs : List Value} (hb : Blk w q t cs) (tg : o q = some q) (ok : Tags w o) {v : Value} {ad : Addr} (ha : ad = ⟨q, i, none⟩) (e : w' = w.setCell ad v) :
    Step (fun j => j = q) w o w' (grow w o) ∧ Blk w' q t (cs.set i v) ∧ grow w o q = some q := by
  have X3 : Ext (fun b => b = q) w w' := (Ext.refl (fun b => b = q) w).x_set (q := q) (i := i) ha (.inl rfl) e
  have s3 : Step (fun j => j = q) w o w' (grow w o) := Step.of_ext X3 ok fun b hb _ => by subst hb; exact tg
  exact ⟨s3, hb.seti i ha e, by rw [s3.own hb.lt]; exact tg⟩
theorem RmG.under (h : RmG w o B S T n Ra Rx Rb) : B.under w.heap.size := ⟨h.bk.lt, h.orc.lt, h.rof.lt, h.a.lt, h.x.lt, h.b.lt⟩
theorem RmG.step (h : RmG w o B S T n Ra Rx Rb) (s : Step K w o w' o') (hq : ¬ K B.q) (hk : ¬ K B.k) (hj : ¬ K B.j) (ha : ¬ K B.a) (hx : ¬ K B.x) (hb : ¬ K B.b) : RmG w' o' B S T n Ra Rx Rb :=
  ⟨s.blk h.bk h.tg hq, by rw [s.own h.bk.lt]; exact h.tg, h.orc.step s hk, h.rof.step s hj, h.a.step s ha, h.x.step s hx, h.b.step s hb, h.ne⟩
theorem RmG.no (h : RmG w o B S T n Ra Rx Rb) (s : Step no w o w' o') : RmG w' o' B S T n Ra Rx Rb := h.step s id id id id id id
theorem RmG.far (h : RmG w o B S T n Ra Rx Rb) (u : B.under N) (s : Step K w o w' o') (hk : ∀ j, K j → N ≤ j) : RmG w' o' B S T n Ra Rx Rb := by
  obtain ⟨u1, u2, u3, u4, u5, u6⟩ := u
  exact h.step s (fun e => by have := hk _ e; omega) (fun e => by have := hk _ e; omega) (fun e => by have := hk _ e; omega) (fun e => by have := hk _ e; omega) (fun e => by have := hk _ e; omega) (fun e => by have := hk _ e; omega)
theorem RmG.ne_q (h : RmG w o B S T n Ra Rx Rb) : B.q ≠ B.k ∧ B.q ≠ B.j ∧ B.q ≠ B.a ∧ B.q ≠ B.x ∧ B.q ≠ B.b := by
  obtain ⟨_, b1⟩ := h.orc.typ
  obtain ⟨_, b2⟩ := h.rof.typ
  obtain ⟨_, b3⟩ := h.a.typ
  obtain ⟨_, b4⟩ := h.x.typ
  obtain ⟨_, b5⟩ := h.b.typ
  exact ⟨Blk.apart h.bk b1 (by decide), Blk.apart h.bk b2 (by decide), Blk.apart h.bk b3 (by decide), Blk.apart h.bk b4 (by decide), Blk.apart h.bk b5 (by decide)⟩
theorem RmG.ne_o (h : RmG w o B S T n Ra Rx Rb) : B.k ≠ B.j ∧ B.k ≠ B.a ∧ B.k ≠ B.x ∧ B.k ≠ B.b ∧ B.j ≠ B.a ∧ B.j ≠ B.x ∧ B.j ≠ B.b := by
  obtain ⟨_, b1⟩ := h.orc.typ
  obtain ⟨_, b2⟩ := h.rof.typ
  obtain ⟨_, b3⟩ := h.a.typ
  obtain ⟨_, b4⟩ := h.x.typ
  obtain ⟨_, b5⟩ := h.b.typ
  exact ⟨Blk.apart b1 b2 (by decide), Blk.apart b1 b3 (by decide), Blk.apart b1 b4 (by decide), Blk.apart b1 b5 (by decide), Blk.apart b2 b3 (by decide), Blk.apart b2 b4 (by decide), Blk.apart b2 b5 (by decide)⟩
theorem RmG.ne_r (h : RmG w o B S T n Ra Rx Rb) : B.a ≠ B.x ∧ B.a ≠ B.b ∧ B.x ≠ B.b := by
  obtain ⟨_, b3⟩ := h.a.typ
  obtain ⟨_, b4⟩ := h.x.typ
  obtain ⟨_, b5⟩ := h.b.typ
  exact ⟨h.a.diff h.x h.ne, Blk.apart b3 b5 (by decide), Blk.apart b4 b5 (by decide)⟩
theorem RmG.toOrc (h : RmG w o B S T n Ra Rx Rb) (s : Step (fun j => j = B.k) w o w' o') {S' : OS} (hP : POrc w' o' B.k S') : RmG w' o' B S' T n Ra Rx Rb := by
  obtain ⟨q1, _⟩ := h.ne_q
  obtain ⟨o1, o2, o3, o4, _⟩ := h.ne_o
  exact ⟨s.blk h.bk h.tg q1, by rw [s.own h.bk.lt]; exact h.tg, hP, h.rof.step s o1.symm, h.a.step s o2.symm, h.x.step s o3.symm, h.b.step s o4.symm, h.ne⟩
theorem RmG.toRof (h : RmG w o B S T n Ra Rx Rb) (s : Step (fun j => j = B.j) w o w' o') {T' : OS} {n' : Nat} (hP : Rof w' o' B.j T' n') : RmG w' o' B S T' n' Ra Rx Rb := by
  obtain ⟨_, q1, _⟩ := h.ne_q
  obtain ⟨o1, _, _, _, o2, o3, o4⟩ := h.ne_o
  exact ⟨s.blk h.bk h.tg q1, by rw [s.own h.bk.lt]; exact h.tg, h.orc.step s o1, hP, h.a.step s o2.symm, h.x.step s o3.symm, h.b.step s o4.symm, h.ne⟩
theorem RmG.toA (h : RmG w o B S T n Ra Rx Rb) (s : Step (fun j => j = B.a) w o w' o') {R : Rng} (hP : EG w' o' B.a B.k R) (hw : R.who = Ra.who) : RmG w' o' B S T n R Rx Rb := by
  obtain ⟨_, _, q1, _⟩ := h.ne_q
  obtain ⟨_, o1, _, _, o2, _⟩ := h.ne_o
  obtain ⟨r1, r2, _⟩ := h.ne_r
  exact ⟨s.blk h.bk h.tg q1, by rw [s.own h.bk.lt]; exact h.tg, h.orc.step s o1, h.rof.step s o2, hP, h.x.step s r1.symm, h.b.step s r2.symm, by rw [hw]; exact h.ne⟩
theorem RmG.toX (h : RmG w o B S T n Ra Rx Rb) (s : Step (fun j => j = B.x) w o w' o') {R : Rng} (hP : EG w' o' B.x B.k R) (hw : R.who = Rx.who) : RmG w' o' B S T n Ra R Rb := by
  obtain ⟨_, _, _, q1, _⟩ := h.ne_q
  obtain ⟨_, _, o1, _, _, o2, _⟩ := h.ne_o
  obtain ⟨r1, _, r2⟩ := h.ne_r
  exact ⟨s.blk h.bk h.tg q1, by rw [s.own h.bk.lt]; exact h.tg, h.orc.step s o1, h.rof.step s o2, h.a.step s r1, hP, h.b.step s r2.symm, by rw [hw]; exact h.ne⟩
theorem RmG.toB (h : RmG w o B S T n Ra Rx Rb) (s : Step (fun j => j = B.b) w o w' o') {R : Rng} (hP : MG w' o' B.b R) : RmG w' o' B S T n Ra Rx R := by
  obtain ⟨_, _, _, _, q1⟩ := h.ne_q
  obtain ⟨_, _, _, o1, _, _, o2⟩ := h.ne_o
  obtain ⟨_, r1, r2⟩ := h.ne_r
  exact ⟨s.blk h.bk h.tg q1, by rw [s.own h.bk.lt]; exact h.tg, h.orc.step s o1, h.rof.step s o2, h.a.step s r1, h.x.step s r2, hP, h.ne⟩
end
def roomK (d : List Int) : Nat → OS × MS × Int × List Int
  | 0 => ((pairOf (pairOf (OS.init d)).2).2, newM (pairOf (OS.init d)).1.2, 0, [])
  | t + 1 => ((beginK (roomK d t).1 (roomK d t).2.1 (roomK d t).2.2.1).2.2, ⟨(roomK d t).2.1.ml, (roomK d t).2.1.ep + 1⟩, (beginK (roomK d t).1 (roomK d t).2.1 (roomK d t).2.2.1).2.1, (roomK d t).2.2.2 ++ [(beginK (roomK d t).1 (roomK d t).2.1 (roomK d t).2.2.1).2.1])
structure RI (d : List Int) (t : Nat) (X : WD) (S : OS) (R : Nat → Rng) (K : List Int) (O : List (List UInt8)) : Prop where
  pi : PI X S R K O
  len : K.length = t
  a : (R 0).keys = K
  x : (R 1).keys = List.replicate t 0
  ml : X.sm.ml = (newM (X.pub 0)).ml
  us : S.used.length ≤ 4 + 10 * t
  det : roomK d t = (S, X.sm, X.last, K)
theorem outk {X : WD} {S : OS} {R : Nat → Rng} {K : List Int} {O : List (List UInt8)} (h : PI X S R K O) (hl : S.used.length < 10000000) (hep : X.sm.ep + 1 < 20) {i : Nat} (hi : i < 4) (hm : ∀ m ∈ nowM X.sm.ml, m.who ≠ i) :
    (learnK (beginK S X.sm X.last).2.2 (R i) (beginK S X.sm X.last).1).1.keys = (R i).keys ++ [0] := by
  have B := h.begin hl
  obtain ⟨r1, r2, r3, m, hm', r4⟩ := h.ring i hi
  have hkl : (R i).keys.length = K.length := by rw [r4, Q1U]
  have ht := B.other (R := R i) (by rw [r1]; exact hm)
  unfold learnK
  rw [if_neg (by rw [B.kd, B.right]; simp), if_neg (by have := h.ep; omega), ht, hkl, r3, r4]
  dsimp only
  rw [Q5e K m hm' (beginK S X.sm X.last).2.1]
  cases hK : K.length with
  | zero => rfl
  | succ e =>
    unfold backK
    rw [if_neg]
    rintro ⟨⟨h1, _⟩, _⟩
    rw [mkK_get (by simp; omega), if_neg (by omega)] at h1
    exact h1 rfl
theorem RI.next {d : List Int} {t : Nat} {X : WD} {S : OS} {R : Nat → Rng} {K : List Int} {O : List (List UInt8)} (h : RI d t X S R K O) (ht : t < 4) (hold : (beginK S X.sm X.last).1.old.length < 1000000) :
    RI d (t + 1) { X with last := (beginK S X.sm X.last).2.1, sm := ⟨X.sm.ml, X.sm.ep + 1⟩, tm := ⟨X.sm.ml, X.sm.ep + 1⟩ } (beginK S X.sm X.last).2.2 (fun i => (learnK (beginK S X.sm X.last).2.2 (R i) (beginK S X.sm X.last).1).1) (K ++ [(beginK S X.sm X.last).2.1]) (O ++ [(beginK S X.sm X.last).1.old]) := by
  have hus := h.us
  have hl : S.used.length < 10000000 := by omega
  have hep : X.sm.ep + 1 < 20 := by have := h.pi.ep; have := h.len; omega
  have B := h.pi.begin hl
  have hnow : nowM X.sm.ml = [⟨0, X.pub 0, 0, -1, 0⟩] := by rw [h.ml]; rfl
  refine ⟨h.pi.next hl hold hep fun i _ => rfl, by simp [h.len], ?_, ?_, h.ml, by have := B.len; omega, ?_⟩
  · show (learnK _ (R 0) _).1.keys = _
    rw [h.pi.in_ hl hold hep (i := 0) (by decide) ⟨_, by rw [hnow]; exact List.mem_singleton.2 rfl, rfl⟩]
  · show (learnK _ (R 1) _).1.keys = _
    rw [outk h.pi hl hep (i := 1) (by decide) (fun m hm => by rw [hnow] at hm; rw [List.mem_singleton.1 hm]; show (0 : Int) ≠ ((1 : Nat) : Int); decide), h.x, ← List.replicate_succ']
  · show ((beginK (roomK d t).1 (roomK d t).2.1 (roomK d t).2.2.1).2.2, (⟨(roomK d t).2.1.ml, (roomK d t).2.1.ep + 1⟩ : MS), (beginK (roomK d t).1 (roomK d t).2.1 (roomK d t).2.2.1).2.1, (roomK d t).2.2.2 ++ [(beginK (roomK d t).1 (roomK d t).2.1 (roomK d t).2.2.1).2.1]) = _
    rw [h.det]
theorem RI.zero (d : List Int) (h : OInv (OS.init d)) (k j : Nat) : ∃ X R, RI d 0 X (pairOf (pairOf (OS.init d)).2).2 R [] [] ∧ X.last = 0 ∧ X.sm = newM (pairOf (OS.init d)).1.2 ∧ R 0 = ⟨0, (pairOf (OS.init d)).1.1, [], []⟩ ∧ R 1 = ⟨1, (pairOf (pairOf (OS.init d)).2).1.1, [], []⟩ := by
  obtain ⟨p1, p2, p3, p4, p5, p6, _⟩ := Q2k h
  obtain ⟨q1, q2, q3, q4, q5, q6, _⟩ := Q2k p1
  have hs : (pairOf (pairOf (OS.init d)).2).2.sealed = [] := by rw [Q3o, Q3o]; rfl
  have hw : (pairOf (pairOf (OS.init d)).2).2.wrapped = [] := by rw [Q2U, Q2U]; rfl
  have hu : (pairOf (pairOf (OS.init d)).2).2.used.length ≤ 4 := by
    have a := (Q2A h.ok).2
    have b := (Q2A p1.ok).2
    have c : (OS.init d).used.length = 0 := rfl
    omega
  refine ⟨⟨k, j, fun i => if i = 0 then (pairOf (OS.init d)).1.2 else (pairOf (pairOf (OS.init d)).2).1.2, fun _ => none, fun _ => none, newM (pairOf (OS.init d)).1.2, newM (pairOf (OS.init d)).1.2, fun i => if i = 0 then (pairOf (OS.init d)).1.1 else (pairOf (pairOf (OS.init d)).2).1.1, 0⟩,
    fun i => ⟨i, if i = 0 then (pairOf (OS.init d)).1.1 else (pairOf (pairOf (OS.init d)).2).1.1, [], []⟩, ⟨⟨⟨q1, fun x s e => (by rw [hs] at e; cases e), fun x s e => (by rw [hw] at e; cases e), fun x s e => (by rw [hs] at e; cases e)⟩, fun i hi => ?_, rfl, newM_ok _, fun m hm => ?_, fun m hm => ?_, ⟨_, List.mem_singleton.2 rfl, rfl, rfl⟩, rfl, ⟨rfl, fun x hx => (by cases hx), fun e he => absurd he (by simp), fun b hb => (by cases hb)⟩, rfl, fun i hi => ⟨rfl, rfl, rfl, 0, Nat.le_refl _, rfl⟩⟩, rfl, rfl, rfl, rfl, by omega, rfl⟩, rfl, rfl, rfl, rfl⟩
  · by_cases h0 : i = 0
    · show alook _ (if i = 0 then _ else _) = some (if i = 0 then _ else _)
      rw [if_pos h0, if_pos h0]; exact q2.publics _ _ p3
    · show alook _ (if i = 0 then _ else _) = some (if i = 0 then _ else _)
      rw [if_neg h0, if_neg h0]; exact q3
  · simp [newM] at hm
    exact ⟨0, by omega, by rw [hm]; rfl, by rw [hm]; rfl⟩
  · simp [newM] at hm
    rw [hm]; show (0 : Int) ≤ -1 + 1; decide
def RoomR (d : List Int) (w0 : World) (o0 : Own) (many a : Nat) (w : World) (o : Own) : Prop :=
  ∃ (B : RB) (X : WD) (S : OS) (R : Nat → Rng) (K : List Int) (O : List (List UInt8)), B.q = a ∧ Step no w0 o0 w o ∧ RmG w o B S S (4 + 10 * many) (R 0) (R 1) (R 0) ∧ RI d many X S R K O ∧ B.over w0.heap.size
def NRI (d : List Int) (w0 : World) (o0 : Own) (B : RB) (p1 p2 many m : Nat) (vs : List Value) (w : World) : Prop :=
  ∃ (t : Nat) (X : WD) (S : OS) (R : Nat → Rng) (K : List Int) (O : List (List UInt8)) (o : Own) (sa : Option Addr) (sc : Nat) (ta : Option Addr) (tc : Nat),
    vs = [.int .u64 X.last, .int .i64 t, .slice sa X.sm.ml.length sc, .int .i64 X.sm.ep, .slice ta X.sm.ml.length tc, .int .i64 X.sm.ep] ∧ m + t = many ∧ Step no w0 o0 w o ∧ RmG w o B S S (4 + 10 * t) (R 0) (R 1) (R 0) ∧ RI d t X S R K O ∧
    Row w o sa (X.sm.ml.flatMap Mem.C) ∧ Row w o ta (X.sm.ml.flatMap Mem.C) ∧ X.sm.ml.length ≤ tc ∧ Mine [p1, p2] w o
section
variable {w w' : World} {o o' : Own} {many : Nat}
theorem Q25 (ok : Tags w o) {da : Option Addr} {dc : Nat} {d : List Int} (hd : Row w o da (d.map u64V)) (hc : d.length ≤ dc) (hr : ∀ x ∈ d, 0 ≤ x ∧ x < 18446744073709551616) (hl : d.length ≤ 1000) (hm : many ≤ 4) :
    Calls Try.prog 7 #[.slice da d.length dc, .int .i64 many] w (fun x w' => ∃ a o', x = .returned (.pointer (some (blk a))) ∧ RoomR d w o many a w' o') := by
  refine (Q06.go da d.length dc many (R := fun v w' => ∃ a o', v = .pointer (some (blk a)) ∧ RoomR d w o many a w' o') ?_).mono fun x w' ⟨v, he, a, o', hv, h⟩ => ⟨a, o', by rw [he, hv], h⟩
  unfold Q06.N
  refine (NewO ok hd.1 (by omega)).mono fun x w5 ⟨k, o5, he, hk, s5, P5⟩ => ⟨_, he, fun w6 j X6 b6 hj hj' => ?_⟩
  obtain ⟨o6, s6, Q6⟩ := Rof.init X6 b6 hj hj' s5.ok (hd.step s5) hc hr
  intro w8 q X8 b8 hq hq'
  have s8 : Step no w6 o6 w8 (tag (grow w6 o6) q q) := (Step.of_no X8 s6.ok).tag hq hq'
  have t8 : tag (grow w6 o6) q q q = some q := Q1v
  have P8 := (P5.step s6 id).step s8 id
  have Q8 := Q6.step s8 id
  have z5 := s5.size
  have z6 := s6.size
  have z8 := s8.size
  have S8 := (s5.trans s6).trans s8
  generalize tag (grow w6 o6) q q = o8 at *
  have hin := Q8.inv
  obtain ⟨p1, p2, p3, p4, p5, p6, _⟩ := Q2k hin
  obtain ⟨_, bk⟩ := P8.typ
  obtain ⟨_, bj⟩ := Q8.typ
  have hqk : q ≠ k := Blk.apart b8 bk (by decide)
  have hqj : q ≠ j := Blk.apart b8 bj (by decide)
  have hkj : k ≠ j := Blk.apart bk bj (by decide)
  have hun := Q8.len
  refine ⟨_, b8.celli 0 rfl rfl, (PairO P8 s8.ok hin.ok (by omega)).mono fun x w15 ⟨o15, he, s15, P15⟩ => ⟨_, _, he, ?_⟩⟩
  have b15 := s15.blk b8 t8 hqk
  have t15 : o15 q = some q := by rw [s15.own b8.lt]; exact t8
  have Q15 := Q8.step s15 hkj.symm
  have ul1 := (Q2A hin.ok).2
  refine ⟨_, b15.celli 0 rfl rfl, (PairO P15 s15.ok p1.ok (by omega)).mono fun x w21 ⟨o21, he, s21, P21⟩ => ⟨_, _, he, ?_⟩⟩
  have b21 := s21.blk b15 t15 hqk
  have t21 : o21 q = some q := by rw [s21.own b15.lt]; exact t15
  have Q21 := Q15.step s21 hkj.symm
  refine ⟨_, b21.celli 1 rfl rfl, (Q21.pair (by omega)).mono fun x w27 ⟨o27, he, s27, Q27⟩ => ⟨_, _, he, ?_⟩⟩
  have b27 := s27.blk b21 t21 hqj
  have t27 : o27 q = some q := by rw [s27.own b21.lt]; exact t21
  have P27 := P21.step s27 hkj
  refine ⟨_, b27.celli 1 rfl rfl, (Q27.pair (by omega)).mono fun x w33 ⟨o33, he, s33, Q33⟩ => ⟨_, _, he, ?_⟩⟩
  have b33 := s33.blk b27 t27 hqj
  have t33 : o33 q = some q := by rw [s33.own b27.lt]; exact t27
  have P33 := P27.step s33 hkj
  refine ⟨b33.cani 5 rfl rfl, Q01 fun w34 e34 => ?_⟩
  obtain ⟨s34, b34, t34⟩ := blkSet b33 t33 s33.ok (i := 5) rfl e34
  have P34 := P33.step s34 hqk.symm
  have Q34 := Q33.step s34 hqj.symm
  have S34 : Step no w o w34 _ := ((((S8.trans' s15 fun a ha => .inr (by rw [ha]; exact hk)).trans' s21 fun a ha => .inr (by rw [ha]; exact hk)).trans' s27 fun a ha => .inr (by rw [ha]; omega)).trans' s33 fun a ha => .inr (by rw [ha]; omega)).trans' s34 fun a ha => .inr (by rw [ha]; omega)
  generalize grow w33 o33 = o34 at *
  obtain ⟨X0, R0, I0, hlast, hsm, hR0, hR1⟩ := RI.zero d hin k j
  have z34 := S34.size
  refine ⟨_, b34.celli 0 rfl rfl, (Q3g s34.ok (by omega) (by omega) k).mono fun x w40 ⟨ra, o40, he, hra, s40, E40⟩ => ⟨_, _, he, ?_⟩⟩
  have b40 := s40.blk b34 t34 id
  have t40 : o40 q = some q := by rw [s40.own b34.lt]; exact t34
  have z40 := s40.size
  refine ⟨_, b40.celli 0 rfl rfl, (Q3g s40.ok (by omega) (by omega) k).mono fun x w46 ⟨rx, o46, he, hrx, s46, F46⟩ => ⟨_, _, he, fun h => absurd rfl h, fun _ => ⟨fun h => absurd rfl h, fun _ => ⟨fun h => (by cases h), fun _ => ?_⟩⟩⟩⟩
  have b46 := s46.blk b40 t40 id
  have t46 : o46 q = some q := by rw [s46.own b40.lt]; exact t40
  have z46 := s46.size
  have E46 := E40.step s46 id
  have P46 := (P34.step s40 id).step s46 id
  have Q46 := (Q34.step s40 id).step s46 id
  obtain ⟨_, ba⟩ := E46.typ
  obtain ⟨_, bx⟩ := F46.typ
  have hqa : q ≠ ra := Blk.apart b46 ba (by decide)
  have hqx : q ≠ rx := Blk.apart b46 bx (by decide)
  refine ⟨b46.cani 2 rfl rfl, Q01 fun w50 e50 => ?_⟩
  obtain ⟨s50, b50, t50⟩ := blkSet b46 t46 s46.ok (i := 2) rfl e50
  refine ⟨b50.cani 3 rfl rfl, Q01 fun w51 e51 => ?_⟩
  obtain ⟨s51, b51, t51⟩ := blkSet b50 t50 s50.ok (i := 3) rfl e51
  intro w52 rb X52 b52' hrb hrb'
  obtain ⟨s52, M52⟩ := MG.init s51.ok X52 b52' hrb hrb'
  have b52 := s52.blk b51 t51 id
  have t52 := (s52.own b51.lt).trans t51
  refine ⟨b52.cani 4 rfl rfl, Q01 fun w54 e54 => ?_⟩
  obtain ⟨s54, b54, t54⟩ := blkSet b52 t52 s52.ok (i := 4) rfl e54
  have hqb : rb ≠ q := by
    obtain ⟨_, bb⟩ := M52.typ
    exact (Blk.apart b52 bb (by decide)).symm
  have z50 := s50.size
  have z51 := s51.size
  have z52 := s52.size
  have S54 : Step no w o w54 _ := (((((S34.trans s40).trans s46).trans' s50 fun a ha => .inr (by rw [ha]; omega)).trans' s51 fun a ha => .inr (by rw [ha]; omega)).trans s52).trans' s54 fun a ha => .inr (by rw [ha]; omega)
  have G54 : RmG w54 _ ⟨q, k, j, ra, rx, rb, (pairOf (OS.init d)).1.2⟩ _ _ 4 (R0 0) (R0 1) (R0 0) :=
    ⟨b54, t54, (((P46.step s50 hqk.symm).step s51 hqk.symm).step s52 id).step s54 hqk.symm, (((Q46.step s50 hqj.symm).step s51 hqj.symm).step s52 id).step s54 hqj.symm,
      by rw [hR0]; exact (((E46.step s50 hqa.symm).step s51 hqa.symm).step s52 id).step s54 hqa.symm, by rw [hR1]; exact (((F46.step s50 hqx.symm).step s51 hqx.symm).step s52 id).step s54 hqx.symm, by rw [hR0]; exact M52.step s54 hqb, by rw [hR0, hR1]; show (0 : Int) ≠ 1; decide⟩
  obtain ⟨B, hB⟩ : ∃ B : RB, (⟨q, k, j, ra, rx, rb, (pairOf (OS.init d)).1.2⟩ : RB) = B := ⟨_, rfl⟩
  have hBq : q = B.q := by rw [← hB]
  have hov : B.over w.heap.size := by rw [← hB]; exact ⟨by show w.heap.size ≤ q; omega, by show w.heap.size ≤ k; omega, by show w.heap.size ≤ j; omega, by show w.heap.size ≤ ra; omega, by show w.heap.size ≤ rx; omega, by show w.heap.size ≤ rb; omega⟩
  rw [hB] at G54
  generalize grow w52 _ = o54 at *
  clear E46 F46 P46 Q46 M52 b54 t54 b52 t52 b51 t51 b50 t50 P34 Q34 E40 b46 b40 b34 b33 b27 b21 b15 b8 P5 P8 Q6 Q8 P15 Q15 P21 Q21 P27 Q27 P33 Q33
  refine (Q5W s54.ok _).mono fun x w58 ⟨o58, sa0, sc0, he, s58, r58, hc58⟩ => ⟨_, _, _, _, he, ?_⟩
  refine (Q61 s58.ok _).mono fun x w62 ⟨o62, ta0, tc0, he, s62, r62, hc62⟩ => ⟨_, _, _, _, he, fun w66 q1 q2 X66 hp66 => ?_⟩
  obtain ⟨s66, M66⟩ := Step.priv X66 hp66 s62.ok
  have G66 := ((G54.no s58).no s62).no s66
  have S66 := ((S54.trans s58).trans s62).trans s66
  have u : B.under w62.heap.size := ((G54.no s58).no s62).under
  have hq1 := (hp66 q1 (by simp)).1
  have hq2 := (hp66 q2 (by simp)).1
  have z66 := s66.size
  have ha66 : w62.heap.size ≤ w66.heap.size := z66
  obtain ⟨N, hN⟩ : ∃ N, w62.heap.size = N := ⟨_, rfl⟩
  have hwN : w.heap.size ≤ w62.heap.size := ((S54.trans s58).trans s62).size
  rw [hN] at u hq1 hq2 ha66 hwN
  refine ⟨NRI d w o B q1 q2 many, many, ⟨0, X0, _, R0, [], [], _, sa0, sc0, ta0, tc0, by rw [hlast, hsm]; rfl, rfl, S66, G66, I0, by rw [hsm]; exact (r58.step s62).step s66, by rw [hsm]; exact r62.step s66, by rw [hsm]; exact hc62, M66⟩, ?_⟩
  clear G66 I0 M66 s66 X66 hp66 s62 s58 G54
  rintro m w77 last n L71a L71n L71c ep72 L73a L73n L73c ep74 ⟨t, X, S, R, K, O, o77, sa, sc, ta, tc, hv, hmt, s77, A77, I, hsr, htr, htc, M77⟩
  cases hv
  have ok77 := s77.ok
  have N77 : N ≤ w77.heap.size := by have := (M77 q1 (by simp)).1; omega
  refine ⟨fun ht => ?_, fun ht => ?_⟩
  · have ht : t < many := by omega
    have P := I.pi
    have hus := I.us
    have hul : S.used.length < 10000000 := by omega
    have BB := P.begin hul
    have hlr := P.last_rng
    have hepX : X.sm.ep = (t : Int) - 1 := by have := P.ep; have := I.len; omega
    have happ : applyM X.sm (beginK S X.sm X.last).1 = (⟨X.sm.ml, X.sm.ep + 1⟩, 0) := by rw [BB.app, if_neg (by omega)]
    have hkN := u.k
    have hjN := u.j
    have haN := u.a
    have hxN := u.x
    have hbN := u.b
    have far1 : ∀ p ∈ [q1, q2], N ≤ p := fun p hp => by
      simp only [List.mem_cons, List.not_mem_nil, or_false] at hp
      rcases hp with rfl | rfl <;> assumption
    refine ⟨_, A77.bk.celli 0 (by rw [hBq]; rfl) rfl, fun w83 L82 X83 hp83 => ?_⟩
    obtain ⟨s83, M83⟩ := Step.priv X83 hp83 ok77
    have A83 := A77.no s83
    have hL : ∀ i, i ∈ L82 → N ≤ i := fun i hi => by have := (hp83 i hi).1; omega
    refine (Q5C (s := X.sm) (last := X.last) A83.orc s83.ok P.ki.inv.ok (by omega) (hsr.step s83) P.ok hlr.1 hlr.2 P.known P.ne).mono fun x w93 ⟨o93, wa, wc, oa, oc, ws, he, s93, P93, C93, hwc, hoc⟩ => ⟨_, _, _, _, _, _, _, _, _, _, _, _, he, M83.keep s93 (fun p hp e => by have := hL p hp; omega), (M77.step s83).keep s93 (fun p hp e => by have := far1 p hp; omega), fun w163 p97 X163 hp163 => ?_⟩
    have A93 := A83.toOrc s93 P93
    obtain ⟨s163, M163⟩ := Step.join X163 s93.ok (M83.step s93) hp163
    have A163 := A93.far u s163 hL
    have z83 := s83.size
    have z93 := s93.size
    have z163 := s163.size
    have h97 : N ≤ p97 := by
      rcases (hp163 p97 (by simp)).1 with h | h
      · exact hL _ h
      · omega
    refine ⟨_, A163.bk.celli 1 (by rw [hBq]; rfl) rfl, fun w101 L100 X101 hp101 => ?_⟩
    obtain ⟨s101, M101⟩ := Step.priv X101 hp101 s163.ok
    have A101 := A163.no s101
    have hL100 : ∀ i, i ∈ L100 → N ≤ i := fun i hi => by have := (hp101 i hi).1; omega
    have M101b : Mine [q1, q2, p97] w101 _ := fun p hp => by
      rcases List.mem_cons.1 hp with rfl | hp
      · exact ((((M77.step s83).step s93).step s163).step s101) _ (by simp)
      · rcases List.mem_cons.1 hp with rfl | hp
        · exact ((((M77.step s83).step s93).step s163).step s101) _ (by simp)
        · exact (M163.step s101) _ hp
    have far3 : ∀ p ∈ [q1, q2, p97], N ≤ p := fun p hp => by
      simp only [List.mem_cons, List.not_mem_nil, or_false] at hp
      rcases hp with rfl | rfl | rfl <;> assumption
    have tr101 := (((htr.step s83).step s93).step s163).step s101
    refine (Q4M (s := X.sm) (last := X.last) A101.rof P.ki.inv.ok (by omega) tr101 P.ok hlr.1 hlr.2 P.known P.ne).mono fun x w111 ⟨o111, wa2, wc2, oa2, oc2, ws2, he, s111, Q111, C111, hwc2, hoc2⟩ => ⟨_, _, _, _, _, _, _, _, _, _, _, _, he, M101.keep s111 (fun p hp e => by have := hL100 p hp; omega), M101b.keep s111 (fun p hp e => by have := far3 p hp; omega), fun h => absurd rfl h, fun _ w162 p117 X162 hp162 => ?_⟩
    have A111 := A101.toRof s111 Q111
    obtain ⟨s162, M162⟩ := Step.join X162 s111.ok (M101.step s111) hp162
    have A162 := A111.far u s162 hL100
    have z101 := s101.size
    have z111 := s111.size
    have z162 := s162.size
    have h117 : N ≤ p117 := by
      rcases (hp162 p117 (by simp)).1 with h | h
      · exact hL100 _ h
      · omega
    have C162 := (((C93.step s163).step s101).step s111).step s162
    have D162 := C111.step s162
    have sr162 := (((((hsr.step s83).step s93).step s163).step s101).step s111).step s162
    have tr162 := (tr101.step s111).step s162
    have M162b : Mine [q1, q2, p97, p117] w162 _ := fun p hp => by
      rcases List.mem_cons.1 hp with rfl | hp
      · exact ((M101b.step s111).step s162) _ (by simp)
      · rcases List.mem_cons.1 hp with rfl | hp
        · exact ((M101b.step s111).step s162) _ (by simp)
        · rcases List.mem_cons.1 hp with rfl | hp
          · exact ((M101b.step s111).step s162) _ (by simp)
          · exact M162 _ hp
    have far4 : ∀ p ∈ [q1, q2, p97, p117], N ≤ p := fun p hp => by
      simp only [List.mem_cons, List.not_mem_nil, or_false] at hp
      rcases hp with rfl | rfl | rfl | rfl <;> assumption
    have S162 : Step no w o w162 _ := ((((((s77.trans s83).trans' s93 fun a ha => .inr (by rw [ha]; exact hov.k)).trans' s163 fun a ha => .inr (by have := hL a ha; omega)).trans s101).trans' s111 fun a ha => .inr (by rw [ha]; exact hov.j)).trans' s162 fun a ha => .inr (by have := hL100 a ha; omega))
    clear A93 A83 A101 A111 A163 M101 M101b M163 M83 P93 Q111 C93 C111 tr101 s163 s101 s111 s93 s83
    refine (Q5P (s := X.sm) (cg := (beginK S X.sm X.last).1) sr162 s162.ok P.ok C162.ws C162.m C162.n C162.ol).mono fun x w122 ⟨o122, a122, c122, he, s122, r122, hc122⟩ => ?_
    rw [happ] at he r122 hc122
    refine ⟨_, _, _, _, _, he, M162b.keep s122 (fun _ _ => id), fun w124 p125 X124 hp124 => ?_⟩
    obtain ⟨s124, M124⟩ := Step.priv X124 hp124 s122.ok
    have C124 := (C162.step s122).step s124
    have D124 := (D162.step s122).step s124
    have M124b : Mine [q1, q2, p97, p117, p125] w124 _ := fun p hp => by
      rcases List.mem_cons.1 hp with rfl | hp
      · exact ((M162b.step s122).step s124) _ (by simp)
      · rcases List.mem_cons.1 hp with rfl | hp
        · exact ((M162b.step s122).step s124) _ (by simp)
        · rcases List.mem_cons.1 hp with rfl | hp
          · exact ((M162b.step s122).step s124) _ (by simp)
          · rcases List.mem_cons.1 hp with rfl | hp
            · exact ((M162b.step s122).step s124) _ (by simp)
            · exact M124 _ hp
    refine (Q4N (s := X.sm) (cg := (beginK S X.sm X.last).1) ((tr162.step s122).step s124) s124.ok P.ok htc D124.ws D124.m D124.n D124.ol).mono fun x w130 ⟨o130, a130, c130, he, s130, r130, hc130⟩ => ?_
    rw [happ] at he r130 hc130
    refine ⟨_, _, _, _, _, he, M124b.keep s130 (fun _ _ => id), fun h => absurd rfl h, fun _ => ⟨fun h => absurd rfl h, fun _ w140 X140 => ?_⟩⟩
    have M130 := (M162b.step s122).step s124 |>.step s130
    have s140 : Step (fun i => i ∈ [q1, q2]) w130 _ w140 _ := Step.stores X140 s130.ok (M130.sub (M := [q1, q2]) (by simp)) (fun b hb => by rcases hb with rfl | rfl <;> simp)
    have M140 := M130.step s140
    have A140 := (((A162.no s122).no s124).no s130).far u s140 far1
    have S140 := (((S162.trans s122).trans s124).trans s130).trans' s140 fun a ha => .inr (by have := far1 a ha; omega)
    have C140 := (C124.step s130).step s140
    have D140 := (D124.step s130).step s140
    have sr140 := ((r122.step s124).step s130).step s140
    have tr140 := r130.step s140
    have hlen : ∀ i, i < 4 → (R i).keys.length = (R i).olds.length ∧ (R i).keys.length = t ∧ ∀ b ∈ (R i).olds, b.length < 1000000 := fun i hi => by
      obtain ⟨_, _, r3, m', _, r4⟩ := P.ring i hi
      have h1 := I.len
      rw [r3, r4, Q1U, P.ch.len]
      exact ⟨rfl, h1, P.ch.short⟩
    obtain ⟨l01, l02, l03⟩ := hlen 0 (by decide)
    obtain ⟨l11, l12, l13⟩ := hlen 1 (by decide)
    have hnz : ∀ x ∈ (R 0).keys, x ≠ 0 := fun x hx => by have := P.ch.nz x (by rw [← I.a]; exact hx); omega
    obtain ⟨_, ka, kx, kb, _, _, jb⟩ := A140.ne_o
    have hold : (beginK S X.sm X.last).1.old.length < 1000000 := C140.ol
    have w0 : ∀ i, i < 4 → (learnK (beginK S X.sm X.last).2.2 (R i) (beginK S X.sm X.last).1).1.who = (R i).who := fun i hi => by
      have e1 := (P.next hul hold (by omega) (R' := fun i => (learnK (beginK S X.sm X.last).2.2 (R i) (beginK S X.sm X.last).1).1) fun _ _ => rfl).ring i hi
      exact e1.1.trans (P.ring i hi).1.symm
    refine ⟨_, A140.bk.celli 2 (by rw [hBq]; rfl) rfl, (Q3X A140.a A140.orc s140.ok ka.symm BB.ki.sh l01 (by omega) l03 C140).mono fun x w146 ⟨he, o146, s146, E146⟩ => ⟨_, he, M140.keep s146 (fun p hp e => by have := far4 p hp; omega), ?_⟩⟩
    have A146 := A140.toA s146 E146 (w0 0 (by decide))
    refine ⟨_, A146.bk.celli 3 (by rw [hBq]; rfl) rfl, fun w147 X147 => ?_⟩
    have s147 := Step.of_no X147 s146.ok
    have A147 := A146.no s147
    have C147 := (C140.step s146).step s147
    have M147 := ((M140.step s146).step s147).sub (M := [q1, q2, p117]) (by simp)
    refine (Q3X A147.x A147.orc s147.ok kx.symm BB.ki.sh l11 (by omega) l13 C147).mono fun x w152 ⟨he, o152, s152, E152⟩ => ⟨_, he, M147.keep s152 (fun p hp e => by have := far4 p (by simp only [List.mem_cons, List.not_mem_nil, or_false] at hp ⊢; rcases hp with h | h | h <;> simp [h]); omega), ?_⟩
    have A152 := A147.toX s152 E152 (w0 1 (by decide))
    refine ⟨_, A152.bk.celli 4 (by rw [hBq]; rfl) rfl, _, A152.bk.celli 1 (by rw [hBq]; rfl) rfl, fun w153 X153 => ?_⟩
    have s153 := Step.of_no X153 s152.ok
    have A153 := A152.no s153
    have D153 := (((D140.step s146).step s147).step s152).step s153
    have M153 := (M147.step s152).step s153 |>.sub (M := [q1, q2]) (by simp)
    refine (Q52 A153.b A153.rof (by omega) jb.symm l01 (by omega) hnz D153 hoc2).mono fun x w160 ⟨he, o160, s160, E160⟩ => ⟨_, he, M153.keep s160 (fun p hp e => by have := far1 p hp; omega), by omega, by omega, many - (t + 1), by omega, ?_⟩
    have A160 := A153.toB s160 E160
    have S160 := ((((S140.trans' s146 fun a ha => .inr (by rw [ha]; exact hov.a)).trans s147).trans' s152 fun a ha => .inr (by rw [ha]; exact hov.x)).trans s153).trans' s160 fun a ha => .inr (by rw [ha]; exact hov.b)
    have sr160 := ((((sr140.step s146).step s147).step s152).step s153).step s160
    have tr160 := ((((tr140.step s146).step s147).step s152).step s153).step s160
    exact ⟨t + 1, { X with last := (beginK S X.sm X.last).2.1, sm := ⟨X.sm.ml, X.sm.ep + 1⟩, tm := ⟨X.sm.ml, X.sm.ep + 1⟩ }, _, fun i => (learnK (beginK S X.sm X.last).2.2 (R i) (beginK S X.sm X.last).1).1, _, _, o160, a122, c122, a130, c130, rfl, by omega, S160, by rw [show 4 + 10 * (t + 1) = 4 + 10 * t + 10 by omega]; exact A160, I.next (by omega) hold, sr160, tr160, hc130, M153.step s160⟩
  · have ht : t = many := by omega
    subst ht
    exact ⟨q, o77, rfl, B, X, S, R, K, O, hBq.symm, s77, A77, I, hov⟩
end
open W (OwnB)
def placeOK (w i e : Int) : Bool := decide (0 ≤ w ∧ w < 8 ∧ 0 ≤ i ∧ i < 200 ∧ 0 ≤ e ∧ e < 20)
theorem placeF (w i e : Int) : Q0e.F w i e = placeOK w i e := by
  unfold Q0e.F placeOK
  by_cases h1 : w ≥ 0
  · rw [if_pos h1]
    by_cases h2 : w < 8
    · rw [if_pos h2]
      by_cases h3 : i ≥ 0
      · rw [if_pos h3]
        by_cases h4 : i < 200
        · rw [if_pos h4]
          by_cases h5 : e ≥ 0
          · rw [if_pos h5, decide_eq_decide]; omega
          · rw [if_neg h5, eq_comm, decide_eq_false_iff_not]; omega
        · rw [if_neg h4, eq_comm, decide_eq_false_iff_not]; omega
      · rw [if_neg h3, eq_comm, decide_eq_false_iff_not]; omega
    · rw [if_neg h2, eq_comm, decide_eq_false_iff_not]; omega
  · rw [if_neg h1, eq_comm, decide_eq_false_iff_not]; omega
def sealP (S : OS) (R : Rng) (w i e : Int) (p : List UInt8) : (List UInt8 × Int) × OS :=
  if placeOK w i e = true then (if (keyK R e).2 ≠ 0 then (([], (keyK R e).2), S) else sealOf S (keyK R e).1 (boundL w i e) p) else (([], 1), S)
def openP (S : OS) (R : Rng) (e : Ent) : List UInt8 × Int :=
  if Q1Z e = true then (if e.ep < 0 then ([], 10) else if (keyK R e.ep).2 ≠ 0 then ([], (keyK R e.ep).2) else openOf S (keyK R e.ep).1 (boundL e.w e.i e.ep) e.body) else ([], 1)
theorem Q5G (x y z : Int) : (boundL x y z).length ≤ 30 := by
  have g1 := W.numL_le x.toNat
  have g2 := W.numL_le y.toNat
  have g3 := W.numL_le (W.zig z)
  unfold boundL; simp only [List.length_append]; omega
section
variable {w w' : World} {o o' : Own} {q k : Nat} {S : OS} {R : Rng} {pa : Option Addr} {pc : Nat} {p : List UInt8} {wv iv ev : Int}
theorem useSeal (h : EG w o q k R) (hP : POrc w o k S) (ok : Tags w o) (hS : S.ok) (hlen : S.used.length < 1000000) (hr : placeOK wv iv ev = true) (hp : Row w o pa (bytesV p)) (hpl : p.length ≤ 1000000) :
    Calls Try.prog 28 #[.agg #[.int .i64 wv, .int .i64 iv, .int .i64 ev], .func (.func 29) #[.pointer (some (blk k))] #[], .pointer (some (blk q)), .slice pa p.length pc] w (Gb (fun j => j = k) w o (sealP S R wv iv ev p).1 fun w' o' => POrc w' o' k (sealP S R wv iv ev p).2) := by
  refine (Q0y.go _ _ _ _ _ _ _ _ _ _ (R := fun v w' => ∃ o' a' c', v = .tuple #[.slice a' (sealP S R wv iv ev p).1.1.length c', .int .i64 (sealP S R wv iv ev p).1.2] ∧ Step (fun j => j = k) w o w' o' ∧ Row w' o' a' (bytesV (sealP S R wv iv ev p).1.1) ∧ (sealP S R wv iv ev p).1.1.length ≤ c' ∧ POrc w' o' k (sealP S R wv iv ev p).2) ?_).mono fun e w' ⟨v, he, o', a', c', hv, hw⟩ => ⟨o', a', c', by rw [he, hv], hw⟩
  have hr' : 0 ≤ wv ∧ wv < 8 ∧ 0 ≤ iv ∧ iv < 200 ∧ 0 ≤ ev ∧ ev < 20 := of_decide_eq_true hr
  unfold Q0y.N
  intro w7 p8 X7 hp8
  obtain ⟨s7, M7⟩ := Step.priv X7 hp8 ok
  refine (Q3v (h.step s7 id) ev).mono fun x w12 ⟨he, hw⟩ => ⟨_, _, he, (by rw [hw]; exact Keep.refl _ _), fun hk => ?_, fun hk => ?_⟩
  · subst hw
    have e1 : sealP S R wv iv ev p = (([], (keyK R ev).2), S) := by unfold sealP; rw [if_pos hr, if_pos hk]
    rw [e1]
    exact ⟨_, none, 0, rfl, s7.none, Row.nil _ _ _, Nat.le_refl _, hP.step s7 id⟩
  · subst hw
    have e1 : sealP S R wv iv ev p = sealOf S (keyK R ev).1 (boundL wv iv ev) p := by unfold sealP; rw [if_pos hr, if_neg (fun h => h hk)]
    rw [e1]
    refine (Q2H (x := wv) (y := iv) (z := ev) (by omega) (by omega) (by omega) (by omega)).mono fun x w16 ⟨ba, bc, he, hO, X16⟩ => ⟨_, _, _, he, by kernel_rfl, ?_⟩
    have s16 := Step.of_no X16 s7.ok
    have rb : Row w16 (grow w12 (tags w o [p8])) ba (bytesV (boundL wv iv ev)) := Q1D hO X16
    have hbl := Q5G wv iv ev
    refine (SealO ((hP.step s7 id).step s16 id) s16.ok hS hlen (keyK R ev).1 (bc := bc) (pc := pc) rb ((hp.step s7).step s16) (by omega) hpl).mono fun e w20 ⟨o20, a', c', he, s20, hrow, hc, hP'⟩ => ⟨_, _, _, _, he, o20, a', c', rfl, (s7.trans s16).none.trans s20, hrow, hc, hP'⟩
theorem Q2L (h : EG w o q k R) (hP : POrc w o k S) (ok : Tags w o) (hS : S.ok) (hlen : S.used.length < 1000000) (wv iv ev : Int) (hp : Row w o pa (bytesV p)) (hpl : p.length ≤ 1000000) :
    Calls Try.prog 8 #[.pointer (some (blk k)), .pointer (some (blk q)), .int .i64 wv, .int .i64 iv, .int .i64 ev, .slice pa p.length pc] w (Gb (fun j => j = k) w o (sealP S R wv iv ev p).1 fun w' o' => POrc w' o' k (sealP S R wv iv ev p).2) := by
  refine (Q11.go _ _ _ _ _ _ _ _ (R := fun v w' => ∃ o' a' c', v = .tuple #[.slice a' (sealP S R wv iv ev p).1.1.length c', .int .i64 (sealP S R wv iv ev p).1.2] ∧ Step (fun j => j = k) w o w' o' ∧ Row w' o' a' (bytesV (sealP S R wv iv ev p).1.1) ∧ (sealP S R wv iv ev p).1.1.length ≤ c' ∧ POrc w' o' k (sealP S R wv iv ev p).2) ?_).mono fun e w' ⟨v, he, o', a', c', hv, hw⟩ => ⟨o', a', c', by rw [he, hv], hw⟩
  unfold Q11.N
  rw [placeF]
  refine ⟨fun hf w9 X9 => ?_, fun hr w9 X9 => ?_⟩
  · have e1 : sealP S R wv iv ev p = (([], 1), S) := by unfold sealP; rw [hf]; rfl
    rw [e1]
    have s9 := Step.of_no X9 ok
    exact ⟨_, none, 0, rfl, s9.none, Row.nil _ _ _, Nat.le_refl _, hP.step s9 id⟩
  · have s9 := Step.of_no X9 ok
    exact (useSeal (h.step s9 id) (hP.step s9 id) s9.ok hS hlen hr (hp.step s9) hpl).mono fun e w20 ⟨o20, a', c', he, s20, hrow, hc, hP'⟩ => ⟨_, _, _, _, he, o20, a', c', rfl, s9.none.trans s20, hrow, hc, hP'⟩
theorem useOpen {e : Ent} (h : EG w o q k R) (hP : POrc w o k S) (ok : Tags w o) (hr : placeOK e.w e.i e.ep = true) (hS : Short S) {ea : Option Addr} {ec : Nat} (he : Row w o ea (bytesV e.body)) (hel : e.body.length < 1000000) (hec : e.body.length ≤ ec) :
    Calls Try.prog 28 #[.agg #[.int .i64 e.w, .int .i64 e.i, .int .i64 e.ep], .func (.func 31) #[.pointer (some (blk k))] #[], .pointer (some (blk q)), .slice ea e.body.length ec] w
      (Gb no w o (if (keyK R e.ep).2 ≠ 0 then ([], (keyK R e.ep).2) else openOf S (keyK R e.ep).1 (boundL e.w e.i e.ep) e.body) fun _ _ => True) := by
  obtain ⟨r, hr0⟩ : ∃ r, (if (keyK R e.ep).2 ≠ 0 then ([], (keyK R e.ep).2) else openOf S (keyK R e.ep).1 (boundL e.w e.i e.ep) e.body) = r := ⟨_, rfl⟩
  rw [hr0]
  refine (Q0y.go _ _ _ _ _ _ _ _ _ _ (R := fun v w' => ∃ o' a' c', v = .tuple #[.slice a' r.1.length c', .int .i64 r.2] ∧ Step no w o w' o' ∧ Row w' o' a' (bytesV r.1) ∧ r.1.length ≤ c' ∧ True) ?_).mono fun e w' ⟨v, he, o', a', c', hv, hw⟩ => ⟨o', a', c', by rw [he, hv], hw⟩
  have hr' : 0 ≤ e.w ∧ e.w < 8 ∧ 0 ≤ e.i ∧ e.i < 200 ∧ 0 ≤ e.ep ∧ e.ep < 20 := of_decide_eq_true hr
  unfold Q0y.N
  intro w7 p8 X7 hp8
  obtain ⟨s7, M7⟩ := Step.priv X7 hp8 ok
  refine (Q3v (h.step s7 id) e.ep).mono fun x w12 ⟨hx, hw⟩ => ⟨_, _, hx, (by rw [hw]; exact Keep.refl _ _), fun hk => ?_, fun hk => ?_⟩
  · subst hw
    rw [if_pos hk] at hr0
    subst hr0
    exact ⟨_, none, 0, rfl, s7, Row.nil _ _ _, Nat.le_refl _, trivial⟩
  · subst hw
    rw [if_neg (fun h => h hk)] at hr0
    refine (Q2H (x := e.w) (y := e.i) (z := e.ep) (by omega) (by omega) (by omega) (by omega)).mono fun x w16 ⟨ba, bc, hx, hO, X16⟩ => ⟨_, _, _, hx, by kernel_rfl, ?_⟩
    have s16 := Step.of_no X16 s7.ok
    have rb : Row w16 (grow w12 (tags w o [p8])) ba (bytesV (boundL e.w e.i e.ep)) := Q1D hO X16
    have hop := OpenO ((hP.step s7 id).step s16 id) s16.ok (keyK R e.ep).1 (bc := bc) (xc := ec) rb.1 ((he.step s7).step s16).1 hel hec (fun s hs => hS _ s hs)
    rw [hr0] at hop
    exact hop.mono fun x w20 ⟨o20, a', c', hx, s20, hrow, hc, _⟩ => ⟨_, _, _, _, hx, o20, a', c', rfl, (s7.trans s16).trans s20, hrow, hc, trivial⟩
theorem Q1E {e : Ent} (h : EG w o q k R) (hP : POrc w o k S) (ok : Tags w o) (hS : Short S) {ea : Option Addr} {ec : Nat} (he : Row w o ea (bytesV e.body)) (hel : e.body.length < 1000000) (hec : e.body.length ≤ ec) :
    Calls Try.prog 9 #[.pointer (some (blk k)), .pointer (some (blk q)), entV e ea ec] w (Gb no w o (openP S R e) fun _ _ => True) := by
  refine (Q14.go _ _ _ _ _ _ _ _ _ _ _ _ (R := fun v w' => ∃ o' a' c', v = .tuple #[.slice a' (openP S R e).1.length c', .int .i64 (openP S R e).2] ∧ Step no w o w' o' ∧ Row w' o' a' (bytesV (openP S R e).1) ∧ (openP S R e).1.length ≤ c' ∧ True) ?_).mono fun x w' ⟨v, he, o', a', c', hv, hw⟩ => ⟨o', a', c', by rw [he, hv], hw⟩
  unfold Q14.N
  rw [Q3H]
  refine ⟨fun hf w9 X9 => ?_, fun hr => ⟨fun hneg w9 X9 => ?_, fun hpos w9 X9 => ?_⟩⟩
  · have e1 : openP S R e = ([], 1) := by unfold openP; rw [hf]; rfl
    rw [e1]
    exact ⟨_, none, 0, rfl, Step.of_no X9 ok, Row.nil _ _ _, Nat.le_refl _, trivial⟩
  · have e1 : openP S R e = ([], 10) := by unfold openP; rw [if_pos hr, if_pos hneg]
    rw [e1]
    exact ⟨_, none, 0, rfl, Step.of_no X9 ok, Row.nil _ _ _, Nat.le_refl _, trivial⟩
  · have e1 : openP S R e = (if (keyK R e.ep).2 ≠ 0 then ([], (keyK R e.ep).2) else openOf S (keyK R e.ep).1 (boundL e.w e.i e.ep) e.body) := by unfold openP; rw [if_pos hr, if_neg (by omega)]
    have s9 := Step.of_no X9 ok
    have hr2 := (Q2P e).1 hr
    have hpl : placeOK e.w e.i e.ep = true := decide_eq_true (by omega)
    rw [e1]
    exact (useOpen (h.step s9 id) (hP.step s9 id) s9.ok hpl hS (he.step s9) hel hec).mono fun x w20 ⟨o20, a', c', hx, s20, hrow, hc, _⟩ => ⟨_, _, _, _, hx, o20, a', c', rfl, s9.trans s20, hrow, hc, trivial⟩
end
def classG (n : Nat) : Nat → Nat → Int
  | 0, t => -1
  | k + 1, t => if n = 8 + sizeN t then (t : Int) else classG n k (t + 1)
def classS (n : Nat) : Int := classG n 7 0
section
variable {w w' : World} {o o' : Own}
theorem Q4P (e : Ent) (ea : Option Addr) (ec : Nat) (w : World) : Calls Try.prog 12 #[entV e ea ec] w (Ret (.int .i64 (classS e.body.length)) fun w' => Ext no w w') := by
  refine (Q16.go _ _ _ _ _ _ _ _ _ _ (R := fun v w' => v = .int .i64 (classS e.body.length) ∧ Ext no w w') ?_).mono fun x w' ⟨v, he, hv, hw⟩ => ⟨by rw [he, hv], hw⟩
  unfold Q16.N
  intro w10 p11 X10 hp
  have hc : Q0s.F = 7 := rfl
  rw [hc]
  refine ⟨fun m vs w1 => ∃ t : Nat, vs = [.int .i64 t] ∧ m + t = 7 ∧ classS e.body.length = classG e.body.length m t ∧ Ext no w w1, 7, ⟨0, rfl, rfl, rfl, X10⟩, ?_⟩
  rintro m w15 i ⟨t, hv, hm, hcl, X15⟩
  cases hv
  refine ⟨fun ht w17 X17 => ?_, fun ht => ?_⟩
  · obtain ⟨m, rfl⟩ : ∃ k, m = k + 1 := ⟨m - 1, by omega⟩
    have hs := Q1r (t : Int)
    refine (Q2x (t : Int)).mono fun x w20 ⟨he, hw⟩ => ⟨_, he, (by rw [hw]; exact Keep.refl _ _), by omega, by omega, fun heq => ?_, fun hne => ⟨by omega, by omega, m, by omega, t + 1, rfl, by omega, ?_, by rw [hw]; exact X15.trans X17⟩⟩
    · have : e.body.length = 8 + sizeN (t : Int) := by omega
      refine ⟨?_, by rw [hw]; exact X15.trans X17⟩
      rw [hcl]; unfold classG; rw [if_pos this]
    · rw [hcl]; show (if _ then _ else _) = _; rw [if_neg (by omega)]
  · have : m = 0 := by omega
    subst this
    exact ⟨by rw [hcl]; rfl, X15⟩
theorem Q5R (w : World) : Calls Try.prog 14 #[] w (Ret (.int .i64 1022) fun w' => Ext no w w') := by
  refine (Q1b.go (R := fun v w' => v = .int .i64 1022 ∧ Ext no w w') ?_).mono fun x w' ⟨v, he, hv, hw⟩ => ⟨by rw [he, hv], hw⟩
  unfold Q1b.N
  have hc : Q0s.F = 7 := rfl
  rw [hc]
  refine ⟨by omega, by omega, fun w1 X1 => ?_⟩
  refine (Q1g.go 6 (R := fun v w' => v = .int .i64 1022 ∧ w' = w1) ?_).mono fun x w' ⟨v, he, hv, hw⟩ => ⟨1022, by rw [he, hv], rfl, by rw [hw]; exact X1⟩
  unfold Q1g.N
  exact (Q4K (t := 6) (by decide)).mono fun x w' ⟨he, hw⟩ => ⟨1022, by rw [he]; rfl, rfl, hw⟩
end
open W (OwnB)
theorem Q3a {x y z u v t : Int} (hx : x < 9223372036854775808) (hy : y < 9223372036854775808) (hz0 : -9223372036854775808 ≤ z) (hz : z < 9223372036854775808) (hu : u < 9223372036854775808) (hv : v < 9223372036854775808) (ht0 : -9223372036854775808 ≤ t) (ht : t < 9223372036854775808) :
    boundL x y z = boundL u v t ↔ (x.toNat = u.toNat ∧ y.toNat = v.toNat ∧ z = t) := by
  have rd : ∀ (x y z : Int), x < 9223372036854775808 → y < 9223372036854775808 → -9223372036854775808 ≤ z → z < 9223372036854775808 →
      (W.numR (boundL x y z, 0)).1 = x.toNat ∧ (W.numR (W.numR (boundL x y z, 0)).2).1 = y.toNat ∧ (W.intR (W.numR (W.numR (boundL x y z, 0)).2).2).1 = z := fun x y z hx hy hz0 hz => by
    have e1 : boundL x y z = numL x.toNat ++ (numL y.toNat ++ (numL (W.zig z) ++ [])) := by unfold boundL; simp
    have q1 := W.numR_write (n := x.toNat) (by omega) (numL y.toNat ++ (numL (W.zig z) ++ []))
    have q2 := W.numR_write (n := y.toNat) (by omega) (numL (W.zig z) ++ [])
    have q3 := Q6a hz0 hz []
    rw [e1, q1]
    refine ⟨rfl, ?_, ?_⟩
    · show (W.numR (_, 0)).1 = _
      rw [q2]
    · show (W.intR (W.numR (_, 0)).2).1 = _
      rw [q2]
      show (W.intR (_, 0)).1 = _
      rw [q3]
  constructor
  · intro h
    obtain ⟨a1, a2, a3⟩ := rd x y z hx hy hz0 hz
    obtain ⟨b1, b2, b3⟩ := rd u v t hu hv ht0 ht
    rw [h] at a1 a2 a3
    exact ⟨a1.symm.trans b1, a2.symm.trans b2, a3.symm.trans b3⟩
  · rintro ⟨h1, h2, h3⟩
    unfold boundL
    rw [h1, h2, h3]
theorem Q62 {S : OS} (h : S.ok) (s : MS) (last : Int) : (beginK S s last).2.1 ∈ (beginK S s last).2.2.keys := by
  have ok1 := (Q4e h).1
  have kin := key_in S
  have f := Q1L (keyOf S).1 (nowM s.ml) (keyOf S).2 ok1
  have hk : (keyOf S).1 ∈ (wrapsL (keyOf S).2 (keyOf S).1 (nowM s.ml)).1.keys := by rw [f.2.1]; exact kin
  unfold beginK
  split
  · show (keyOf S).1 ∈ (sealOf _ _ _ _).2.keys
    unfold sealOf
    rw [if_pos hk]
    split
    · exact hk
    · show _ ∈ (freshOf _).2.keys
      rw [(Q0R _).2.1]; exact hk
  · exact hk
section
variable {S : OS} {R : Rng} {w i e : Int} {p : List UInt8}
theorem Q5j (h : KI S) (hl : S.used.length < 100000000) (hk : (sealP S R w i e p).1.2 = 0) :
    placeOK w i e = true ∧ (keyK R e).2 = 0 ∧ 0 ≤ classOf p.length ∧ (sealP S R w i e p).1.1.length = 8 + sizeN (classOf p.length) ∧ alook (sealP S R w i e p).2.sealed (handL (sealP S R w i e p).1.1) = some ⟨(keyK R e).1, boundL w i e, p⟩ := by
  unfold sealP at hk ⊢
  by_cases h1 : placeOK w i e = true
  · rw [if_pos h1] at hk ⊢
    by_cases h2 : (keyK R e).2 ≠ 0
    · rw [if_pos h2] at hk; exact absurd hk h2
    · rw [if_neg h2] at hk ⊢
      unfold sealOf at hk ⊢
      by_cases h3 : (keyK R e).1 ∈ S.keys
      · rw [if_pos h3] at hk ⊢
        by_cases h4 : classOf p.length < 0
        · rw [if_pos h4] at hk; cases hk
        · rw [if_neg h4] at hk ⊢
          obtain ⟨f1, f2, f3, f4, f5⟩ := Q1H h.inv
          have hsz := Q2i h.inv.ok
          have hfit := f1.fit (by omega) f4
          refine ⟨h1, by omega, by omega, by rw [Q18], ?_⟩
          show alook (aput S.sealed (freshOf S).1 _) ((handL (boxL (freshOf S).1.toNat _) : Nat) : Int) = _
          rw [Q2t (by omega), Q1m, if_pos (by omega)]
      · rw [if_neg h3] at hk; cases hk
  · rw [if_neg h1] at hk; cases hk
theorem Q6k (hk : (sealP S R w i e p).1.2 ≠ 0) : (sealP S R w i e p).1.1 = [] := by
  unfold sealP at hk ⊢
  split at hk
  · rename_i h1
    rw [if_pos h1]
    split at hk
    · rename_i h2; rw [if_pos h2]
    · rename_i h2
      rw [if_neg h2]
      unfold sealOf at hk ⊢
      split at hk
      · rename_i h3
        rw [if_pos h3]
        split at hk
        · rename_i h4; rw [if_pos h4]
        · exact absurd rfl hk
      · rename_i h3; rw [if_neg h3]
  · rename_i h1; rw [if_neg h1]
theorem Q2s (h : KI S) (hp : p.length ≤ 1000000) : Short (sealP S R w i e p).2 := by
  unfold sealP
  split
  · split
    · exact h.sh
    · unfold sealOf
      split
      · split
        · exact h.sh
        · intro x s hs
          have hs : alook (aput S.sealed (freshOf S).1 _) x = some s := hs
          rw [Q1m] at hs
          split at hs
          · cases hs; exact hp
          · exact h.sh x s hs
      · exact h.sh
  · exact h.sh
theorem Q6o {b : List UInt8} {key : Int} {bd : List UInt8} (hb : b.length = 8 + sizeN (classOf p.length)) (hs : alook S.sealed (handL b) = some ⟨key, bd, p⟩) (k' : Int) (bd' : List UInt8) :
    openOf S k' bd' b = if key ≠ k' then ([], 11) else if bd ≠ bd' then ([], 5) else (p, 0) := by
  unfold openOf
  rw [hs]
  show (if _ then _ else _) = _
  rw [if_neg (fun h => h hb)]
end
theorem Q2Y {S : OS} {R : Rng} {p b : List UInt8} {key : Int} {bd : List UInt8} (hb : b.length = 8 + sizeN (classOf p.length)) (hs : alook S.sealed (handL b) = some ⟨key, bd, p⟩) {w i e pv : Int} (hpl : placeOK w i e = true) (hpv : pv = 0 ↔ i = 0) (hk : (keyK R e).2 = 0) :
    openP S R ⟨w, i, pv, 1, w, e, b, 0⟩ = if key ≠ (keyK R e).1 then ([], 11) else if bd ≠ boundL w i e then ([], 5) else (p, 0) := by
  have h1 : 0 ≤ w ∧ w < 8 ∧ 0 ≤ i ∧ i < 200 ∧ 0 ≤ e ∧ e < 20 := of_decide_eq_true hpl
  have h2 := Q1r (classOf p.length)
  have hr : Q1Z ⟨w, i, pv, 1, w, e, b, 0⟩ = true := decide_eq_true (by
    show _ ∧ _ ∧ _ ∧ _ ∧ _ ∧ _ ∧ _ ∧ _ ∧ _ ∧ _ ∧ (pv = 0 ↔ i = 0)
    exact ⟨h1.1, h1.2.1, h1.2.2.1, h1.2.2.2.1, by show (-1 : Int) ≤ e; omega, h1.2.2.2.2.2, by show (0 : Int) < 1; decide, by show (1 : Int) ≤ 1099511627776; decide, rfl, by show b.length ≤ 1100; omega, hpv⟩)
  unfold openP
  rw [if_pos hr]
  show (if e < 0 then _ else if (keyK R e).2 ≠ 0 then _ else openOf S (keyK R e).1 (boundL w i e) b) = _
  rw [if_neg (by omega), if_neg (fun h => h hk), Q6o hb hs]
theorem Q5O {R : Rng} {t : Nat} {e : Int} (hk : R.keys = List.replicate t 0) (h0 : 0 ≤ e) (h1 : e < t) : keyK R e = (0, 11) := by
  unfold keyK
  obtain ⟨n, rfl⟩ := Int.eq_ofNat_of_zero_le h0
  have hz : (List.replicate t (0 : Int))[n]?.getD 0 = 0 := by rw [List.getElem?_replicate]; split <;> rfl
  rw [hk, if_neg (by rw [List.length_replicate]; omega), Int.toNat_natCast, if_pos hz]
theorem Q67 {S : OS} {R : Rng} {p b : List UInt8} {w i e pw qi qe : Int} (hb : b.length = 8 + sizeN (classOf p.length)) (hs : alook S.sealed (handL b) = some ⟨(keyK R e).1, boundL w i e, p⟩) (hpl : placeOK w i e = true) (hk : (keyK R e).2 = 0) :
    (openP S R ⟨pw, qi, if qi > 0 then 1 else 0, 1, pw, qe, b, 0⟩).2 = 0 ↔ (pw = w ∧ qi = i ∧ qe = e) := by
  have h1 : 0 ≤ w ∧ w < 8 ∧ 0 ≤ i ∧ i < 200 ∧ 0 ≤ e ∧ e < 20 := of_decide_eq_true hpl
  by_cases hr : Q1Z ⟨pw, qi, if qi > 0 then 1 else 0, 1, pw, qe, b, 0⟩ = true
  · have h2 : 0 ≤ pw ∧ pw < 8 ∧ 0 ≤ qi ∧ qi < 200 ∧ -1 ≤ qe ∧ qe < 20 := by
      have := (Q2P _).1 hr
      exact ⟨this.1, this.2.1, this.2.2.1, this.2.2.2.1, this.2.2.2.2.1, this.2.2.2.2.2.1⟩
    by_cases hq : qe < 0
    · have e1 : openP S R ⟨pw, qi, if qi > 0 then 1 else 0, 1, pw, qe, b, 0⟩ = ([], 10) := by unfold openP; rw [if_pos hr]; exact if_pos hq
      rw [e1]
      exact ⟨fun h => (by cases h), fun h => by omega⟩
    · have hq2 : placeOK pw qi qe = true := decide_eq_true (by omega)
      by_cases hk2 : (keyK R qe).2 = 0
      · rw [Q2Y hb hs hq2 (by split <;> omega) hk2]
        by_cases he : qe = e
        · subst he
          rw [if_neg (fun h => h rfl)]
          have hinj := Q3a (x := w) (y := i) (z := qe) (u := pw) (v := qi) (t := qe) (by omega) (by omega) (by omega) (by omega) (by omega) (by omega) (by omega) (by omega)
          by_cases hbd : boundL w i qe = boundL pw qi qe
          · have := hinj.1 hbd
            rw [if_neg (fun h => h hbd)]
            exact ⟨fun _ => by omega, fun _ => rfl⟩
          · rw [if_pos hbd]
            exact ⟨fun h => (by cases h), fun h => absurd (hinj.2 (by omega)) hbd⟩
        · have hbd : boundL w i e ≠ boundL pw qi qe := fun h => he (by
            have := (Q3a (x := w) (y := i) (z := e) (u := pw) (v := qi) (t := qe) (by omega) (by omega) (by omega) (by omega) (by omega) (by omega) (by omega) (by omega)).1 h
            exact this.2.2.symm)
          constructor
          · intro h
            split at h
            · cases h
            · cases h
          · exact fun h => absurd h.2.2 he
      · have e1 : openP S R ⟨pw, qi, if qi > 0 then 1 else 0, 1, pw, qe, b, 0⟩ = ([], (keyK R qe).2) := by unfold openP; rw [if_pos hr]; exact (if_neg hq).trans (if_pos hk2)
        rw [e1]
        exact ⟨fun h => absurd h hk2, fun h => absurd (by rw [h.2.2]; exact hk) hk2⟩
  · have e1 : openP S R ⟨pw, qi, if qi > 0 then 1 else 0, 1, pw, qe, b, 0⟩ = ([], 1) := by unfold openP; exact if_neg hr
    rw [e1]
    refine ⟨fun h => (by cases h), fun h => absurd (decide_eq_true ?_) hr⟩
    have h2 := Q1r (classOf p.length)
    show _ ∧ _ ∧ _ ∧ _ ∧ _ ∧ _ ∧ _ ∧ _ ∧ _ ∧ _ ∧ ((if qi > 0 then (1 : Int) else 0) = 0 ↔ qi = 0)
    obtain ⟨rfl, rfl, rfl⟩ := h
    exact ⟨h1.1, h1.2.1, h1.2.2.1, h1.2.2.2.1, by show (-1 : Int) ≤ qe; omega, h1.2.2.2.2.2, by show (0 : Int) < 1; decide, by show (1 : Int) ≤ 1099511627776; decide, rfl, by show b.length ≤ 1100; omega, by split <;> omega⟩
section
variable {w w' : World} {o o' : Own} {d : List Int} {many : Nat} {B : RB} {X : WD} {S : OS} {R : Nat → Rng} {K : List Int} {O : List (List UInt8)}
theorem RI.key (h : RI d many X S R K O) {e : Nat} (he : e < many) : keyK (R 0) e = (K[e]?.getD 0, 0) := Q6p h.a (by rw [h.len]; exact he) h.pi.ch.nz
theorem RI.one (hd : OInv (OS.init d)) (h : RI d 1 X S R K O) : K[0]?.getD 0 ∈ S.keys := by
  have e := h.det
  have e1 : roomK d 1 = ((beginK (roomK d 0).1 (roomK d 0).2.1 (roomK d 0).2.2.1).2.2, ⟨(roomK d 0).2.1.ml, (roomK d 0).2.1.ep + 1⟩, (beginK (roomK d 0).1 (roomK d 0).2.1 (roomK d 0).2.2.1).2.1, (roomK d 0).2.2.2 ++ [(beginK (roomK d 0).1 (roomK d 0).2.1 (roomK d 0).2.2.1).2.1]) := rfl
  rw [e1] at e
  have hS : (beginK (roomK d 0).1 (roomK d 0).2.1 (roomK d 0).2.2.1).2.2 = S := congrArg Prod.fst e
  have hK : (roomK d 0).2.2.2 ++ [(beginK (roomK d 0).1 (roomK d 0).2.1 (roomK d 0).2.2.1).2.1] = K := congrArg (fun x => x.2.2.2) e
  have hK : [(beginK (roomK d 0).1 (roomK d 0).2.1 (roomK d 0).2.2.1).2.1] = K := hK
  have p1 := (Q2k hd).1
  have p2 := (Q2k p1).1
  have hb := Q62 (S := (roomK d 0).1) p2.ok (roomK d 0).2.1 (roomK d 0).2.2.1
  rw [← hK, ← hS]
  exact hb
theorem RI.used (h : RI d many X S R K O) (hm : many ≤ 4) : S.used.length < 1000 := by have := h.us; omega
theorem Q4y (ok : Tags w o) : Calls Try.prog 6 #[] w (fun x w' => ∃ o', x = .returned (.bool true) ∧ Step no w o w' o') := by
  refine (Q0z.go (R := fun v w' => ∃ o', v = .bool true ∧ Step no w o w' o') ?_).mono fun x w' ⟨v, he, o', hv, h⟩ => ⟨o', by rw [he, hv], h⟩
  unfold Q0z.N
  refine (Q25 (d := []) (many := 1) ok (Row.nil _ _ _) (Nat.le_refl _) (fun x hx => by cases hx) (by simp) (by decide)).mono fun x w3 ⟨q, o3, he, B, X, S, R, K, O, hq, s3, A3, I, hov⟩ => ⟨_, he, fun h => (by cases h), fun _ => ⟨_, rfl, ?_⟩⟩
  subst hq
  have hus := I.used (by decide)
  refine ⟨_, A3.bk.celli 0 rfl rfl, _, A3.bk.celli 2 rfl rfl, fun w11 q12 X11 hb11 hq12 hq12' => ?_⟩
  have s11 := Step.of_no X11 s3.ok
  have A11 := A3.no s11
  obtain ⟨w16, hr16, hrow16, X16⟩ := litB Try.underlying25 Try.underlying5 [120] X11 hb11 hq12
  have s16 := Step.of_no X16 s3.ok
  have A16 := A3.no s16
  have r16 : Row w16 (grow w3 o3) (some (blk q12)) (bytesV [120]) := Row.fresh hrow16 fun ad ha => by cases ha; exact hq12
  refine ⟨A11.bk.celli 2 rfl rfl, A11.bk.celli 0 rfl rfl, _, _, _, w16, hr16, A16.bk.celli 2 rfl rfl, A16.bk.celli 0 rfl rfl, ?_⟩
  have hin : OInv (OS.init []) := OInv.init (l := []) (fun x hx => by cases hx)
  have hkey := I.key (e := 0) (by decide)
  have hmem := I.one hin
  have hsl : (sealP S (R 0) 1 0 0 [120]).1.2 = 0 := by
    have e1 : sealP S (R 0) 1 0 0 [120] = sealOf S (K[0]?.getD 0) (boundL 1 0 0) [120] := by
      unfold sealP
      rw [if_pos (by decide)]
      have hk2 : keyK (R 0) 0 = (K[0]?.getD 0, 0) := hkey
      rw [hk2]; exact if_neg (fun h => h rfl)
    rw [e1]
    unfold sealOf
    rw [if_pos hmem, if_neg (by decide)]
  refine (Q2L A16.a A16.orc s16.ok I.pi.ki.inv.ok (by omega) 1 0 0 r16 (by simp)).mono fun x w22 ⟨o22, ba, bc, he, s22, r22, hbc, P22⟩ => ⟨_, _, _, _, he, ?_⟩
  obtain ⟨g1, g2, g3, g4, g5⟩ := Q5j I.pi.ki (by omega) hsl
  have hsh := Q2s (R := R 0) (w := 1) (i := 0) (e := 0) (p := [120]) I.pi.ki (by simp)
  have hle : (sealP S (R 0) 1 0 0 [120]).1.1.length ≤ 1032 := by
    have := Q1r (classOf ([120] : List UInt8).length); omega
  have A22 := A16.toOrc s22 P22
  rw [hsl]
  generalize (sealP S (R 0) 1 0 0 [120]).1.1 = b at *
  generalize (sealP S (R 0) 1 0 0 [120]).2 = S2 at *
  refine ⟨_, A22.bk.celli 0 rfl rfl, _, A22.bk.celli 2 rfl rfl, fun w25 p30 X25 hp30 => ?_⟩
  obtain ⟨s25, M25⟩ := Step.priv X25 hp30 s22.ok
  have A25 := A22.no s25
  have hkk : (keyK (R 0) 0).2 = 0 := congrArg Prod.snd hkey
  have o1 : openP S2 (R 0) ⟨1, 0, 0, 1, 1, 0, b, 0⟩ = ([120], 0) := by
    rw [Q2Y g4 g5 (by decide) (by decide) hkk, if_neg (fun h => h rfl), if_neg (fun h => h rfl)]
  have o2 : openP S2 (R 0) ⟨1, 1, 5, 1, 1, 0, b, 0⟩ = ([], 5) := by
    rw [Q2Y g4 g5 (by decide) (by decide) hkk, if_neg (fun h => h rfl), if_pos (by decide)]
  have op1 := Q1E (e := ⟨1, 0, 0, 1, 1, 0, b, 0⟩) (ec := bc) A25.a A25.orc s25.ok hsh (r22.step s25) (by show b.length < 1000000; omega) hbc
  rw [o1] at op1
  refine op1.mono fun x w34 ⟨o34, ta, tc, he, s34, r34, htc, _⟩ => ⟨_, _, _, _, he, M25.keep s34 (fun _ _ => id), fun w37 X37 => ?_⟩
  have A34 := A25.no s34
  have M34 := M25.step s34
  have s37 : Step (fun i => i ∈ [p30]) w34 _ w37 _ := Step.stores X37 s34.ok M34 (fun b hb => by simp [hb])
  have h30 := (hp30 p30 (by simp)).1
  have u22 := A22.under
  have A37 := A34.far u22 s37 (fun j hj => by simp at hj; rw [hj]; exact h30)
  have M37 := M34.step s37
  have op2 := Q1E (e := ⟨1, 1, 5, 1, 1, 0, b, 0⟩) (ec := bc) A37.a A37.orc s37.ok hsh (((r22.step s25).step s34).step s37) (by show b.length < 1000000; omega) hbc
  rw [o2] at op2
  refine ⟨_, A37.bk.celli 0 rfl rfl, _, A37.bk.celli 2 rfl rfl, op2.mono fun x w45 ⟨o45, ta2, tc2, he, s45, r45, _⟩ => ⟨_, _, _, _, he, M37.keep s45 (fun _ _ => id), fun _ => ⟨fun _ => ?_, fun h => absurd rfl h⟩, fun h => absurd rfl h⟩⟩
  have S45 : Step no w o w45 o45 := (((((s3.trans s16).trans' s22 fun a ha => .inr (by rw [ha]; exact hov.k)).trans s25).trans s34).trans' s37 fun a ha => .inr (by simp at ha; rw [ha]; have := ((s3.trans s16).trans' s22 fun a ha => .inr (by rw [ha]; exact hov.k)).size; omega)).trans s45
  refine ⟨_, Q4g Try.underlying25 Try.underlying5 Try.underlying9 ((r34.step s37).step s45).1, fun _ => ⟨fun _ => ?_, fun h => absurd rfl h⟩, fun h => absurd (by rfl) h⟩
  refine (Q4P ⟨1, 1, 5, 1, 1, 0, b, 0⟩ ba bc w45).mono fun x w54 ⟨he, X54⟩ => ⟨_, he, _, ?_, S45.trans (Step.of_no X54 S45.ok)⟩
  have hc : classS b.length = 0 := by rw [g4]; decide
  show Value.bool (classS b.length == 0) = .bool true
  rw [hc]; rfl
end
end Go.Proofs.Ytgeakpldocfccaa