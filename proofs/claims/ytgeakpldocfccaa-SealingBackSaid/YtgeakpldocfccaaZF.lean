/- Epochs, plainly: what Begin tells, and what a ring learns of it. -/
import Derived.Test.YtgeakpldocfccaaZE
import Derived.Test.YtgeakpldocfccaaZA
set_option linter.unusedVariables false
set_option linter.unusedSimpArgs false
set_option maxRecDepth 20000
set_option maxHeartbeats 4000000
namespace Go.Proofs.Ytgeakpldocfccaa
open Go Go.Mx Go.Proofs
structure KI (S : OS) : Prop where
  inv : OInv S
  su : ∀ x s, alook S.sealed x = some s → x ∈ S.used
  wu : ∀ x s, alook S.wrapped x = some s → x ∈ S.used
  sh : Short S
structure KLe (S S' : OS) : Prop where
  pb : S'.publics = S.publics
  sl : ∀ x s, alook S.sealed x = some s → alook S'.sealed x = some s
  wr : ∀ x s, alook S.wrapped x = some s → alook S'.wrapped x = some s
  us : ∀ x ∈ S.used, x ∈ S'.used
theorem KLe.refl (S : OS) : KLe S S := ⟨rfl, fun _ _ h => h, fun _ _ h => h, fun _ h => h⟩
theorem KLe.trans {S T U : OS} (a : KLe S T) (b : KLe T U) : KLe S U := ⟨b.pb.trans a.pb, fun x s h => b.sl x s (a.sl x s h), fun x s h => b.wr x s (a.wr x s h), fun x h => b.us x (a.us x h)⟩
theorem KLe.open {S S' : OS} (h : KLe S S') {k : Int} {b x p : List UInt8} (ho : openOf S k b x = (p, 0)) : openOf S' k b x = (p, 0) := by
  unfold openOf at ho ⊢
  cases hs : alook S.sealed (handL x) with
  | none => rw [hs] at ho; cases ho
  | some s => rw [hs] at ho; rw [h.sl _ _ hs]; exact ho
theorem Q2f {S : OS} (h : S.ok) : (freshOf S).2.used.length = S.used.length + 1 := by
  obtain ⟨_, _, a3, _⟩ := Q1e h
  rw [a3]; simp
theorem KI.key {S : OS} (h : KI S) : KI (keyOf S).2 ∧ KLe S (keyOf S).2 ∧ (keyOf S).1 ∉ S.used ∧ (keyOf S).1 ≠ 0 ∧ (keyOf S).1 ∈ (keyOf S).2.used ∧ (keyOf S).2.used.length = S.used.length + 1 := by
  obtain ⟨c1, c2, c3, c4, c5, c6, c7, c8⟩ := Q0Q S
  obtain ⟨f1, f2, f3, f4, f5⟩ := Q1B h.inv
  have e7 : (keyOf S).2.sealed = S.sealed := c7
  have e8 : (keyOf S).2.wrapped = S.wrapped := c8
  exact ⟨⟨keyInv h.inv, fun x s e => f2.used _ (h.su x s (by rw [← e7]; exact e)), fun x s e => f2.used _ (h.wu x s (by rw [← e8]; exact e)), fun x s e => h.sh x s (by rw [← e7]; exact e)⟩,
    ⟨c4, fun x s e => by rw [e7]; exact e, fun x s e => by rw [e8]; exact e, f2.used⟩, f3, f5, f4, Q2f h.inv.ok⟩
theorem KI.wrap {S : OS} (h : KI S) {p key : Int} (hp : (alook S.publics p).isSome) (hk : key ∈ S.keys) (hl : S.used.length < 100000000) :
    KI (wrapOf S p key).2 ∧ KLe S (wrapOf S p key).2 ∧ (wrapOf S p key).1.1.length = 16 ∧ alook (wrapOf S p key).2.wrapped (handL (wrapOf S p key).1.1) = some (p, key) ∧ (wrapOf S p key).2.keys = S.keys ∧ (wrapOf S p key).2.used.length = S.used.length + 1 := by
  obtain ⟨c1, c2, c3, c4, c5, c6, c7, c8⟩ := Q0Q S
  obtain ⟨f1, f2, f3, f4, f5⟩ := Q1B h.inv
  have hsz := Q2f h.inv.ok
  have hfit := f1.fit (by omega) f4
  have hi := wrapInv h.inv p key
  rw [Q3q hp hk] at hi ⊢
  have hle : ∀ x v, alook S.wrapped x = some v → alook (aput S.wrapped (freshOf S).1 (p, key)) x = some v := fun x v e => by
    rw [Q1j, if_neg (fun e' => f3 (by rw [e']; exact h.wu x v e))]; exact e
  refine ⟨⟨hi, fun x s e => f2.used _ (h.su x s (by rw [← c7]; exact e)), fun x s e => ?_, fun x s e => h.sh x s (by rw [← c7]; exact e)⟩, ⟨c4, fun x s e => by show alook (freshOf S).2.sealed x = _; rw [c7]; exact e, hle, f2.used⟩, by rw [Q14], ?_, c2, hsz⟩
  · have e : alook (aput S.wrapped (freshOf S).1 (p, key)) x = some s := e
    rw [Q1j] at e
    split at e
    · rename_i hx; subst hx; exact f4
    · exact f2.used _ (h.wu x s e)
  · show alook (aput S.wrapped (freshOf S).1 (p, key)) ((handL (boxL (freshOf S).1.toNat 8) : Nat) : Int) = _
    rw [Q2s (by omega), Q1j, if_pos (by omega)]
theorem KI.sealK {S : OS} (h : KI S) {key : Int} {b p : List UInt8} (hk : key ∈ S.keys) (hp : p.length = 8) (hl : S.used.length < 100000000) :
    KI (sealOf S key b p).2 ∧ KLe S (sealOf S key b p).2 ∧ (sealOf S key b p).1.1.length = 24 ∧ openOf (sealOf S key b p).2 key b (sealOf S key b p).1.1 = (p, 0) ∧ (sealOf S key b p).2.used.length = S.used.length + 1 := by
  obtain ⟨c1, c2, c3, c4, c5, c6, c7, c8⟩ := Q0Q S
  obtain ⟨f1, f2, f3, f4, f5⟩ := Q1B h.inv
  have hsz := Q2f h.inv.ok
  have hfit := f1.fit (by omega) f4
  have hi := sealInv h.inv key b p
  have hc : classOf p.length = 0 := by rw [hp]; decide
  have hE : sealOf S key b p = ((boxL (freshOf S).1.toNat (sizeN (classOf p.length)), 0), { (freshOf S).2 with sealed := aput S.sealed (freshOf S).1 ⟨key, b, p⟩ }) := by
    unfold sealOf; rw [if_pos hk, if_neg (by omega)]
  rw [hE] at hi ⊢
  have hz : sizeN (classOf p.length) = 16 := by rw [hc]; decide
  have hle : ∀ x v, alook S.sealed x = some v → alook (aput S.sealed (freshOf S).1 (⟨key, b, p⟩ : Sealed)) x = some v := fun x v e => by
    rw [Q1j, if_neg (fun e' => f3 (by rw [e']; exact h.su x v e))]; exact e
  refine ⟨⟨hi, fun x s e => ?_, fun x s e => f2.used _ (h.wu x s (by rw [← c8]; exact e)), fun x s e => ?_⟩, ⟨c4, hle, fun x s e => by show alook (freshOf S).2.wrapped x = _; rw [c8]; exact e, f2.used⟩, by rw [Q14, hz], ?_, hsz⟩
  · have e : alook (aput S.sealed (freshOf S).1 (⟨key, b, p⟩ : Sealed)) x = some s := e
    rw [Q1j] at e
    split at e
    · rename_i hx; subst hx; exact f4
    · exact f2.used _ (h.su x s e)
  · have e : alook (aput S.sealed (freshOf S).1 (⟨key, b, p⟩ : Sealed)) x = some s := e
    rw [Q1j] at e
    split at e
    · cases e; show p.length ≤ _; omega
    · exact h.sh x s e
  · have hL : alook (aput S.sealed (freshOf S).1 (⟨key, b, p⟩ : Sealed)) ((handL (boxL (freshOf S).1.toNat (sizeN (classOf p.length))) : Nat) : Int) = some ⟨key, b, p⟩ := by
      rw [Q2s (by omega), Q1j, if_pos (by omega)]
    unfold openOf
    rw [hL]
    show (if _ then _ else if _ then _ else if _ then _ else _) = _
    rw [if_neg (by rw [Q14]; exact fun h => h rfl), if_neg (fun h => h rfl), if_neg (fun h => h rfl)]
theorem Q2Q (key : Int) : ∀ (l : List Mem) (S : OS), KI S → key ∈ S.keys → (∀ m ∈ l, (alook S.publics m.pub).isSome) → S.used.length + l.length < 100000000 →
    KI (wrapsL S key l).1 ∧ KLe S (wrapsL S key l).1 ∧ (wrapsL S key l).2.map Prod.fst = l.map Mem.who ∧ (wrapsL S key l).1.keys = S.keys ∧ (wrapsL S key l).1.used.length = S.used.length + l.length ∧
    ∀ p ∈ (wrapsL S key l).2, ∃ m ∈ l, p.1 = m.who ∧ p.2.length = 16 ∧ alook (wrapsL S key l).1.wrapped (handL p.2) = some (m.pub, key)
  | [], S, h, hk, hp, hl => ⟨h, KLe.refl _, rfl, rfl, rfl, fun p hp => by cases hp⟩
  | m :: r, S, h, hk, hp, hl => by
    simp only [List.length_cons] at hl
    obtain ⟨a1, a2, a3, a4, a5, a6⟩ := h.wrap (hp m (by simp)) hk (by omega)
    obtain ⟨b1, b2, b3, b4, b5, b6⟩ := Q2Q key r (wrapOf S m.pub key).2 a1 (by rw [a5]; exact hk) (fun x hx => by rw [a2.pb]; exact hp x (by simp [hx])) (by omega)
    refine ⟨b1, a2.trans b2, ?_, b4.trans a5, ?_, ?_⟩
    · show m.who :: (wrapsL (wrapOf S m.pub key).2 key r).2.map Prod.fst = _
      rw [b3]; rfl
    · show (wrapsL (wrapOf S m.pub key).2 key r).1.used.length = S.used.length + (r.length + 1); omega
    · intro p hp'
      rcases List.mem_cons.1 (show p ∈ (m.who, (wrapOf S m.pub key).1.1) :: (wrapsL (wrapOf S m.pub key).2 key r).2 from hp') with rfl | hp'
      · exact ⟨m, by simp, rfl, a3, b2.wr _ _ a4⟩
      · obtain ⟨m', hm, e1, e2, e3⟩ := b6 p hp'
        exact ⟨m', by simp [hm], e1, e2, e3⟩
structure BK (S : OS) (s : MS) (last : Int) : Prop where
  ki : KI (beginK S s last).2.2
  le : KLe S (beginK S s last).2.2
  len : (beginK S s last).2.2.used.length ≤ S.used.length + 10
  nz : (beginK S s last).2.1 ≠ 0
  new : (beginK S s last).2.1 ∉ S.used
  us : (beginK S s last).2.1 ∈ (beginK S s last).2.2.used
  kd : (beginK S s last).1.kd = 3
  right : rightM (beginK S s last).1 = true
  app : applyM s (beginK S s last).1 = if s.ep + 1 ≥ 20 then (MS.z, 2) else (⟨s.ml, s.ep + 1⟩, 0)
  opens : 0 ≤ s.ep → openOf (beginK S s last).2.2 (beginK S s last).2.1 (boundE (s.ep + 1)) (beginK S s last).1.old = (boxL last.toNat 0, 0)
  box : ∀ p ∈ (beginK S s last).1.ws, ∃ m ∈ nowM s.ml, p.1 = m.who ∧ p.2.length = 16 ∧ alook (beginK S s last).2.2.wrapped (handL p.2) = some (m.pub, (beginK S s last).2.1)
  whos : (beginK S s last).1.ws.map Prod.fst = (nowM s.ml).map Mem.who
theorem Q3P : ∀ {l : List (Int × List UInt8)} {last : Int}, l.Pairwise (fun a b => a.1 < b.1) → (∀ x ∈ l, last < x.1) → (∀ x ∈ l, x.2.length = 16 ∧ 0 ≤ x.1 ∧ x.1 < 8) → boxesGo last l = true
  | [], last, _, _, _ => rfl
  | x :: r, last, hp, h1, h2 => by
    have h3 := List.pairwise_cons.1 hp
    have hx := h2 x (by simp)
    have := Q3P h3.2 (last := x.1) h3.1 fun y hy => h2 y (by simp [hy])
    unfold boxesGo
    rw [this]
    simp [hx, h1 x (by simp)]
theorem Q49 {l : List Mem} {m : Mem} (h : m ∈ nowM l) : m ∈ l ∧ m.to_ = -1 := by
  unfold nowM at h
  simpa using h
theorem Q4z {S : OS} {s : MS} {last : Int} (h : KI S) (hs : s.ok) (hp : ∀ m ∈ nowM s.ml, (alook S.publics m.pub).isSome) (hne : nowM s.ml ≠ []) (hl : S.used.length < 10000000) : BK S s last := by
  obtain ⟨a1, a2, a3, a4, a5, a6⟩ := h.key
  have h8 := hs.le
  have hnl : (nowM s.ml).length ≤ 8 := Nat.le_trans (List.length_filter_le _ _) h8
  have hki := key_in S
  obtain ⟨b1, b2, b3, b4, b5, b6⟩ := Q2Q (keyOf S).1 (nowM s.ml) (keyOf S).2 a1 hki (fun m hm => by rw [a2.pb]; exact hp m hm) (by omega)
  obtain ⟨d1, d2, d3, d4, d5⟩ := b1.sealK (key := (keyOf S).1) (b := boundE (s.ep + 1)) (p := boxL last.toNat 0) (by rw [b4]; exact hki) (by rw [Q14]) (by omega)
  have hpw : ((wrapsL (keyOf S).2 (keyOf S).1 (nowM s.ml)).2.map Prod.fst).Pairwise (· < ·) := by
    rw [b3, List.pairwise_map]
    exact hs.sorted.filter _
  have hws : boxesP (wrapsL (keyOf S).2 (keyOf S).1 (nowM s.ml)).2 = true := by
    unfold boxesP
    have hne2 : (wrapsL (keyOf S).2 (keyOf S).1 (nowM s.ml)).2 ≠ [] := fun e => by
      rw [e] at b3
      exact hne (List.map_eq_nil_iff.1 b3.symm)
    have hr : ∀ x ∈ (wrapsL (keyOf S).2 (keyOf S).1 (nowM s.ml)).2, x.2.length = 16 ∧ 0 ≤ x.1 ∧ x.1 < 8 := fun x hx => by
      obtain ⟨m, hm, e1, e2, _⟩ := b6 x hx
      have := hs.who m (Q49 hm).1
      rw [e1]; exact ⟨e2, this⟩
    rw [Q3P (List.pairwise_map.1 hpw) (fun x hx => by have := (hr x hx).2; omega) hr]
    simp [hne2]
  have hright : ∀ old : List UInt8, old.length = 0 ∨ old.length = 24 → rightM ⟨3, 0, 0, 0, (wrapsL (keyOf S).2 (keyOf S).1 (nowM s.ml)).2, old⟩ = true := fun old ho => by
    unfold rightM
    show (if (0 : Int) ≤ 0 ∧ (0 : Int) < 8 then (if ((3 : Int) == 3) = boxesP (wrapsL (keyOf S).2 (keyOf S).1 (nowM s.ml)).2 then _ else false) else false) = true
    rw [if_pos (by decide), hws, if_pos rfl]
    show (if (3 : Int) ≠ 3 ∧ ¬ ((wrapsL (keyOf S).2 (keyOf S).1 (nowM s.ml)).2 = [] ∧ old = []) then false else if (3 : Int) = 1 then decide ((0 : Int) ≠ 0 ∧ (0 : Int) = 0) else if (3 : Int) = 2 then decide ((0 : Int) ≠ 0 ∧ (0 : Int) = 0 ∧ 0 ≤ (0 : Int) ∧ (0 : Int) ≤ 200) else if (3 : Int) = 3 then decide ((0 : Int) = 0 ∧ (0 : Int) = 0 ∧ (0 : Int) = 0 ∧ (old.length = 0 ∨ old.length = 24)) else false) = true
    rw [if_neg (fun h => h.1 rfl), if_neg (by decide), if_neg (by decide), if_pos rfl]
    exact decide_eq_true ⟨rfl, rfl, rfl, ho⟩
  have happ : ∀ old : List UInt8, (old.length = 0 ∨ old.length = 24) → ((old.length : Int) == 0) = decide (s.ep < 0) → applyM s ⟨3, 0, 0, 0, (wrapsL (keyOf S).2 (keyOf S).1 (nowM s.ml)).2, old⟩ = if s.ep + 1 ≥ 20 then (MS.z, 2) else (⟨s.ml, s.ep + 1⟩, 0) := fun old ho he => by
    unfold applyM
    rw [if_pos (hright old ho)]
    show (if (3 : Int) = 1 then _ else if (3 : Int) = 2 then _ else beginM s ⟨3, 0, 0, 0, (wrapsL (keyOf S).2 (keyOf S).1 (nowM s.ml)).2, old⟩) = _
    rw [if_neg (by decide), if_neg (by decide)]
    unfold beginM
    by_cases h20 : s.ep + 1 ≥ 20
    · rw [if_pos h20, if_pos h20]
    · rw [if_neg h20, if_neg h20]
      show (if ((old.length : Int) == 0) = decide (s.ep < 0) then (if (nowM s.ml).map Mem.who = (wrapsL (keyOf S).2 (keyOf S).1 (nowM s.ml)).2.map Prod.fst then _ else _) else _) = _
      rw [if_pos he, if_pos b3.symm]
  by_cases hep : 0 ≤ s.ep
  · have hE : beginK S s last = (⟨3, 0, 0, 0, (wrapsL (keyOf S).2 (keyOf S).1 (nowM s.ml)).2, (sealOf (wrapsL (keyOf S).2 (keyOf S).1 (nowM s.ml)).1 (keyOf S).1 (boundE (s.ep + 1)) (boxL last.toNat 0)).1.1⟩, (keyOf S).1, (sealOf (wrapsL (keyOf S).2 (keyOf S).1 (nowM s.ml)).1 (keyOf S).1 (boundE (s.ep + 1)) (boxL last.toNat 0)).2) := by
      unfold beginK; exact if_pos hep
    have hold : ((((sealOf (wrapsL (keyOf S).2 (keyOf S).1 (nowM s.ml)).1 (keyOf S).1 (boundE (s.ep + 1)) (boxL last.toNat 0)).1.1.length : Nat) : Int) == 0) = decide (s.ep < 0) := by
      rw [d3, decide_eq_false (by omega)]; rfl
    constructor <;> rw [hE]
    · exact d1
    · exact (a2.trans b2).trans d2
    · show (sealOf _ _ _ _).2.used.length ≤ _; omega
    · exact a4
    · exact a3
    · exact d2.us _ (b2.us _ a5)
    · exact hright _ (.inr d3)
    · exact happ _ (.inr d3) hold
    · exact fun _ => d4
    · intro p hp'
      obtain ⟨m, hm, e1, e2, e3⟩ := b6 p hp'
      exact ⟨m, hm, e1, e2, d2.wr _ _ e3⟩
    · exact b3
  · have hE : beginK S s last = (⟨3, 0, 0, 0, (wrapsL (keyOf S).2 (keyOf S).1 (nowM s.ml)).2, []⟩, (keyOf S).1, (wrapsL (keyOf S).2 (keyOf S).1 (nowM s.ml)).1) := by
      unfold beginK; exact if_neg hep
    have hold : (((([] : List UInt8).length : Nat) : Int) == 0) = decide (s.ep < 0) := by
      rw [decide_eq_true (by omega)]; rfl
    constructor <;> rw [hE]
    · exact b1
    · exact a2.trans b2
    · show (wrapsL _ _ _).1.used.length ≤ _; omega
    · exact a4
    · exact a3
    · exact b2.us _ a5
    · exact hright _ (.inl rfl)
    · exact happ _ (.inl rfl) hold
    · exact fun h => absurd h hep
    · exact b6
    · exact b3
theorem BK.told {S : OS} {s : MS} {last : Int} (h : BK S s last) {R : Rng} (h1 : ∃ m ∈ nowM s.ml, m.who = R.who) (h2 : ∀ m ∈ nowM s.ml, m.who = R.who → alook S.publics m.pub = some R.secret) : toldBy (beginK S s last).2.2 R (beginK S s last).1 = ((beginK S s last).2.1, 0) := by
  obtain ⟨m, hm, hw⟩ := h1
  unfold toldBy
  cases hf : (beginK S s last).1.ws.find? (fun p => p.1 == R.who) with
  | none =>
    have hmem : m.who ∈ (beginK S s last).1.ws.map Prod.fst := by rw [h.whos]; exact List.mem_map_of_mem hm
    obtain ⟨p, hp, e⟩ := List.mem_map.1 hmem
    have := List.find?_eq_none.1 hf p hp
    simp [e, hw] at this
  | some p =>
    have hp := List.mem_of_find?_eq_some hf
    have he : p.1 = R.who := by have := List.find?_some hf; simpa using this
    obtain ⟨m', hm', e1, e2, e3⟩ := h.box p hp
    show Q10 _ _ _ = _
    unfold Q10
    rw [e3]
    show (if _ then _ else if _ then _ else _) = _
    rw [if_neg (by rw [e2]; exact fun h => h rfl), if_neg (by
      rw [h.le.pb]
      show ¬ (alook S.publics m'.pub).getD 0 ≠ _
      rw [h2 m' hm' (by rw [← e1]; exact he)]
      exact fun h => h rfl)]
theorem BK.other {S : OS} {s : MS} {last : Int} (h : BK S s last) {R : Rng} (h1 : ∀ m ∈ nowM s.ml, m.who ≠ R.who) : toldBy (beginK S s last).2.2 R (beginK S s last).1 = (0, 11) := by
  unfold toldBy
  cases hf : (beginK S s last).1.ws.find? (fun p => p.1 == R.who) with
  | none => rfl
  | some p =>
    have hp := List.mem_of_find?_eq_some hf
    have he : p.1 = R.who := by have := List.find?_some hf; simpa using this
    obtain ⟨m', hm', e1, _⟩ := h.box p hp
    exact absurd (by rw [← e1]; exact he) (h1 m' hm')
def mkK (K : List Int) (m e : Nat) : List Int := (List.range K.length).map fun d => if d < m ∨ e ≤ d then K[d]?.getD 0 else 0
theorem Q1O (K : List Int) (m e : Nat) : (mkK K m e).length = K.length := by simp [mkK]
theorem mkK_get {K : List Int} {m e d : Nat} (hd : d < K.length) : (mkK K m e)[d]?.getD 0 = if d < m ∨ e ≤ d then K[d]?.getD 0 else 0 := by
  unfold mkK
  rw [List.getElem?_map, List.getElem?_range hd]; rfl
theorem Q41 {K : List Int} {m e : Nat} (h : e ≤ m) : mkK K m e = K := by
  refine List.ext_getElem? fun d => ?_
  unfold mkK
  rw [List.getElem?_map]
  by_cases hd : d < K.length
  · rw [List.getElem?_range hd]
    show some (if d < m ∨ e ≤ d then K[d]?.getD 0 else 0) = _
    rw [if_pos (by omega), List.getElem?_eq_getElem hd]; rfl
  · rw [List.getElem?_eq_none (by simp; omega), List.getElem?_eq_none (by omega)]; rfl
theorem Q6B (K : List Int) (m : Nat) (hm : m ≤ K.length) (x : Int) : mkK K m K.length ++ [x] = mkK (K ++ [x]) m K.length := by
  unfold mkK
  rw [List.length_append, List.length_singleton, List.range_succ, List.map_append]
  congr 1
  · refine List.map_congr_left fun d hd => ?_
    have hd := List.mem_range.1 hd
    rw [List.getElem?_append_left hd]
  · show [x] = [if K.length < m ∨ K.length ≤ K.length then (K ++ [x])[K.length]?.getD 0 else 0]
    rw [if_pos (.inr (Nat.le_refl _))]; simp
theorem Q54 (K : List Int) (m : Nat) (hm : m ≤ K.length) (x : Int) : mkK K m K.length ++ [0] = mkK (K ++ [x]) m (K.length + 1) := by
  unfold mkK
  rw [List.length_append, List.length_singleton, List.range_succ, List.map_append]
  congr 1
  · refine List.map_congr_left fun d hd => ?_
    have hd := List.mem_range.1 hd
    rw [List.getElem?_append_left hd]
    by_cases h : d < m
    · rw [if_pos (.inl h), if_pos (.inl h)]
    · rw [if_neg (by omega), if_neg (by omega)]
  · show [(0 : Int)] = [if K.length < m ∨ K.length + 1 ≤ K.length then (K ++ [x])[K.length]?.getD 0 else 0]
    rw [if_neg (by omega)]
structure Chain (S : OS) (K : List Int) (O : List (List UInt8)) : Prop where
  len : O.length = K.length
  nz : ∀ x ∈ K, 0 < x ∧ x < 18446744073709551616
  link : ∀ e, e + 1 < K.length → openOf S (K[e + 1]?.getD 0) (boundE ((e + 1 : Nat) : Int)) (O[e + 1]?.getD []) = (boxL (K[e]?.getD 0).toNat 0, 0)
  short : ∀ b ∈ O, b.length < 1000000
theorem Chain.pos {S : OS} {K : List Int} {O : List (List UInt8)} (h : Chain S K O) {d : Nat} (hd : d < K.length) : 0 < K[d]?.getD 0 ∧ K[d]?.getD 0 < 18446744073709551616 := by
  rw [List.getElem?_eq_getElem hd]; exact h.nz _ (List.getElem_mem hd)
theorem Q6k {h : Nat} (hh : h < 18446744073709551616) : valOf (boxL h 0) = h := by
  have := Q2s hh 0
  unfold handL at this
  rw [if_neg (by rw [Q14]; omega), boxL_eq, List.drop_left' (by rfl), List.take_left' (by rfl), if_neg (by simp)] at this
  rw [boxL_eq, List.replicate_zero, List.append_nil]; exact this
theorem Q4G {S : OS} {K : List Int} {O : List (List UInt8)} (h : Chain S K O) (m : Nat) : ∀ (e : Nat), e < K.length → backK S O e (mkK K m e) = K
  | 0, _ => Q41 (Nat.zero_le _)
  | e + 1, he => by
    unfold backK
    by_cases hem : e < m
    · rw [if_neg, Q41 hem]
      rintro ⟨⟨_, h2⟩, _⟩
      rw [mkK_get (by omega), if_pos (.inl hem)] at h2
      have := (h.pos (d := e) (by omega)).1
      omega
    · have h1 : (mkK K m (e + 1))[e + 1]?.getD 0 = K[e + 1]?.getD 0 := by rw [mkK_get he, if_pos (.inr (Nat.le_refl _))]
      have h0 : (mkK K m (e + 1))[e]?.getD 0 = 0 := by rw [mkK_get (by omega), if_neg (by omega)]
      have hp := h.pos (d := e + 1) he
      have hp0 := h.pos (d := e) (by omega)
      have hl := h.link e he
      rw [if_pos]
      · rw [h1, hl]
        have : ((valOf (boxL (K[e]?.getD 0).toNat 0) : Nat) : Int) = K[e]?.getD 0 := by rw [Q6k (by omega)]; omega
        show backK S O e ((mkK K m (e + 1)).set e ((valOf (boxL (K[e]?.getD 0).toNat 0) : Nat) : Int)) = K
        rw [this]
        have hset : (mkK K m (e + 1)).set e (K[e]?.getD 0) = mkK K m e := by
          refine List.ext_getElem? fun d => ?_
          rw [List.getElem?_set]
          split
          · rename_i hde; subst hde
            rw [if_pos (by rw [Q1O]; omega)]
            unfold mkK
            rw [List.getElem?_map, List.getElem?_range (by omega)]
            show _ = some (if _ then _ else _)
            rw [if_pos (.inr (Nat.le_refl _))]
          · rename_i hde
            unfold mkK
            rw [List.getElem?_map, List.getElem?_map]
            by_cases hd : d < K.length
            · rw [List.getElem?_range hd]
              show some (if d < m ∨ e + 1 ≤ d then _ else _) = some (if d < m ∨ e ≤ d then _ else _)
              have hiff : (d < m ∨ e + 1 ≤ d) ↔ (d < m ∨ e ≤ d) := by omega
              simp only [hiff]
            · rw [List.getElem?_eq_none (by simp; omega)]; rfl
        rw [hset]
        exact Q4G h m e (by omega)
      · unfold tells
        rw [h1, h0, hl]
        exact ⟨⟨by omega, rfl⟩, rfl, by rw [Q14]⟩
set_option maxRecDepth 100000
set_option maxRecDepth 20000
structure WD where
  k : Nat
  j : Nat
  pub : Nat → Int
  rq : Nat → Option Nat
  mq : Nat → Option Nat
  sm : MS
  tm : MS
  sec : Nat → Int
  last : Int
section
variable {w w' w1 w2 : World} {o o' o1 : Own} {q k p N m i : Nat} {K : Nat → Prop} {X : WD} {a : Option Addr} {c : Nat}
theorem Blk.apart {t t' : TypeId} {cs cs' : List Value} (h : Blk w p t cs) (k : Blk w q t' cs') (hn : t ≠ t') : p ≠ q := fun e => by
  subst e
  have : some (Obj.cells cs.toArray t) = some (Obj.cells cs'.toArray t') := h.symm.trans k
  cases this; exact hn rfl
theorem POrc.typ {S : OS} (h : POrc w o k S) : ∃ cs, Blk w k 102 cs := by
  obtain ⟨g, rfl, h1, _⟩ := h
  obtain ⟨da, dc, hb, _⟩ := h1.st
  exact ⟨_, hb⟩
theorem Rof.typ {S : OS} {n : Nat} (h : Rof w o k S n) : ∃ cs, Blk w k 54 cs := by
  obtain ⟨d, R, ⟨R', _, h1⟩, _⟩ := h.ex
  obtain ⟨da, dc, la, lc, hb, _⟩ := h1.at_
  exact ⟨_, hb⟩
theorem EG.typ {R : Rng} (h : EG w o q k R) : ∃ cs, Blk w q 108 cs := by
  obtain ⟨ka, kc, oa, oc, ol, hb, _⟩ := h.mem
  exact ⟨_, hb⟩
theorem MG.typ {R : Rng} (h : MG w o q R) : ∃ cs, Blk w q 61 cs := by
  obtain ⟨ka, kc, oa, oc, ol, hb, _⟩ := h.mem
  exact ⟨_, hb⟩
theorem EG.diff {R R' : Rng} {k' q' : Nat} (h : EG w o q k R) (h' : EG w o q' k' R') (hn : R.who ≠ R'.who) : q ≠ q' := fun e => by
  subst e
  have e2 := h.who.symm.trans h'.who
  simp at e2
  exact hn e2
end
section
variable {w w' w1 w2 : World} {o o' o1 : Own} {q k p N m n i : Nat} {K : Nat → Prop} {X : WD} {S T : OS} {R M : Nat → Rng}
end
theorem Q31 (S : OS) : (pairOf S).2.sealed = S.sealed := by
  obtain ⟨c1, c2, c3, c4, c5, c6, c7, c8⟩ := Q0Q S
  obtain ⟨d1, d2, d3, d4, d5, d6, d7, d8⟩ := Q0Q { (freshOf S).2 with secrets := badd S.secrets (freshOf S).1 }
  show (freshOf { (freshOf S).2 with secrets := badd S.secrets (freshOf S).1 }).2.sealed = _
  rw [d7]; exact c7
theorem Q2L (S : OS) : (pairOf S).2.wrapped = S.wrapped := by
  obtain ⟨c1, c2, c3, c4, c5, c6, c7, c8⟩ := Q0Q S
  obtain ⟨d1, d2, d3, d4, d5, d6, d7, d8⟩ := Q0Q { (freshOf S).2 with secrets := badd S.secrets (freshOf S).1 }
  show (freshOf { (freshOf S).2 with secrets := badd S.secrets (freshOf S).1 }).2.wrapped = _
  rw [d8]; exact c8
section
variable {w w' : World} {o o' : Own}
end
section
variable {w w' w1 w2 : World} {o o' o1 : Own} {q k p N m n i : Nat} {K : Nat → Prop} {X : WD} {S T : OS} {R M : Nat → Rng}
end
structure PI (X : WD) (S : OS) (R : Nat → Rng) (K : List Int) (O : List (List UInt8)) : Prop where
  ki : KI S
  pub : ∀ i, i < 4 → alook S.publics (X.pub i) = some (X.sec i)
  st : X.tm = X.sm
  ok : X.sm.ok
  mem : ∀ m ∈ X.sm.ml, ∃ i : Nat, i < 4 ∧ m.who = i ∧ m.pub = X.pub i
  fr : ∀ m ∈ X.sm.ml, m.fr ≤ X.sm.ep + 1
  zero : ∃ m ∈ X.sm.ml, m.who = 0 ∧ m.to_ = -1
  ep : (K.length : Int) = X.sm.ep + 1
  ch : Chain S K O
  last : X.last = K.getLast?.getD 0
  ring : ∀ i : Nat, i < 4 → (R i).who = i ∧ (R i).secret = X.sec i ∧ (R i).olds = O ∧ ∃ m, m ≤ K.length ∧ (R i).keys = mkK K m K.length
theorem PI.ne {X : WD} {S : OS} {R : Nat → Rng} {K : List Int} {O : List (List UInt8)} (h : PI X S R K O) : nowM X.sm.ml ≠ [] := fun e => by
  obtain ⟨m, hm, _, ht⟩ := h.zero
  have : m ∈ nowM X.sm.ml := by unfold nowM; simp [hm, ht]
  rw [e] at this; cases this
theorem PI.known {X : WD} {S : OS} {R : Nat → Rng} {K : List Int} {O : List (List UInt8)} (h : PI X S R K O) : ∀ m ∈ nowM X.sm.ml, (alook S.publics m.pub).isSome := fun m hm => by
  obtain ⟨i, hi, _, e⟩ := h.mem m (Q49 hm).1
  rw [e, h.pub i hi]; rfl
theorem PI.begin {X : WD} {S : OS} {R : Nat → Rng} {K : List Int} {O : List (List UInt8)} (h : PI X S R K O) (hl : S.used.length < 10000000) : BK S X.sm X.last := Q4z h.ki h.ok h.known h.ne hl
theorem PI.last_rng {X : WD} {S : OS} {R : Nat → Rng} {K : List Int} {O : List (List UInt8)} (h : PI X S R K O) : 0 ≤ X.last ∧ X.last < 18446744073709551616 := by
  rw [h.last]
  cases hk : K.getLast? with
  | none => exact ⟨by decide, by decide⟩
  | some x => have := h.ch.nz x (List.mem_of_getLast? hk); exact ⟨by show 0 ≤ x; omega, by show x < _; omega⟩
theorem PI.chain {X : WD} {S : OS} {R : Nat → Rng} {K : List Int} {O : List (List UInt8)} (h : PI X S R K O) (hl : S.used.length < 10000000) (hold : (beginK S X.sm X.last).1.old.length < 1000000) :
    Chain (beginK S X.sm X.last).2.2 (K ++ [(beginK S X.sm X.last).2.1]) (O ++ [(beginK S X.sm X.last).1.old]) := by
  have B := h.begin hl
  have hlen := h.ch.len
  have hfit := B.ki.inv.fit (by have := B.len; omega) B.us
  refine ⟨by simp [hlen], fun x hx => ?_, fun e he => ?_, fun b hb => ?_⟩
  · rcases List.mem_append.1 hx with hx | hx
    · exact h.ch.nz x hx
    · have := B.nz
      simp at hx; subst hx
      omega
  · have he : e + 1 < K.length + 1 := by simpa using he
    by_cases hee : e + 1 < K.length
    · rw [List.getElem?_append_left hee, List.getElem?_append_left (by omega), List.getElem?_append_left (by omega)]
      exact B.le.open (h.ch.link e hee)
    · have hee : e + 1 = K.length := by omega
      have hep : 0 ≤ X.sm.ep := by have := h.ep; omega
      have hop := B.opens hep
      have e1 : (K ++ [(beginK S X.sm X.last).2.1])[e + 1]?.getD 0 = (beginK S X.sm X.last).2.1 := by rw [hee]; simp
      have e2 : (O ++ [(beginK S X.sm X.last).1.old])[e + 1]?.getD [] = (beginK S X.sm X.last).1.old := by rw [hee, ← hlen]; simp
      have e3 : (K ++ [(beginK S X.sm X.last).2.1])[e]?.getD 0 = X.last := by
        rw [List.getElem?_append_left (by omega), h.last, List.getLast?_eq_getElem?, show K.length - 1 = e by omega]
      rw [e1, e2, e3, show ((e + 1 : Nat) : Int) = X.sm.ep + 1 by have := h.ep; omega]
      exact hop
  · rcases List.mem_append.1 hb with hb | hb
    · exact h.ch.short b hb
    · simp at hb; subst hb; exact hold
theorem PI.in_ {X : WD} {S : OS} {R : Nat → Rng} {K : List Int} {O : List (List UInt8)} (h : PI X S R K O) (hl : S.used.length < 10000000) (hold : (beginK S X.sm X.last).1.old.length < 1000000) (hep : X.sm.ep + 1 < 20) {i : Nat} (hi : i < 4) (hm : ∃ m ∈ nowM X.sm.ml, m.who = i) :
    learnK (beginK S X.sm X.last).2.2 (R i) (beginK S X.sm X.last).1 = ({ R i with keys := K ++ [(beginK S X.sm X.last).2.1], olds := O ++ [(beginK S X.sm X.last).1.old] }, 0) := by
  have B := h.begin hl
  have C := h.chain hl hold
  obtain ⟨r1, r2, r3, m, hm', r4⟩ := h.ring i hi
  have hkl : (R i).keys.length = K.length := by rw [r4, Q1O]
  have ht := B.told (R := R i) (by rw [r1]; exact hm) fun m' hm2 hw => by
    obtain ⟨d, hd, e1, e2⟩ := h.mem m' (Q49 hm2).1
    have : d = i := by rw [r1, e1] at hw; omega
    subst this
    rw [e2, r2]; exact h.pub d hd
  unfold learnK
  rw [if_neg (by rw [B.kd, B.right]; simp), if_neg (by have := h.ep; omega), ht, hkl, r3, r4]
  dsimp only
  rw [Q6B K m hm', Q4G C m K.length (by simp)]
theorem PI.out_ {X : WD} {S : OS} {R : Nat → Rng} {K : List Int} {O : List (List UInt8)} (h : PI X S R K O) (hl : S.used.length < 10000000) (hep : X.sm.ep + 1 < 20) {i : Nat} (hi : i < 4) (hm : ∀ m ∈ nowM X.sm.ml, m.who ≠ i) :
    ∃ m, m ≤ K.length ∧ learnK (beginK S X.sm X.last).2.2 (R i) (beginK S X.sm X.last).1 = ({ R i with keys := mkK (K ++ [(beginK S X.sm X.last).2.1]) m (K.length + 1), olds := O ++ [(beginK S X.sm X.last).1.old] }, 11) := by
  have B := h.begin hl
  obtain ⟨r1, r2, r3, m, hm', r4⟩ := h.ring i hi
  have hkl : (R i).keys.length = K.length := by rw [r4, Q1O]
  have ht := B.other (R := R i) (by rw [r1]; exact hm)
  refine ⟨m, hm', ?_⟩
  unfold learnK
  rw [if_neg (by rw [B.kd, B.right]; simp), if_neg (by have := h.ep; omega), ht, hkl, r3, r4]
  dsimp only
  rw [Q54 K m hm' (beginK S X.sm X.last).2.1]
  have hb : backK (beginK S X.sm X.last).2.2 (O ++ [(beginK S X.sm X.last).1.old]) K.length (mkK (K ++ [(beginK S X.sm X.last).2.1]) m (K.length + 1)) = mkK (K ++ [(beginK S X.sm X.last).2.1]) m (K.length + 1) := by
    cases hK : K.length with
    | zero => rfl
    | succ e =>
      unfold backK
      rw [if_neg]
      rintro ⟨⟨h1, _⟩, _⟩
      rw [mkK_get (by simp; omega), if_neg (by omega)] at h1
      exact h1 rfl
  rw [hb]
theorem PI.next {X : WD} {S : OS} {R R' : Nat → Rng} {K : List Int} {O : List (List UInt8)} (h : PI X S R K O) (hl : S.used.length < 10000000) (hold : (beginK S X.sm X.last).1.old.length < 1000000) (hep : X.sm.ep + 1 < 20)
    (hR : ∀ i, i < 4 → R' i = (learnK (beginK S X.sm X.last).2.2 (R i) (beginK S X.sm X.last).1).1) :
    PI { X with last := (beginK S X.sm X.last).2.1, sm := ⟨X.sm.ml, X.sm.ep + 1⟩, tm := ⟨X.sm.ml, X.sm.ep + 1⟩ } (beginK S X.sm X.last).2.2 R' (K ++ [(beginK S X.sm X.last).2.1]) (O ++ [(beginK S X.sm X.last).1.old]) := by
  have B := h.begin hl
  have he := h.ep
  have h0 := h.ok.ep0
  refine ⟨B.ki, fun i hi => by rw [B.le.pb]; exact h.pub i hi, rfl, ⟨h.ok.sorted, h.ok.who, by show -1 ≤ X.sm.ep + 1; omega, hep⟩, h.mem, fun m hm => by have := h.fr m hm; show m.fr ≤ X.sm.ep + 1 + 1; omega, h.zero, by simp; omega, h.chain hl hold, by simp, fun i hi => ?_⟩
  rw [hR i hi]
  obtain ⟨r1, r2, r3, _⟩ := h.ring i hi
  by_cases hm : ∃ m ∈ nowM X.sm.ml, m.who = i
  · rw [h.in_ hl hold hep hi hm]
    exact ⟨r1, r2, rfl, K.length + 1, by simp, by simp [Q41]⟩
  · obtain ⟨m, hm', e⟩ := h.out_ hl hep hi fun m hm1 hm2 => hm ⟨m, hm1, hm2⟩
    rw [e]
    exact ⟨r1, r2, rfl, m, by simp; omega, by simp⟩
theorem Q65 {R : Rng} {K : List Int} {e : Nat} (hk : R.keys = K) (he : e < K.length) (hz : ∀ x ∈ K, 0 < x ∧ x < 18446744073709551616) : keyK R e = (K[e]?.getD 0, 0) := by
  unfold keyK
  have := hz _ (List.getElem_mem he)
  rw [hk, if_neg (by omega), Int.toNat_natCast, if_neg (by rw [List.getElem?_eq_getElem he]; show ¬ (K[e] = 0); omega)]
open W (OwnB GivesW numR countR doneR zig unzig intR)
section
variable {w w' : World} {a : Option Addr} {c N p : Nat} {bs : List UInt8} {k : Int}
/-! ### the reference's -/
end
open W (OwnB GivesW numR countR doneR zig unzig intR)
def Q0s.M (n1 a0 a1 : Int) (R : RW) (w : World) : Prop :=
 bif decide (n1 ≥ a0) then (
 R (.bool (decide (n1 < a1))) w) else (
 R (.bool false) w)

theorem Q0s.ok (n1 a0 a1 : Int) {R : RW} {w : World} (h : Q0s.M n1 a0 a1 R w) : Calls Try.prog 67 #[.int .i64 n1, .int .i64 a0, .int .i64 a1] w fun e w' => ∃ v, e = .returned v ∧ R v w' :=
  Q0j follows (H := []) (args := [.int .i64 n1, .int .i64 a0, .int .i64 a1]) (cast (by kernel_rfl) h)

def Q0s.N (n1 a0 a1 : Int) (R : RW) (w : World) : Prop :=
 (n1 ≥ a0 →
 R (.bool (decide (n1 < a1))) w) ∧
 (n1 < a0 →
 R (.bool false) w)

theorem Q0s.up (n1 a0 a1 : Int) {R : RW} {w : World} (h : Q0s.N n1 a0 a1 R w) : Q0s.M n1 a0 a1 R w := by
  unfold Q0s.M
  unfold Q0s.N at h
  refine bif_of (fun c4 => ?_) (fun c4 => ?_)
  ·have h := h.1 (of_decide_eq_true c4)
   exact h
  have h := h.2 (Int.not_le.1 (of_decide_eq_false c4))
  exact h

theorem Q0s.go (n1 a0 a1 : Int) {R : RW} {w : World} (h : Q0s.N n1 a0 a1 R w) : Calls Try.prog 67 #[.int .i64 n1, .int .i64 a0, .int .i64 a1] w fun e w' => ∃ v, e = .returned v ∧ R v w' := Q0s.ok n1 a0 a1 (Q0s.up n1 a0 a1 h)
theorem Q0s.run (n1 a0 a1 : Int) {V : Value} {Q : World → Prop} {w : World} (h : Q0s.N n1 a0 a1 (fun v w' => v = V ∧ Q w') w) : Calls Try.prog 67 #[.int .i64 n1, .int .i64 a0, .int .i64 a1] w (Ret V Q) := (Q0s.go n1 a0 a1 h).mono fun e w' ⟨v, he, hv, hq⟩ => ⟨by rw [he, hv], hq⟩

def Q0s.F (n1 a0 a1 : Int) : Bool :=
  if n1 ≥ a0 then
    (decide (n1 < a1))
  else
    false
theorem Q0s.pure (n1 a0 a1 : Int) {w : World} : Calls Try.prog 67 #[.int .i64 n1, .int .i64 a0, .int .i64 a1] w (Ret (.bool (Q0s.F n1 a0 a1)) fun w' => Ext no w w') := by
  refine Q0s.run n1 a0 a1 ?_
  unfold Q0s.N
  refine ⟨fun c0 => ?_, fun c0 => ?_⟩
  ·exact ⟨by unfold Q0s.F; rw [if_pos c0], Ext.refl _ _⟩
  ·exact ⟨by unfold Q0s.F; rw [if_neg (show ¬ (n1 ≥ a0) from by omega)], Ext.refl _ _⟩

def Q0S.M (a0 : Int) (R : RW) (w : World) : Prop :=
 bif decide (a0 ≥ 0) then (
 R (.bool (decide (a0 < 8))) w) else (
 R (.bool false) w)

theorem Q0S.ok (a0 : Int) {R : RW} {w : World} (h : Q0S.M a0 R w) : Calls Try.prog 89 #[.int .i64 a0] w fun e w' => ∃ v, e = .returned v ∧ R v w' :=
  Q0j follows (H := []) (args := [.int .i64 a0]) (cast (by kernel_rfl) h)

def Q0S.N (a0 : Int) (R : RW) (w : World) : Prop :=
 (a0 ≥ 0 →
 R (.bool (decide (a0 < 8))) w) ∧
 (a0 < 0 →
 R (.bool false) w)

theorem Q0S.up (a0 : Int) {R : RW} {w : World} (h : Q0S.N a0 R w) : Q0S.M a0 R w := by
  unfold Q0S.M
  unfold Q0S.N at h
  refine bif_of (fun c2 => ?_) (fun c2 => ?_)
  ·have h := h.1 (of_decide_eq_true c2)
   exact h
  have h := h.2 (Int.not_le.1 (of_decide_eq_false c2))
  exact h

theorem Q0S.go (a0 : Int) {R : RW} {w : World} (h : Q0S.N a0 R w) : Calls Try.prog 89 #[.int .i64 a0] w fun e w' => ∃ v, e = .returned v ∧ R v w' := Q0S.ok a0 (Q0S.up a0 h)
theorem Q0S.run (a0 : Int) {V : Value} {Q : World → Prop} {w : World} (h : Q0S.N a0 (fun v w' => v = V ∧ Q w') w) : Calls Try.prog 89 #[.int .i64 a0] w (Ret V Q) := (Q0S.go a0 h).mono fun e w' ⟨v, he, hv, hq⟩ => ⟨by rw [he, hv], hq⟩

def Q0S.F (a0 : Int) : Bool :=
  if a0 ≥ 0 then
    (decide (a0 < 8))
  else
    false
theorem Q0S.pure (a0 : Int) {w : World} : Calls Try.prog 89 #[.int .i64 a0] w (Ret (.bool (Q0S.F a0)) fun w' => Ext no w w') := by
  refine Q0S.run a0 ?_
  unfold Q0S.N
  refine ⟨fun c0 => ?_, fun c0 => ?_⟩
  ·exact ⟨by unfold Q0S.F; rw [if_pos c0], Ext.refl _ _⟩
  ·exact ⟨by unfold Q0S.F; rw [if_neg (show ¬ (a0 ≥ 0) from by omega)], Ext.refl _ _⟩

def Q0T.M (a5 a2 : Int) (R : RW) (w : World) : Prop :=
 thenW (w.alloc (.cells #[.int .i64 a5, .int .i64 a2] 40)) fun a1 =>
 ∃ (T4 : Int), a1.cell? ((blk w.heap.size).add 0) = some (.int .i64 T4) ∧
 bif decide (T4 > 0) then (
 ∃ (T5 : Int), a1.cell? ((blk w.heap.size).add 0) = some (.int .i64 T5) ∧
 bif decide (T5 ≤ 1099511627776) then (
 ∃ (W6 : Int), a1.cell? ((blk w.heap.size).add 1) = some (.int .i64 W6) ∧
 Calls Try.prog 89 #[.int .i64 W6] a1 fun a3 a4 => ∃ (a0 : Bool), a3 = .returned (.bool a0) ∧
 R (.bool a0) a4) else (
 R (.bool false) a1)) else (
 R (.bool false) a1)

theorem Q0T.ok (a0 a1 : Int) {R : RW} {w : World} (h : Q0T.M a0 a1 R w) : Calls Try.prog 68 #[.agg #[.int .i64 a0, .int .i64 a1]] w fun e w' => ∃ v, e = .returned v ∧ R v w' :=
  Q0j follows (H := []) (args := [.agg #[.int .i64 a0, .int .i64 a1]]) (cast (by kernel_rfl) h)

def Q0T.N (a1 a3 : Int) (R : RW) (w : World) : Prop :=
 (a1 > 0 →
 (a1 ≤ 1099511627776 →
 ∀ (a2 : World), Ext no w a2 →
 R (.bool (Q0S.F a3)) a2) ∧
 ((1099511627776 : Int) < a1 →
 ∀ (a0 : World), Ext no w a0 →
 R (.bool false) a0)) ∧
 (a1 ≤ 0 →
 ∀ (a0 : World), Ext no w a0 →
 R (.bool false) a0)

theorem Q0T.up (a1 a0 : Int) {R : RW} {w : World} (h : Q0T.N a1 a0 R w) : Q0T.M a1 a0 R w := by
  unfold Q0T.M
  unfold Q0T.N at h
  refine Q01 fun a4 e3 => ?_
  have a3 := Blk.of_new e3
  have a6 := ((Ext.refl no w)).size
  have a2 := (Ext.refl no w).x_alloc e3
  refine ⟨a1, a3.celli 0 rfl rfl, ?_⟩
  refine bif_fo (fun c4 => ?_) (fun c4 => ?_)
  ·have h := h.2 (Int.not_lt.1 (of_decide_eq_false c4))
   have h := h a4 a2
   exact h
  have h := h.1 (of_decide_eq_true c4)
  refine ⟨a1, a3.celli 0 rfl rfl, ?_⟩
  refine bif_fo (fun c5 => ?_) (fun c5 => ?_)
  ·have h := h.2 (Int.not_le.1 (of_decide_eq_false c5))
   have h := h a4 a2
   exact h
  have h := h.1 (of_decide_eq_true c5)
  refine ⟨a0, a3.celli 1 rfl rfl, ?_⟩
  refine (Q0S.pure a0).mono fun ee ww6 ⟨he, hxx⟩ => ⟨(Q0S.F a0), he, ?_⟩
  have a5 := a2.trans hxx
  have h := h ww6 a5
  exact h

theorem Q0T.go (a0 a1 : Int) {R : RW} {w : World} (h : Q0T.N a0 a1 R w) : Calls Try.prog 68 #[.agg #[.int .i64 a0, .int .i64 a1]] w fun e w' => ∃ v, e = .returned v ∧ R v w' := Q0T.ok a0 a1 (Q0T.up a0 a1 h)
theorem Q0T.run (a0 a1 : Int) {V : Value} {Q : World → Prop} {w : World} (h : Q0T.N a0 a1 (fun v w' => v = V ∧ Q w') w) : Calls Try.prog 68 #[.agg #[.int .i64 a0, .int .i64 a1]] w (Ret V Q) := (Q0T.go a0 a1 h).mono fun e w' ⟨v, he, hv, hq⟩ => ⟨by rw [he, hv], hq⟩

def Q0T.F (a0 a1 : Int) : Bool :=
  if a0 > 0 then
    if a0 ≤ 1099511627776 then
      (Q0S.F a1)
    else
      false
  else
    false
theorem Q0T.pure (a0 a1 : Int) {w : World} : Calls Try.prog 68 #[.agg #[.int .i64 a0, .int .i64 a1]] w (Ret (.bool (Q0T.F a0 a1)) fun w' => Ext no w w') := by
  refine Q0T.run a0 a1 ?_
  unfold Q0T.N
  refine ⟨fun c0 => ?_, fun c0 => ?_⟩
  ·refine ⟨fun c1 => ?_, fun c1 => ?_⟩
   ·intro w' hx; exact ⟨by unfold Q0T.F; rw [if_pos c0, if_pos c1], hx⟩
   ·intro w' hx; exact ⟨by unfold Q0T.F; rw [if_pos c0, if_neg (show ¬ (a0 ≤ 1099511627776) from by omega)], hx⟩
  ·intro w' hx; exact ⟨by unfold Q0T.F; rw [if_neg (show ¬ (a0 > 0) from by omega)], hx⟩

def Q0L.M (av bf bn bp bo be : Int) (b9 : Option Addr) (bd b6 : Nat) (bq : Int) (R : RW) (w : World) : Prop :=
 thenW (w.alloc (.cells #[.int .i64 av, .int .i64 bf, .int .u64 bn, .int .i64 bp, .int .i64 bo, .int .i64 be, .slice b9 bd b6, .int .u64 bq] 42)) fun c1 =>
 ∃ (ac : Int), c1.cell? ((blk w.heap.size).add 0) = some (.int .i64 ac) ∧
 Calls Try.prog 67 #[.int .i64 ac, .int .i64 0, .int .i64 8] c1 fun bt au => ∃ (a4 : Bool), bt = .returned (.bool a4) ∧
 bif !a4 then (
 bif !a4 then (
 R (.bool false) au) else (
 ∃ (bi bj : Int), cellsAt au ((blk w.heap.size).add 3) [.int .i64 bi, .int .i64 bj] 0 ∧
 Calls Try.prog 68 #[.agg #[.int .i64 bi, .int .i64 bj]] au fun bw a2 => ∃ (a8 : Bool), bw = .returned (.bool a8) ∧
 bif !a8 then (
 bif !a8 then (
 R (.bool false) a2) else (
 ∃ (az : Int), a2.cell? ((blk w.heap.size).add 2) = some (.int .u64 az) ∧
 ∃ (am : Int), a2.cell? ((blk w.heap.size).add 1) = some (.int .i64 am) ∧
 R (.bool ((az == 0) == (am == 0))) a2)) else (
 ∃ (bs : Int), a2.cell? (((blk w.heap.size).add 3).add 1) = some (.int .i64 bs) ∧
 ∃ (a3 : Int), a2.cell? ((blk w.heap.size).add 0) = some (.int .i64 a3) ∧
 bif bs != a3 then (
 bif bs != a3 then (
 R (.bool false) a2) else (
 ∃ (aw : Int), a2.cell? ((blk w.heap.size).add 2) = some (.int .u64 aw) ∧
 ∃ (ah : Int), a2.cell? ((blk w.heap.size).add 1) = some (.int .i64 ah) ∧
 R (.bool ((aw == 0) == (ah == 0))) a2)) else (
 ∃ (b5 : Option Addr) (ak ba : Nat), a2.cell? ((blk w.heap.size).add 6) = some (.slice b5 ak ba) ∧
 bif decide ((ak : Int) > 1100) then (
 R (.bool false) a2) else (
 ∃ (b2 : Int), a2.cell? ((blk w.heap.size).add 2) = some (.int .u64 b2) ∧
 ∃ (ae : Int), a2.cell? ((blk w.heap.size).add 1) = some (.int .i64 ae) ∧
 R (.bool ((b2 == 0) == (ae == 0))) a2))))) else (
 ∃ (an : Int), au.cell? ((blk w.heap.size).add 1) = some (.int .i64 an) ∧
 Calls Try.prog 67 #[.int .i64 an, .int .i64 0, .int .i64 200] au fun br b1 => ∃ (a6 : Bool), br = .returned (.bool a6) ∧
 bif !a6 then (
 bif !a6 then (
 R (.bool false) b1) else (
 ∃ (bg bh : Int), cellsAt b1 ((blk w.heap.size).add 3) [.int .i64 bg, .int .i64 bh] 0 ∧
 Calls Try.prog 68 #[.agg #[.int .i64 bg, .int .i64 bh]] b1 fun bv a1 => ∃ (aa : Bool), bv = .returned (.bool aa) ∧
 bif !aa then (
 bif !aa then (
 R (.bool false) a1) else (
 ∃ (ax : Int), a1.cell? ((blk w.heap.size).add 2) = some (.int .u64 ax) ∧
 ∃ (ad : Int), a1.cell? ((blk w.heap.size).add 1) = some (.int .i64 ad) ∧
 R (.bool ((ax == 0) == (ad == 0))) a1)) else (
 ∃ (bz : Int), a1.cell? (((blk w.heap.size).add 3).add 1) = some (.int .i64 bz) ∧
 ∃ (a5 : Int), a1.cell? ((blk w.heap.size).add 0) = some (.int .i64 a5) ∧
 bif bz != a5 then (
 bif bz != a5 then (
 R (.bool false) a1) else (
 ∃ (b0 : Int), a1.cell? ((blk w.heap.size).add 2) = some (.int .u64 b0) ∧
 ∃ (al : Int), a1.cell? ((blk w.heap.size).add 1) = some (.int .i64 al) ∧
 R (.bool ((b0 == 0) == (al == 0))) a1)) else (
 ∃ (bb : Option Addr) (ag b7 : Nat), a1.cell? ((blk w.heap.size).add 6) = some (.slice bb ag b7) ∧
 bif decide ((ag : Int) > 1100) then (
 R (.bool false) a1) else (
 ∃ (ay : Int), a1.cell? ((blk w.heap.size).add 2) = some (.int .u64 ay) ∧
 ∃ (ao : Int), a1.cell? ((blk w.heap.size).add 1) = some (.int .i64 ao) ∧
 R (.bool ((ay == 0) == (ao == 0))) a1))))) else (
 ∃ (aj : Int), b1.cell? ((blk w.heap.size).add 5) = some (.int .i64 aj) ∧
 Calls Try.prog 67 #[.int .i64 aj, .int .i64 (-1), .int .i64 20] b1 fun bu bm => ∃ (ab : Bool), bu = .returned (.bool ab) ∧
 bif !ab then (
 R (.bool false) bm) else (
 ∃ (bl bk : Int), cellsAt bm ((blk w.heap.size).add 3) [.int .i64 bl, .int .i64 bk] 0 ∧
 Calls Try.prog 68 #[.agg #[.int .i64 bl, .int .i64 bk]] bm fun c0 a0 => ∃ (a9 : Bool), c0 = .returned (.bool a9) ∧
 bif !a9 then (
 bif !a9 then (
 R (.bool false) a0) else (
 ∃ (b4 : Int), a0.cell? ((blk w.heap.size).add 2) = some (.int .u64 b4) ∧
 ∃ (af : Int), a0.cell? ((blk w.heap.size).add 1) = some (.int .i64 af) ∧
 R (.bool ((b4 == 0) == (af == 0))) a0)) else (
 ∃ (bx : Int), a0.cell? (((blk w.heap.size).add 3).add 1) = some (.int .i64 bx) ∧
 ∃ (a7 : Int), a0.cell? ((blk w.heap.size).add 0) = some (.int .i64 a7) ∧
 bif bx != a7 then (
 bif bx != a7 then (
 R (.bool false) a0) else (
 ∃ (b3 : Int), a0.cell? ((blk w.heap.size).add 2) = some (.int .u64 b3) ∧
 ∃ (ap : Int), a0.cell? ((blk w.heap.size).add 1) = some (.int .i64 ap) ∧
 R (.bool ((b3 == 0) == (ap == 0))) a0)) else (
 ∃ (bc : Option Addr) (aq b8 : Nat), a0.cell? ((blk w.heap.size).add 6) = some (.slice bc aq b8) ∧
 bif decide ((aq : Int) > 1100) then (
 R (.bool false) a0) else (
 ∃ (ar : Int), a0.cell? ((blk w.heap.size).add 2) = some (.int .u64 ar) ∧
 ∃ (ai : Int), a0.cell? ((blk w.heap.size).add 1) = some (.int .i64 ai) ∧
 R (.bool ((ar == 0) == (ai == 0))) a0))))))

theorem Q0L.ok (a0 a2 a6 a8 a9 a1 : Int) (a4 : Option Addr) (a5 a3 : Nat) (a7 : Int) {R : RW} {w : World} (h : Q0L.M a0 a2 a6 a8 a9 a1 a4 a5 a3 a7 R w) : Calls Try.prog 30 #[.agg #[.int .i64 a0, .int .i64 a2, .int .u64 a6, .int .i64 a8, .int .i64 a9, .int .i64 a1, .slice a4 a5 a3, .int .u64 a7]] w fun e w' => ∃ v, e = .returned v ∧ R v w' :=
  Q0j follows (H := []) (args := [.agg #[.int .i64 a0, .int .i64 a2, .int .u64 a6, .int .i64 a8, .int .i64 a9, .int .i64 a1, .slice a4 a5 a3, .int .u64 a7]]) (cast (by kernel_rfl) h)

def Q0L.N (a0 a2 a7 a6 a5 a3 : Int) (ac : Option Addr) (a4 ab : Nat) (ad : Int) (R : RW) (w : World) : Prop :=
 ((Q0s.F a0 0 8) = false →
 ∀ (aa : World), Ext no w aa →
 R (.bool false) aa) ∧
 ((Q0s.F a0 0 8) = true →
 ((Q0s.F a2 0 200) = false →
 ∀ (a8 : World), Ext no w a8 →
 R (.bool false) a8) ∧
 ((Q0s.F a2 0 200) = true →
 ((Q0s.F a3 (-1) 20) = false →
 ∀ (a9 : World), Ext no w a9 →
 R (.bool false) a9) ∧
 ((Q0s.F a3 (-1) 20) = true →
 ((Q0T.F a6 a5) = false →
 ∀ (a1 : World), Ext no w a1 →
 R (.bool false) a1) ∧
 ((Q0T.F a6 a5) = true →
 (a5 ≠ a0 →
 ∀ (a1 : World), Ext no w a1 →
 R (.bool false) a1) ∧
 (a5 = a0 →
 ((a4 : Int) > 1100 →
 ∀ (a1 : World), Ext no w a1 →
 R (.bool false) a1) ∧
 ((a4 : Int) ≤ 1100 →
 ∀ (a1 : World), Ext no w a1 →
 R (.bool ((a7 == 0) == (a2 == 0))) a1))))))

theorem Q0L.up (a0 a1 a9 a8 a3 a2 : Int) (a5 : Option Addr) (a6 a4 : Nat) (ab : Int) {R : RW} {w : World} (h : Q0L.N a0 a1 a9 a8 a3 a2 a5 a6 a4 ab R w) : Q0L.M a0 a1 a9 a8 a3 a2 a5 a6 a4 ab R w := by
  unfold Q0L.M
  unfold Q0L.N at h
  refine Q01 fun am e9 => ?_
  have a7 := Blk.of_new e9
  have an := ((Ext.refl no w)).size
  have al := (Ext.refl no w).x_alloc e9
  refine ⟨a0, a7.celli 0 rfl rfl, ?_⟩
  refine (Q0s.pure a0 0 8).mono fun ee ww10 ⟨he, hxx⟩ => ⟨(Q0s.F a0 0 8), he, ?_⟩
  have ae := al.trans hxx
  have a7 := a7.ext hxx id
  refine bif_of (fun af => ?_) (fun af => ?_)
  ·have h := h.1 (not_t af)
   refine bif_tt af ?_
   have h := h ww10 ae
   exact h
  have h := h.2 (not_f af)
  refine ⟨a1, a7.celli 1 rfl rfl, ?_⟩
  refine (Q0s.pure a1 0 200).mono fun ee ww13 ⟨he, hxx⟩ => ⟨(Q0s.F a1 0 200), he, ?_⟩
  have ac := ae.trans hxx
  have a7 := a7.ext hxx id
  refine bif_of (fun ah => ?_) (fun ah => ?_)
  ·have h := h.1 (not_t ah)
   refine bif_tt ah ?_
   have h := h ww13 ac
   exact h
  have h := h.2 (not_f ah)
  refine ⟨a2, a7.celli 5 rfl rfl, ?_⟩
  refine (Q0s.pure a2 (-1) 20).mono fun ee ww16 ⟨he, hxx⟩ => ⟨(Q0s.F a2 (-1) 20), he, ?_⟩
  have ad := ac.trans hxx
  have a7 := a7.ext hxx id
  refine bif_of (fun aj => ?_) (fun aj => ?_)
  ·have h := h.1 (not_t aj)
   have h := h ww16 ad
   exact h
  have h := h.2 (not_f aj)
  refine ⟨a8, a3, ⟨a7.celli 3 rfl rfl, a7.celli 4 rfl rfl, trivial⟩, ?_⟩
  refine (Q0T.pure a8 a3).mono fun ee ww19 ⟨he, hxx⟩ => ⟨(Q0T.F a8 a3), he, ?_⟩
  have aa := ad.trans hxx
  have a7 := a7.ext hxx id
  refine bif_of (fun ai => ?_) (fun ai => ?_)
  ·have h := h.1 (not_t ai)
   refine bif_tt ai ?_
   have h := h ww19 aa
   exact h
  have h := h.2 (not_f ai)
  refine ⟨a3, a7.celli 4 rfl rfl, ?_⟩
  refine ⟨a0, a7.celli 0 rfl rfl, ?_⟩
  refine bif_of (fun ag => ?_) (fun ag => ?_)
  ·have h := h.1 (bne_t ag)
   refine bif_tt ag ?_
   have h := h ww19 aa
   exact h
  have h := h.2 (bne_f ag)
  refine ⟨a5, a6, a4, a7.celli 6 rfl rfl, ?_⟩
  refine bif_of (fun ak => ?_) (fun ak => ?_)
  ·have h := h.1 (of_decide_eq_true ak)
   have h := h ww19 aa
   exact h
  have h := h.2 (Int.not_lt.1 (of_decide_eq_false ak))
  refine ⟨a9, a7.celli 2 rfl rfl, ?_⟩
  refine ⟨a1, a7.celli 1 rfl rfl, ?_⟩
  have h := h ww19 aa
  exact h

theorem Q0L.go (a0 a2 a6 a8 a9 a1 : Int) (a4 : Option Addr) (a5 a3 : Nat) (a7 : Int) {R : RW} {w : World} (h : Q0L.N a0 a2 a6 a8 a9 a1 a4 a5 a3 a7 R w) : Calls Try.prog 30 #[.agg #[.int .i64 a0, .int .i64 a2, .int .u64 a6, .int .i64 a8, .int .i64 a9, .int .i64 a1, .slice a4 a5 a3, .int .u64 a7]] w fun e w' => ∃ v, e = .returned v ∧ R v w' := Q0L.ok a0 a2 a6 a8 a9 a1 a4 a5 a3 a7 (Q0L.up a0 a2 a6 a8 a9 a1 a4 a5 a3 a7 h)
theorem Q0L.run (a0 a2 a6 a8 a9 a1 : Int) (a4 : Option Addr) (a5 a3 : Nat) (a7 : Int) {V : Value} {Q : World → Prop} {w : World} (h : Q0L.N a0 a2 a6 a8 a9 a1 a4 a5 a3 a7 (fun v w' => v = V ∧ Q w') w) : Calls Try.prog 30 #[.agg #[.int .i64 a0, .int .i64 a2, .int .u64 a6, .int .i64 a8, .int .i64 a9, .int .i64 a1, .slice a4 a5 a3, .int .u64 a7]] w (Ret V Q) := (Q0L.go a0 a2 a6 a8 a9 a1 a4 a5 a3 a7 h).mono fun e w' ⟨v, he, hv, hq⟩ => ⟨by rw [he, hv], hq⟩

def Q0L.F (a0 a1 a5 a6 a4 a2 : Int) (a8 : Option Addr) (a3 a7 : Nat) (a9 : Int) : Bool :=
  if (Q0s.F a0 0 8) = false then
    false
  else
    if (Q0s.F a1 0 200) = false then
      false
    else
      if (Q0s.F a2 (-1) 20) = false then
        false
      else
        if (Q0T.F a6 a4) = false then
          false
        else
          if a4 ≠ a0 then
            false
          else
            if (a3 : Int) > 1100 then
              false
            else
              ((a5 == 0) == (a1 == 0))
theorem Q0L.pure (a1 a3 a6 a8 a9 a2 : Int) (a5 : Option Addr) (a0 a4 : Nat) (a7 : Int) {w : World} : Calls Try.prog 30 #[.agg #[.int .i64 a1, .int .i64 a3, .int .u64 a6, .int .i64 a8, .int .i64 a9, .int .i64 a2, .slice a5 a0 a4, .int .u64 a7]] w (Ret (.bool (Q0L.F a1 a3 a6 a8 a9 a2 a5 a0 a4 a7)) fun w' => Ext no w w') := by
  refine Q0L.run a1 a3 a6 a8 a9 a2 a5 a0 a4 a7 ?_
  unfold Q0L.N
  refine ⟨fun c0 => ?_, fun c0 => ?_⟩
  ·intro w' hx; exact ⟨by unfold Q0L.F; rw [if_pos c0], hx⟩
  ·refine ⟨fun c1 => ?_, fun c1 => ?_⟩
   ·intro w' hx; exact ⟨by unfold Q0L.F; rw [if_neg (by rw [c0]; decide), if_pos c1], hx⟩
   ·refine ⟨fun c2 => ?_, fun c2 => ?_⟩
    ·intro w' hx; exact ⟨by unfold Q0L.F; rw [if_neg (by rw [c0]; decide), if_neg (by rw [c1]; decide), if_pos c2], hx⟩
    ·refine ⟨fun c3 => ?_, fun c3 => ?_⟩
     ·intro w' hx; exact ⟨by unfold Q0L.F; rw [if_neg (by rw [c0]; decide), if_neg (by rw [c1]; decide), if_neg (by rw [c2]; decide), if_pos c3], hx⟩
     ·refine ⟨fun c4 => ?_, fun c4 => ?_⟩
      ·intro w' hx; exact ⟨by unfold Q0L.F; rw [if_neg (by rw [c0]; decide), if_neg (by rw [c1]; decide), if_neg (by rw [c2]; decide), if_neg (by rw [c3]; decide), if_pos c4], hx⟩
      ·refine ⟨fun c5 => ?_, fun c5 => ?_⟩
       ·intro w' hx; exact ⟨by unfold Q0L.F; rw [if_neg (by rw [c0]; decide), if_neg (by rw [c1]; decide), if_neg (by rw [c2]; decide), if_neg (by rw [c3]; decide), if_neg (not_not_intro c4), if_pos c5], hx⟩
       ·intro w' hx; exact ⟨by unfold Q0L.F; rw [if_neg (by rw [c0]; decide), if_neg (by rw [c1]; decide), if_neg (by rw [c2]; decide), if_neg (by rw [c3]; decide), if_neg (not_not_intro c4), if_neg (show ¬ ((a0 : Int) > 1100) from by omega)], hx⟩

structure Ent where
  w : Int
  i : Int
  pv : Int
  t : Int
  tw : Int
  ep : Int
  body : List UInt8
  sg : Int
deriving DecidableEq
def entV (e : Ent) (a : Option Addr) (c : Nat) : Value := .agg #[.int .i64 e.w, .int .i64 e.i, .int .u64 e.pv, .int .i64 e.t, .int .i64 e.tw, .int .i64 e.ep, .slice a e.body.length c, .int .u64 e.sg]
def Q1T (e : Ent) : Bool := decide (0 ≤ e.w ∧ e.w < 8 ∧ 0 ≤ e.i ∧ e.i < 200 ∧ -1 ≤ e.ep ∧ e.ep < 20 ∧ 0 < e.t ∧ e.t ≤ 1099511627776 ∧ e.tw = e.w ∧ e.body.length ≤ 1100 ∧ (e.pv = 0 ↔ e.i = 0))
theorem beq_dec (x y : Int) : ((x == 0) == (y == 0)) = decide (x = 0 ↔ y = 0) := by
  rw [Bool.eq_iff_iff, decide_eq_true_eq, beq_iff_eq, Bool.eq_iff_iff, beq_iff_eq, beq_iff_eq]
theorem Q6z (n a b : Int) : Q0s.F n a b = decide (a ≤ n ∧ n < b) := by
  unfold Q0s.F
  by_cases h : n ≥ a
  · rw [if_pos h, decide_eq_decide]; omega
  · rw [if_neg h, eq_comm, decide_eq_false_iff_not]; omega
theorem Q4k (t w : Int) : Q0T.F t w = decide (0 < t ∧ t ≤ 1099511627776 ∧ 0 ≤ w ∧ w < 8) := by
  unfold Q0T.F Q0S.F
  by_cases h : t > 0
  · rw [if_pos h]
    by_cases h1 : t ≤ 1099511627776
    · rw [if_pos h1]
      by_cases h2 : w ≥ 0
      · rw [if_pos h2, decide_eq_decide]; omega
      · rw [if_neg h2, eq_comm, decide_eq_false_iff_not]; omega
    · rw [if_neg h1, eq_comm, decide_eq_false_iff_not]; omega
  · rw [if_neg h, eq_comm, decide_eq_false_iff_not]; omega
theorem Q5J (e : Ent) (a : Option Addr) (c : Nat) : Q0L.F e.w e.i e.pv e.t e.tw e.ep a e.body.length c e.sg = Q1T e := by
  unfold Q0L.F Q1T
  rw [beq_dec]
  simp only [Q6z, Q4k, decide_eq_false_iff_not]
  rw [Bool.eq_iff_iff, decide_eq_true_eq]
  (repeat' split) <;> simp only [Bool.false_eq_true, decide_eq_true_eq, false_iff] <;> omega
def boundL (w i e : Int) : List UInt8 := numL w.toNat ++ numL i.toNat ++ numL (zig e)
/-! ### the plain law -/
theorem Q5W {t : Int} (h0 : -9223372036854775808 ≤ t) (h1 : t < 9223372036854775808) (r : List UInt8) : intR (numL (zig t) ++ r, 0) = (t, (r, 0)) := by
  unfold intR
  rw [W.numR_write (W.zig_lt h0 h1), W.unzig_zig]
theorem Q2P (e : Ent) : Q1T e = true ↔ (0 ≤ e.w ∧ e.w < 8 ∧ 0 ≤ e.i ∧ e.i < 200 ∧ -1 ≤ e.ep ∧ e.ep < 20 ∧ 0 < e.t ∧ e.t ≤ 1099511627776 ∧ e.tw = e.w ∧ e.body.length ≤ 1100 ∧ (e.pv = 0 ↔ e.i = 0)) := decide_eq_true_iff
open W (OwnB GivesW numR countR doneR zig unzig intR)
def Q1d.M (a0 a1 ab : Int) (R : RW) (w : World) : Prop :=
 Calls Try.prog 74 #[.slice none 0 0, .int .u64 (IntKind.u64.wrap (if (0 : Int) > a0 then 0 else a0))] w fun ae ah => ∃ (a7 : Option Addr) (a9 a8 : Nat), ae = .returned (.slice a7 a9 a8) ∧
 Calls Try.prog 74 #[.slice a7 a9 a8, .int .u64 (IntKind.u64.wrap (if (0 : Int) > a1 then 0 else a1))] ah fun af ag => ∃ (aa : Option Addr) (a6 a5 : Nat), af = .returned (.slice aa a6 a5) ∧
 Calls Try.prog 88 #[.slice aa a6 a5, .int .i64 ab] ag fun ad ac => ∃ (a2 : Option Addr) (a3 a4 : Nat), ad = .returned (.slice a2 a3 a4) ∧
 R (.slice a2 a3 a4) ac

theorem Q1d.ok (a0 a1 a2 : Int) {R : RW} {w : World} (h : Q1d.M a0 a1 a2 R w) : Calls Try.prog 65 #[.int .i64 a0, .int .i64 a1, .int .i64 a2] w fun e w' => ∃ v, e = .returned v ∧ R v w' :=
  Q0j follows (H := []) (args := [.int .i64 a0, .int .i64 a1, .int .i64 a2]) (cast (by kernel_rfl) h)

def Q1d.N (a0 a1 ab : Int) (R : RW) (w : World) : Prop :=
 Calls Try.prog 74 #[.slice none 0 0, .int .u64 (IntKind.u64.wrap (if (0 : Int) > a0 then 0 else a0))] w fun ae ah => ∃ (a7 : Option Addr) (a9 a8 : Nat), ae = .returned (.slice a7 a9 a8) ∧
 Calls Try.prog 74 #[.slice a7 a9 a8, .int .u64 (IntKind.u64.wrap (if (0 : Int) > a1 then 0 else a1))] ah fun af ag => ∃ (aa : Option Addr) (a6 a5 : Nat), af = .returned (.slice aa a6 a5) ∧
 Calls Try.prog 88 #[.slice aa a6 a5, .int .i64 ab] ag fun ad ac => ∃ (a2 : Option Addr) (a3 a4 : Nat), ad = .returned (.slice a2 a3 a4) ∧
 R (.slice a2 a3 a4) ac

theorem Q1d.up (a0 a1 a2 : Int) {R : RW} {w : World} (h : Q1d.N a0 a1 a2 R w) : Q1d.M a0 a1 a2 R w := by
  unfold Q1d.M
  unfold Q1d.N at h
  refine h.mono fun ae ah h => ?_
  obtain ⟨a8, aa, a9, he, h⟩ := h
  refine ⟨a8, aa, a9, he, ?_⟩
  refine h.mono fun af ag h => ?_
  obtain ⟨ab, a7, a6, he, h⟩ := h
  refine ⟨ab, a7, a6, he, ?_⟩
  refine h.mono fun ad ac h => ?_
  obtain ⟨a3, a4, a5, he, h⟩ := h
  refine ⟨a3, a4, a5, he, ?_⟩
  exact h

theorem Q1d.go (a0 a1 a2 : Int) {R : RW} {w : World} (h : Q1d.N a0 a1 a2 R w) : Calls Try.prog 65 #[.int .i64 a0, .int .i64 a1, .int .i64 a2] w fun e w' => ∃ v, e = .returned v ∧ R v w' := Q1d.ok a0 a1 a2 (Q1d.up a0 a1 a2 h)
theorem OwnB.up {N M : Nat} {w : World} {a : Option Addr} {c : Nat} {bs : List UInt8} (h : OwnB N w a c bs) (hM : M ≤ N) : OwnB M w a c bs := ⟨h.own, fun ad ha => ⟨Nat.le_trans hM (h.fr ad ha).1, (h.fr ad ha).2⟩⟩
theorem app {w0 wi w1 : World} {N : Nat} {a xa : Option Addr} {c xc : Nat} {l x : List UInt8} (hB : OwnB N wi a c l) (X : Ext no w0 wi) (h0 : w0.heap.size ≤ N) (hN : N ≤ wi.heap.size) (hx : Ext no wi w1) (hO : RowAt w1 xa (bytesV x)) (hl : l.length + x.length ≤ 100000000) :
    ∃ a' c' w', (Builtin.append_ #[25, 25] 25 #[.slice a l.length c, .slice xa x.length xc]).run Try.prog w1 = .ok (.slice a' (l ++ x).length c') w' ∧ OwnB N w' a' c' (l ++ x) ∧ Ext no w0 w' ∧ Ext (fun b => N ≤ b) w1 w' ∧ N ≤ w'.heap.size := by
  obtain ⟨a', c', w', hr, hO2, hx2⟩ := (hB.no hx).append (t := 25) (ty := 25) Try.underlying25 (Nat.le_trans hN hx.size) (xc := xc) hO hl
  exact ⟨a', c', w', hr, hO2, (X.trans hx).then hx2 fun b hb => .inr (Nat.le_trans h0 hb), hx2, Nat.le_trans hN (Nat.le_trans hx.size hx2.size)⟩
section
variable {w w' : World} {a : Option Addr} {c N p : Nat} {bs : List UInt8} {k : Int}
theorem Q3z {x y z : Int} (hx : x < 9223372036854775808) (hy : y < 9223372036854775808) (hz0 : -9223372036854775808 ≤ z) (hz : z < 9223372036854775808) :
    Calls Try.prog 65 #[.int .i64 x, .int .i64 y, .int .i64 z] w (fun e w' => ∃ a' c', e = .returned (.slice a' (boundL x y z).length c') ∧ OwnB w.heap.size w' a' c' (boundL x y z) ∧ Ext no w w') := by
  refine (Q1d.go x y z (R := fun v w' => ∃ a' c', v = (.slice a' (boundL x y z).length c') ∧ OwnB w.heap.size w' a' c' (boundL x y z) ∧ Ext no w w') ?_).mono fun x w' ⟨v, he, a, c, hv, hw⟩ => ⟨a, c, by rw [he, hv], hw⟩
  unfold Q1d.N
  have e1 : ∀ s : Int, s < 9223372036854775808 → IntKind.u64.wrap (if (0 : Int) > s then 0 else s) = ((s.toNat : Nat) : Int) := fun s hs => by split <;> rw [wu64 (by omega) (by omega)] <;> omega
  rw [e1 x hx, e1 y hy]
  have g1 := W.numL_le x.toNat; have g2 := W.numL_le y.toNat
  refine (W.Num_spec (bs := []) (RowAt.nil _ _) (by simp) (n := x.toNat) (by omega)).mono fun e w6 ⟨a1, c1, he, hO1, X6⟩ => ⟨a1, _, c1, he, ?_⟩
  refine (W.Num_spec hO1.row (by simp; omega) (n := y.toNat) (by omega)).mono fun e w9 ⟨a2, c2, he, hO2, X9⟩ => ⟨a2, _, c2, he, ?_⟩
  refine (W.Int_spec hO2.row (by simp; omega) hz0 hz).mono fun e w12 ⟨a3, c3, he, hO3, X12⟩ => ⟨a3, _, c3, he, a3, c3, ?_, ?_, (X6.trans X9).trans X12⟩
  · unfold boundL; simp
  · exact OwnB.up hO3 (X6.trans X9).size
/-! ### reading -/
end
open W (OwnB GivesW numR countR doneR zig unzig intR)
theorem litB {w w1 : World} {t e : TypeId} (hs : Try.prog.underlying t = some (.slice e)) (he : Try.prog.underlying e = some (.int .u8)) (bs : List UInt8) {q : Nat} (X : Ext no w w1) (hb : Blk w1 q e (bytesV bs)) (hq : w.heap.size ≤ q) :
    ∃ w2, (convert t t (.slice (some (blk q)) bs.length bs.length)).run Try.prog w1 = .ok (.slice (some (blk q)) bs.length bs.length) w2 ∧ RowAt w2 (some (blk q)) (bytesV bs) ∧ Ext no w w2 :=
  ⟨_, Q6n hs he hb, (RowAt.of_blk hb).freeze _ _, X.freeze (.inr hq) _⟩
section
variable {w w' : World} {a : Option Addr} {c N p : Nat} {bs : List UInt8} {k : Int}
end
open W (OwnB GivesW numR countR doneR zig unzig intR)
section
variable {w w' : World} {a : Option Addr} {c N p : Nat} {bs : List UInt8} {k : Int}
end
set_option maxRecDepth 100000
def Q0e.M (a9 a6 a5 : Int) (R : RW) (w : World) : Prop :=
 thenW (w.alloc (.cells #[.int .i64 a9, .int .i64 a6, .int .i64 a5] 87)) fun a3 =>
 ∃ (a7 : Int), a3.cell? ((blk w.heap.size).add 0) = some (.int .i64 a7) ∧
 bif decide (a7 ≥ 0) then (
 ∃ (a8 : Int), a3.cell? ((blk w.heap.size).add 0) = some (.int .i64 a8) ∧
 bif decide (a8 < 8) then (
 ∃ (a0 : Int), a3.cell? ((blk w.heap.size).add 1) = some (.int .i64 a0) ∧
 bif decide (a0 ≥ 0) then (
 ∃ (a2 : Int), a3.cell? ((blk w.heap.size).add 1) = some (.int .i64 a2) ∧
 bif decide (a2 < 200) then (
 ∃ (a4 : Int), a3.cell? ((blk w.heap.size).add 2) = some (.int .i64 a4) ∧
 bif decide (a4 ≥ 0) then (
 ∃ (a1 : Int), a3.cell? ((blk w.heap.size).add 2) = some (.int .i64 a1) ∧
 R (.bool (decide (a1 < 20))) a3) else (
 R (.bool false) a3)) else (
 R (.bool false) a3)) else (
 R (.bool false) a3)) else (
 R (.bool false) a3)) else (
 R (.bool false) a3)

theorem Q0e.ok (a2 a1 a0 : Int) {R : RW} {w : World} (h : Q0e.M a2 a1 a0 R w) : Calls Try.prog 27 #[.agg #[.int .i64 a2, .int .i64 a1, .int .i64 a0]] w fun e w' => ∃ v, e = .returned v ∧ R v w' :=
  Q0j follows (H := []) (args := [.agg #[.int .i64 a2, .int .i64 a1, .int .i64 a0]]) (cast (by kernel_rfl) h)

def Q0e.N (a3 a0 a1 : Int) (R : RW) (w : World) : Prop :=
 (a3 ≥ 0 →
 (a3 < 8 →
 (a0 ≥ 0 →
 (a0 < 200 →
 (a1 ≥ 0 →
 ∀ (a2 : World), Ext no w a2 →
 R (.bool (decide (a1 < 20))) a2) ∧
 (a1 < 0 →
 ∀ (a2 : World), Ext no w a2 →
 R (.bool false) a2)) ∧
 ((200 : Int) ≤ a0 →
 ∀ (a2 : World), Ext no w a2 →
 R (.bool false) a2)) ∧
 (a0 < 0 →
 ∀ (a2 : World), Ext no w a2 →
 R (.bool false) a2)) ∧
 ((8 : Int) ≤ a3 →
 ∀ (a2 : World), Ext no w a2 →
 R (.bool false) a2)) ∧
 (a3 < 0 →
 ∀ (a2 : World), Ext no w a2 →
 R (.bool false) a2)

theorem Q0e.up (a5 a1 a0 : Int) {R : RW} {w : World} (h : Q0e.N a5 a1 a0 R w) : Q0e.M a5 a1 a0 R w := by
  unfold Q0e.M
  unfold Q0e.N at h
  refine Q01 fun a2 e4 => ?_
  have a3 := Blk.of_new e4
  have a6 := ((Ext.refl no w)).size
  have a4 := (Ext.refl no w).x_alloc e4
  refine ⟨a5, a3.celli 0 rfl rfl, ?_⟩
  refine bif_fo (fun c5 => ?_) (fun c5 => ?_)
  ·have h := h.2 (Int.not_le.1 (of_decide_eq_false c5))
   have h := h a2 a4
   exact h
  have h := h.1 (of_decide_eq_true c5)
  refine ⟨a5, a3.celli 0 rfl rfl, ?_⟩
  refine bif_fo (fun c6 => ?_) (fun c6 => ?_)
  ·have h := h.2 (Int.not_lt.1 (of_decide_eq_false c6))
   have h := h a2 a4
   exact h
  have h := h.1 (of_decide_eq_true c6)
  refine ⟨a1, a3.celli 1 rfl rfl, ?_⟩
  refine bif_fo (fun c7 => ?_) (fun c7 => ?_)
  ·have h := h.2 (Int.not_le.1 (of_decide_eq_false c7))
   have h := h a2 a4
   exact h
  have h := h.1 (of_decide_eq_true c7)
  refine ⟨a1, a3.celli 1 rfl rfl, ?_⟩
  refine bif_fo (fun c8 => ?_) (fun c8 => ?_)
  ·have h := h.2 (Int.not_lt.1 (of_decide_eq_false c8))
   have h := h a2 a4
   exact h
  have h := h.1 (of_decide_eq_true c8)
  refine ⟨a0, a3.celli 2 rfl rfl, ?_⟩
  refine bif_fo (fun c9 => ?_) (fun c9 => ?_)
  ·have h := h.2 (Int.not_le.1 (of_decide_eq_false c9))
   have h := h a2 a4
   exact h
  have h := h.1 (of_decide_eq_true c9)
  refine ⟨a0, a3.celli 2 rfl rfl, ?_⟩
  have h := h a2 a4
  exact h

theorem Q0e.go (a2 a1 a0 : Int) {R : RW} {w : World} (h : Q0e.N a2 a1 a0 R w) : Calls Try.prog 27 #[.agg #[.int .i64 a2, .int .i64 a1, .int .i64 a0]] w fun e w' => ∃ v, e = .returned v ∧ R v w' := Q0e.ok a2 a1 a0 (Q0e.up a2 a1 a0 h)
theorem Q0e.run (a2 a1 a0 : Int) {V : Value} {Q : World → Prop} {w : World} (h : Q0e.N a2 a1 a0 (fun v w' => v = V ∧ Q w') w) : Calls Try.prog 27 #[.agg #[.int .i64 a2, .int .i64 a1, .int .i64 a0]] w (Ret V Q) := (Q0e.go a2 a1 a0 h).mono fun e w' ⟨v, he, hv, hq⟩ => ⟨by rw [he, hv], hq⟩

def Q0e.F (a2 a1 a0 : Int) : Bool :=
  if a2 ≥ 0 then
    if a2 < 8 then
      if a1 ≥ 0 then
        if a1 < 200 then
          if a0 ≥ 0 then
            (decide (a0 < 20))
          else
            false
        else
          false
      else
        false
    else
      false
  else
    false
theorem Q0e.pure (a2 a0 a1 : Int) {w : World} : Calls Try.prog 27 #[.agg #[.int .i64 a2, .int .i64 a0, .int .i64 a1]] w (Ret (.bool (Q0e.F a2 a0 a1)) fun w' => Ext no w w') := by
  refine Q0e.run a2 a0 a1 ?_
  unfold Q0e.N
  refine ⟨fun c0 => ?_, fun c0 => ?_⟩
  ·refine ⟨fun c1 => ?_, fun c1 => ?_⟩
   ·refine ⟨fun c2 => ?_, fun c2 => ?_⟩
    ·refine ⟨fun c3 => ?_, fun c3 => ?_⟩
     ·refine ⟨fun c4 => ?_, fun c4 => ?_⟩
      ·intro w' hx; exact ⟨by unfold Q0e.F; rw [if_pos c0, if_pos c1, if_pos c2, if_pos c3, if_pos c4], hx⟩
      ·intro w' hx; exact ⟨by unfold Q0e.F; rw [if_pos c0, if_pos c1, if_pos c2, if_pos c3, if_neg (show ¬ (a1 ≥ 0) from by omega)], hx⟩
     ·intro w' hx; exact ⟨by unfold Q0e.F; rw [if_pos c0, if_pos c1, if_pos c2, if_neg (show ¬ (a0 < 200) from by omega)], hx⟩
    ·intro w' hx; exact ⟨by unfold Q0e.F; rw [if_pos c0, if_pos c1, if_neg (show ¬ (a0 ≥ 0) from by omega)], hx⟩
   ·intro w' hx; exact ⟨by unfold Q0e.F; rw [if_pos c0, if_neg (show ¬ (a2 < 8) from by omega)], hx⟩
  ·intro w' hx; exact ⟨by unfold Q0e.F; rw [if_neg (show ¬ (a2 ≥ 0) from by omega)], hx⟩

def Q0G.M  (R : RW) (w : World) : Prop :=
 R (.int .i64 7) w

theorem Q0G.ok  {R : RW} {w : World} (h : Q0G.M  R w) : Calls Try.prog 32 #[] w fun e w' => ∃ v, e = .returned v ∧ R v w' :=
  Q0j follows (H := []) (args := []) (cast (by kernel_rfl) h)

def Q0G.N  (R : RW) (w : World) : Prop :=
 R (.int .i64 7) w

theorem Q0G.up  {R : RW} {w : World} (h : Q0G.N  R w) : Q0G.M  R w := by
  unfold Q0G.M
  unfold Q0G.N at h
  exact h

theorem Q0G.go  {R : RW} {w : World} (h : Q0G.N  R w) : Calls Try.prog 32 #[] w fun e w' => ∃ v, e = .returned v ∧ R v w' := Q0G.ok  (Q0G.up  h)
theorem Q0G.run  {V : Value} {Q : World → Prop} {w : World} (h : Q0G.N  (fun v w' => v = V ∧ Q w') w) : Calls Try.prog 32 #[] w (Ret V Q) := (Q0G.go  h).mono fun e w' ⟨v, he, hv, hq⟩ => ⟨by rw [he, hv], hq⟩

def Q0G.F  : Int :=
  7
theorem Q0G.pure  {w : World} : Calls Try.prog 32 #[] w (Ret (.int .i64 Q0G.F) fun w' => Ext no w w') := by
  refine Q0G.run ?_
  unfold Q0G.N
  exact ⟨by unfold Q0G.F; rfl, Ext.refl _ _⟩

abbrev Q0K.J1 (al : Int) (ad : Addr) (ae : Nat) (ak an : Array Value) (ai : Option Addr) (aj am : Nat) (R : RW) (a8 : World) : Prop :=
 ∃ (ac : Int), a8.cell? (ad.add 0) = some (.int .i64 ac) ∧
 ∃ (a3 : Int), a8.cell? (ad.add 1) = some (.int .i64 a3) ∧
 ∃ (a4 : Int), a8.cell? (ad.add 2) = some (.int .i64 a4) ∧
 Calls Try.prog 65 #[.int .i64 ac, .int .i64 a3, .int .i64 a4] a8 fun af aa => ∃ (a1 : Option Addr) (a0 a2 : Nat), af = .returned (.slice a1 a0 a2) ∧
 bif enters Try.prog ae then Calls Try.prog ae (ak.toList ++ ([.int .u64 al, .slice a1 a0 a2, .slice ai aj am] : List Value) ++ an.toList).toArray aa (fun ah ag => ∃ (a7 : Option Addr) (a5 a6 : Nat) (a9 : Int), ah = .returned (.tuple #[.slice a7 a5 a6, .int .i64 a9]) ∧
 R (.tuple #[.slice a7 a5 a6, .int .i64 a9]) ag) else (∃ (a7 : Option Addr) (a5 a6 : Nat) (a9 : Int) (ab : World), (Q1i ae (ak.toList ++ ([.int .u64 al, .slice a1 a0 a2, .slice ai aj am] : List Value) ++ an.toList).toArray).run Try.prog aa = .ok (.tuple #[.slice a7 a5 a6, .int .i64 a9]) ab ∧
 R (.tuple #[.slice a7 a5 a6, .int .i64 a9]) ab)

def Q0K.M (ad a3 a2 : Int) (a6 : Nat) (a4 a5 : Array Value) (r5 ab : Option Addr) (ae ac : Nat) (R : RW) (w : World) : Prop :=
 thenW (w.alloc (.cells #[.int .i64 ad, .int .i64 a3, .int .i64 a2] 87)) fun aa =>
 ∃ (a1 : Int), aa.cell? ((blk w.heap.size).add 2) = some (.int .i64 a1) ∧
 Calls Try.prog 64 #[.pointer r5, .int .i64 a1] aa fun a9 a7 => ∃ (a8 a0 : Int), a9 = .returned (.tuple #[.int .u64 a8, .int .i64 a0]) ∧
 bif a0 != 0 then (
 R (.tuple #[.slice none 0 0, .int .i64 a0]) a7) else (
 Q0K.J1 a8 (blk w.heap.size) a6 a4 a5 ab ae ac R a7)

theorem Q0K.ok (a7 a1 a0 : Int) (a4 : Nat) (a2 a3 : Array Value) (r5 a5 : Option Addr) (a8 a6 : Nat) {R : RW} {w : World} (h : Q0K.M a7 a1 a0 a4 a2 a3 r5 a5 a8 a6 R w) : Calls Try.prog 28 #[.agg #[.int .i64 a7, .int .i64 a1, .int .i64 a0], .func (.func a4) a2 a3, .pointer r5, .slice a5 a8 a6] w fun e w' => ∃ v, e = .returned v ∧ R v w' :=
  Q0j follows (H := []) (args := [.agg #[.int .i64 a7, .int .i64 a1, .int .i64 a0], .func (.func a4) a2 a3, .pointer r5, .slice a5 a8 a6]) (cast (by kernel_rfl) h)

def Q0K.N (am a6 a3 : Int) (a5 : Nat) (a7 a9 : Array Value) (r5 an : Option Addr) (ao al : Nat) (R : RW) (w : World) : Prop :=
 ∀ (ae : World) (p8 : Nat), Ext no w ae → Priv w ae [p8] →
 Calls Try.prog 64 #[.pointer r5, .int .i64 a3] ae fun ah a8 => ∃ (aa a4 : Int), ah = .returned (.tuple #[.int .u64 aa, .int .i64 a4]) ∧
 Keep [p8] ae a8 ∧
 (a4 ≠ 0 →
 R (.tuple #[.slice none 0 0, .int .i64 a4]) a8) ∧
 (a4 = 0 →
 Calls Try.prog 65 #[.int .i64 am, .int .i64 a6, .int .i64 a3] a8 fun aj ai => ∃ (a1 : Option Addr) (a0 a2 : Nat), aj = .returned (.slice a1 a0 a2) ∧
 enters Try.prog a5 = true ∧ Calls Try.prog a5 (a7.toList ++ ([.int .u64 aa, .slice a1 a0 a2, .slice an ao al] : List Value) ++ a9.toList).toArray ai (fun ag af => ∃ (ab : Option Addr) (ad ac : Nat) (ak : Int), ag = .returned (.tuple #[.slice ab ad ac, .int .i64 ak]) ∧
 R (.tuple #[.slice ab ad ac, .int .i64 ak]) af))

theorem Q0K.up (ac a1 a0 : Int) (a4 : Nat) (a5 a7 : Array Value) (r5 ah : Option Addr) (ai ag : Nat) {R : RW} {w : World} (h : Q0K.N ac a1 a0 a4 a5 a7 r5 ah ai ag R w) : Q0K.M ac a1 a0 a4 a5 a7 r5 ah ai ag R w := by
  unfold Q0K.M
  unfold Q0K.N at h
  refine Q01 fun ap e7 => ?_
  have a8 := Blk.of_new e7
  have am := ((Ext.refl no w)).size
  have ar := (Ext.refl no w).x_alloc e7
  refine ⟨a0, a8.celli 2 rfl rfl, ?_⟩
  have h := h ap (w.heap.size) ar (Priv.cons am a8.lt Priv.nil)
  refine h.mono fun ao al h => ?_
  obtain ⟨ab, a9, he, hk, h⟩ := h
  refine ⟨ab, a9, he, ?_⟩
  have a8 := hk.blk a8 (by simp)
  refine bif_of (fun aa => ?_) (fun aa => ?_)
  ·have h := h.1 (bne_t aa)
   exact h
  have h := h.2 (bne_f aa)
  unfold Q0K.J1
  refine ⟨ac, a8.celli 0 rfl rfl, ?_⟩
  refine ⟨a1, a8.celli 1 rfl rfl, ?_⟩
  refine ⟨a0, a8.celli 2 rfl rfl, ?_⟩
  refine h.mono fun au aq h => ?_
  obtain ⟨a3, a2, a6, he, h⟩ := h
  refine ⟨a3, a2, a6, he, ?_⟩
  obtain ⟨hen, h⟩ := h
  refine bif_tt hen ?_
  refine h.mono fun ak aj h => ?_
  obtain ⟨ad, af, ae, an, he, h⟩ := h
  refine ⟨ad, af, ae, an, he, ?_⟩
  exact h

theorem Q0K.go (a7 a1 a0 : Int) (a4 : Nat) (a2 a3 : Array Value) (r5 a5 : Option Addr) (a8 a6 : Nat) {R : RW} {w : World} (h : Q0K.N a7 a1 a0 a4 a2 a3 r5 a5 a8 a6 R w) : Calls Try.prog 28 #[.agg #[.int .i64 a7, .int .i64 a1, .int .i64 a0], .func (.func a4) a2 a3, .pointer r5, .slice a5 a8 a6] w fun e w' => ∃ v, e = .returned v ∧ R v w' := Q0K.ok a7 a1 a0 a4 a2 a3 r5 a5 a8 a6 (Q0K.up a7 a1 a0 a4 a2 a3 r5 a5 a8 a6 h)
def Q1a.M (o1 r2 : Option Addr) (am a8 ab : Int) (aa : Option Addr) (ad ae : Nat) (R : RW) (w : World) : Prop :=
 thenW (w.alloc (.cells #[.int .i64 0, .int .i64 0, .int .i64 0] 87)) fun al =>
 putsK al (blk w.heap.size) [.int .i64 am, .int .i64 a8, .int .i64 ab] 0 fun aj =>
 ∃ (ak a3 a1 : Int), cellsAt aj (blk w.heap.size) [.int .i64 ak, .int .i64 a3, .int .i64 a1] 0 ∧
 Calls Try.prog 27 #[.agg #[.int .i64 ak, .int .i64 a3, .int .i64 a1]] aj fun ag ac => ∃ (a4 : Bool), ag = .returned (.bool a4) ∧
 bif !a4 then (
 R (.tuple #[.slice none 0 0, .int .i64 1]) ac) else (
 ∃ (af a2 a0 : Int), cellsAt ac (blk w.heap.size) [.int .i64 af, .int .i64 a2, .int .i64 a0] 0 ∧
 Calls Try.prog 28 #[.agg #[.int .i64 af, .int .i64 a2, .int .i64 a0], .func (.func 29) #[.pointer o1] #[], .pointer r2, .slice aa ad ae] ac fun ah ai => ∃ (a7 : Option Addr) (a5 a6 : Nat) (a9 : Int), ah = .returned (.tuple #[.slice a7 a5 a6, .int .i64 a9]) ∧
 R (.tuple #[.slice a7 a5 a6, .int .i64 a9]) ai)

theorem Q1a.ok (o1 r2 : Option Addr) (a5 a0 a2 : Int) (a4 : Option Addr) (a1 a3 : Nat) {R : RW} {w : World} (h : Q1a.M o1 r2 a5 a0 a2 a4 a1 a3 R w) : Calls Try.prog 8 #[.pointer o1, .pointer r2, .int .i64 a5, .int .i64 a0, .int .i64 a2, .slice a4 a1 a3] w fun e w' => ∃ v, e = .returned v ∧ R v w' :=
  Q0j follows (H := []) (args := [.pointer o1, .pointer r2, .int .i64 a5, .int .i64 a0, .int .i64 a2, .slice a4 a1 a3]) (cast (by kernel_rfl) h)

def Q1a.N (o1 r2 : Option Addr) (ab a0 a1 : Int) (a8 : Option Addr) (a6 a7 : Nat) (R : RW) (w : World) : Prop :=
 ((Q0e.F ab a0 a1) = false →
 ∀ (a9 : World), Ext no w a9 →
 R (.tuple #[.slice none 0 0, .int .i64 1]) a9) ∧
 ((Q0e.F ab a0 a1) = true →
 ∀ (a9 : World), Ext no w a9 →
 Calls Try.prog 28 #[.agg #[.int .i64 ab, .int .i64 a0, .int .i64 a1], .func (.func 29) #[.pointer o1] #[], .pointer r2, .slice a8 a6 a7] a9 fun aa ac => ∃ (a4 : Option Addr) (a3 a2 : Nat) (a5 : Int), aa = .returned (.tuple #[.slice a4 a3 a2, .int .i64 a5]) ∧
 R (.tuple #[.slice a4 a3 a2, .int .i64 a5]) ac)

theorem Q1a.up (o1 r2 : Option Addr) (a7 a0 a1 : Int) (a2 : Option Addr) (a3 a4 : Nat) {R : RW} {w : World} (h : Q1a.N o1 r2 a7 a0 a1 a2 a3 a4 R w) : Q1a.M o1 r2 a7 a0 a1 a2 a3 a4 R w := by
  unfold Q1a.M
  unfold Q1a.N at h
  refine Q01 fun aj e7 => ?_
  have a5 := Blk.of_new e7
  have ad := ((Ext.refl no w)).size
  have ah := (Ext.refl no w).x_alloc e7
  refine Q0o (k := 0) (j := 0) a5 (Nat.le_of_ble_eq_true rfl) fun ae X8 b8 => ?_
  have af := ah.x_puts X8 (.inr ad)
  have a5 : Blk ae w.heap.size 87 [.int .i64 a7, .int .i64 a0, .int .i64 a1] := b8
  refine ⟨a7, a0, a1, ⟨a5.celli 0 rfl rfl, a5.celli 1 rfl rfl, a5.celli 2 rfl rfl, trivial⟩, ?_⟩
  refine (Q0e.pure a7 a0 a1).mono fun ee ww9 ⟨he, hxx⟩ => ⟨(Q0e.F a7 a0 a1), he, ?_⟩
  have ac := af.trans hxx
  have a5 := a5.ext hxx id
  refine bif_of (fun ab => ?_) (fun ab => ?_)
  ·have h := h.1 (not_t ab)
   have h := h ww9 ac
   exact h
  have h := h.2 (not_f ab)
  refine ⟨a7, a0, a1, ⟨a5.celli 0 rfl rfl, a5.celli 1 rfl rfl, a5.celli 2 rfl rfl, trivial⟩, ?_⟩
  have h := h ww9 ac
  refine h.mono fun ai ag h => ?_
  obtain ⟨a9, a8, a6, aa, he, h⟩ := h
  refine ⟨a9, a8, a6, aa, he, ?_⟩
  exact h

theorem Q1a.go (o1 r2 : Option Addr) (a5 a0 a2 : Int) (a4 : Option Addr) (a1 a3 : Nat) {R : RW} {w : World} (h : Q1a.N o1 r2 a5 a0 a2 a4 a1 a3 R w) : Calls Try.prog 8 #[.pointer o1, .pointer r2, .int .i64 a5, .int .i64 a0, .int .i64 a2, .slice a4 a1 a3] w fun e w' => ∃ v, e = .returned v ∧ R v w' := Q1a.ok o1 r2 a5 a0 a2 a4 a1 a3 (Q1a.up o1 r2 a5 a0 a2 a4 a1 a3 h)
def Q18.M (o1 r2 : Option Addr) (ah ao av ax ay ap : Int) (ar : Option Addr) (an aq : Nat) (aw : Int) (R : RW) (w : World) : Prop :=
 thenW (w.alloc (.cells #[.int .i64 ah, .int .i64 ao, .int .u64 av, .int .i64 ax, .int .i64 ay, .int .i64 ap, .slice ar an aq, .int .u64 aw] 42)) fun az =>
 ∃ (a0 a2 ab ai ak a1 : Int) (a3 : Option Addr) (a6 a4 : Nat) (al : Int), cellsAt az (blk w.heap.size) [.int .i64 a0, .int .i64 a2, .int .u64 ab, .int .i64 ai, .int .i64 ak, .int .i64 a1, .slice a3 a6 a4, .int .u64 al] 0 ∧
 Calls Try.prog 30 #[.agg #[.int .i64 a0, .int .i64 a2, .int .u64 ab, .int .i64 ai, .int .i64 ak, .int .i64 a1, .slice a3 a6 a4, .int .u64 al]] az fun b0 a5 => ∃ (ac : Bool), b0 = .returned (.bool ac) ∧
 bif !ac then (
 R (.tuple #[.slice none 0 0, .int .i64 1]) a5) else (
 ∃ (af : Int), a5.cell? ((blk w.heap.size).add 5) = some (.int .i64 af) ∧
 bif decide (af < 0) then (
 R (.tuple #[.slice none 0 0, .int .i64 10]) a5) else (
 ∃ (a7 : Int), a5.cell? ((blk w.heap.size).add 0) = some (.int .i64 a7) ∧
 ∃ (a9 : Int), a5.cell? ((blk w.heap.size).add 1) = some (.int .i64 a9) ∧
 ∃ (aa : Int), a5.cell? ((blk w.heap.size).add 5) = some (.int .i64 aa) ∧
 ∃ (a8 : Option Addr) (ad ae : Nat), a5.cell? ((blk w.heap.size).add 6) = some (.slice a8 ad ae) ∧
 Calls Try.prog 28 #[.agg #[.int .i64 a7, .int .i64 a9, .int .i64 aa], .func (.func 31) #[.pointer o1] #[], .pointer r2, .slice a8 ad ae] a5 fun b1 b2 => ∃ (am : Option Addr) (ag aj : Nat) (au : Int), b1 = .returned (.tuple #[.slice am ag aj, .int .i64 au]) ∧
 R (.tuple #[.slice am ag aj, .int .i64 au]) b2))

theorem Q18.ok (o1 r2 : Option Addr) (a0 a3 a6 a8 a9 a5 : Int) (a4 : Option Addr) (a2 a1 : Nat) (a7 : Int) {R : RW} {w : World} (h : Q18.M o1 r2 a0 a3 a6 a8 a9 a5 a4 a2 a1 a7 R w) : Calls Try.prog 9 #[.pointer o1, .pointer r2, .agg #[.int .i64 a0, .int .i64 a3, .int .u64 a6, .int .i64 a8, .int .i64 a9, .int .i64 a5, .slice a4 a2 a1, .int .u64 a7]] w fun e w' => ∃ v, e = .returned v ∧ R v w' :=
  Q0j follows (H := []) (args := [.pointer o1, .pointer r2, .agg #[.int .i64 a0, .int .i64 a3, .int .u64 a6, .int .i64 a8, .int .i64 a9, .int .i64 a5, .slice a4 a2 a1, .int .u64 a7]]) (cast (by kernel_rfl) h)

def Q18.N (o1 r2 : Option Addr) (a1 a4 a8 ac ad a0 : Int) (a5 : Option Addr) (a3 a2 : Nat) (a9 : Int) (R : RW) (w : World) : Prop :=
 ((Q0L.F a1 a4 a8 ac ad a0 a5 a3 a2 a9) = false →
 ∀ (a6 : World), Ext no w a6 →
 R (.tuple #[.slice none 0 0, .int .i64 1]) a6) ∧
 ((Q0L.F a1 a4 a8 ac ad a0 a5 a3 a2 a9) = true →
 (a0 < 0 →
 ∀ (a6 : World), Ext no w a6 →
 R (.tuple #[.slice none 0 0, .int .i64 10]) a6) ∧
 ((0 : Int) ≤ a0 →
 ∀ (a6 : World), Ext no w a6 →
 Calls Try.prog 28 #[.agg #[.int .i64 a1, .int .i64 a4, .int .i64 a0], .func (.func 31) #[.pointer o1] #[], .pointer r2, .slice a5 a3 a2] a6 fun ag af => ∃ (ab : Option Addr) (a7 aa : Nat) (ae : Int), ag = .returned (.tuple #[.slice ab a7 aa, .int .i64 ae]) ∧
 R (.tuple #[.slice ab a7 aa, .int .i64 ae]) af))

theorem Q18.up (o1 r2 : Option Addr) (a0 a3 a6 a8 a9 a1 : Int) (a5 : Option Addr) (a2 a4 : Nat) (a7 : Int) {R : RW} {w : World} (h : Q18.N o1 r2 a0 a3 a6 a8 a9 a1 a5 a2 a4 a7 R w) : Q18.M o1 r2 a0 a3 a6 a8 a9 a1 a5 a2 a4 a7 R w := by
  unfold Q18.M
  unfold Q18.N at h
  refine Q01 fun am aj => ?_
  have aa := Blk.of_new aj
  have an := ((Ext.refl no w)).size
  have ai := (Ext.refl no w).x_alloc aj
  refine ⟨a0, a3, a6, a8, a9, a1, a5, a2, a4, a7, ⟨aa.celli 0 rfl rfl, aa.celli 1 rfl rfl, aa.celli 2 rfl rfl, aa.celli 3 rfl rfl, aa.celli 4 rfl rfl, aa.celli 5 rfl rfl, aa.celli 6 rfl rfl, aa.celli 7 rfl rfl, trivial⟩, ?_⟩
  refine (Q0L.pure a0 a3 a6 a8 a9 a1 a5 a2 a4 a7).mono fun ee ww12 ⟨he, hxx⟩ => ⟨(Q0L.F a0 a3 a6 a8 a9 a1 a5 a2 a4 a7), he, ?_⟩
  have ad := ai.trans hxx
  have aa := aa.ext hxx id
  refine bif_of (fun ag => ?_) (fun ag => ?_)
  ·have h := h.1 (not_t ag)
   have h := h ww12 ad
   exact h
  have h := h.2 (not_f ag)
  refine ⟨a1, aa.celli 5 rfl rfl, ?_⟩
  refine bif_of (fun ah => ?_) (fun ah => ?_)
  ·have h := h.1 (of_decide_eq_true ah)
   have h := h ww12 ad
   exact h
  have h := h.2 (Int.not_lt.1 (of_decide_eq_false ah))
  refine ⟨a0, aa.celli 0 rfl rfl, ?_⟩
  refine ⟨a3, aa.celli 1 rfl rfl, ?_⟩
  refine ⟨a1, aa.celli 5 rfl rfl, ?_⟩
  refine ⟨a5, a2, a4, aa.celli 6 rfl rfl, ?_⟩
  have h := h ww12 ad
  refine h.mono fun ak al h => ?_
  obtain ⟨ae, ab, ac, af, he, h⟩ := h
  refine ⟨ae, ab, ac, af, he, ?_⟩
  exact h

theorem Q18.go (o1 r2 : Option Addr) (a0 a3 a6 a8 a9 a5 : Int) (a4 : Option Addr) (a2 a1 : Nat) (a7 : Int) {R : RW} {w : World} (h : Q18.N o1 r2 a0 a3 a6 a8 a9 a5 a4 a2 a1 a7 R w) : Calls Try.prog 9 #[.pointer o1, .pointer r2, .agg #[.int .i64 a0, .int .i64 a3, .int .u64 a6, .int .i64 a8, .int .i64 a9, .int .i64 a5, .slice a4 a2 a1, .int .u64 a7]] w fun e w' => ∃ v, e = .returned v ∧ R v w' := Q18.ok o1 r2 a0 a3 a6 a8 a9 a5 a4 a2 a1 a7 (Q18.up o1 r2 a0 a3 a6 a8 a9 a5 a4 a2 a1 a7 h)
def Q12.M (a4 aa ab ah af a9 : Int) (a7 : Option Addr) (a8 a6 : Nat) (ai : Int) (R : RW) (w : World) : Prop :=
 thenW (w.alloc (.cells #[.int .i64 a4, .int .i64 aa, .int .u64 ab, .int .i64 ah, .int .i64 af, .int .i64 a9, .slice a7 a8 a6, .int .u64 ai] 42)) fun ao =>
 Calls Try.prog 32 #[] ao fun al aj => ∃ (a0 : Int), al = .returned (.int .i64 a0) ∧
 ∃ (I0 : Nat → List Value → World → Prop) (ap : Nat), I0 ap [.int .i64 0] aj ∧ ∀ (an : Nat) (ac : World) (ae : Int), I0 an [.int .i64 ae] ac →
 bif decide (ae < a0) then (
 thenW (ac.drew) fun ag =>
 ∃ (a3 : Option Addr) (a1 a2 : Nat), ag.cell? ((blk w.heap.size).add 6) = some (.slice a3 a1 a2) ∧
 Calls Try.prog 33 #[.int .i64 ae] ag fun ak ad => ∃ (a5 : Int), ak = .returned (.int .i64 a5) ∧
 ad.cell? ((blk w.heap.size).add 6) = some (.slice a3 a1 a2) ∧
 bif (a1 : Int) == (IntKind.i64.wrap ((8 : Int) + a5)) then (
 R (.int .i64 ae) ad) else (
 ∃ am, am < an ∧ I0 am [.int .i64 (IntKind.i64.wrap (ae + 1))] ad)) else (
 R (.int .i64 (-1)) ac)

theorem Q12.ok (a0 a2 a6 a8 a9 a1 : Int) (a4 : Option Addr) (a5 a3 : Nat) (a7 : Int) {R : RW} {w : World} (h : Q12.M a0 a2 a6 a8 a9 a1 a4 a5 a3 a7 R w) : Calls Try.prog 12 #[.agg #[.int .i64 a0, .int .i64 a2, .int .u64 a6, .int .i64 a8, .int .i64 a9, .int .i64 a1, .slice a4 a5 a3, .int .u64 a7]] w fun e w' => ∃ v, e = .returned v ∧ R v w' :=
  Q0j follows (H := [(0, [1, 4], [(5, (.one (.int .i64)))])]) (args := [.agg #[.int .i64 a0, .int .i64 a2, .int .u64 a6, .int .i64 a8, .int .i64 a9, .int .i64 a1, .slice a4 a5 a3, .int .u64 a7]]) (cast (by kernel_rfl) h)

def Q12.N (a7 ab ad ah af aa : Int) (a9 : Option Addr) (a1 a8 : Nat) (ai : Int) (R : RW) (w : World) : Prop :=
 ∀ (a5 : World) (ae : Nat), Ext no w a5 → Priv w a5 [ae] →
 ∃ (I0 : Nat → List Value → World → Prop) (ak : Nat), I0 ak [.int .i64 0] a5 ∧ ∀ (aj : Nat) (a4 : World) (a2 : Int), I0 aj [.int .i64 a2] a4 →
 (a2 < Q0G.F →
 ∀ (a6 : World), Ext no a4 a6 →
 Calls Try.prog 33 #[.int .i64 a2] a6 fun ac a3 => ∃ (a0 : Int), ac = .returned (.int .i64 a0) ∧
 Keep [ae] a6 a3 ∧
 (-9223372036854775808 : Int) ≤ ((8 : Int) + a0) ∧ ((8 : Int) + a0) < 9223372036854775808 ∧
 ((a1 : Int) = ((8 : Int) + a0) →
 R (.int .i64 a2) a3) ∧
 ((a1 : Int) ≠ ((8 : Int) + a0) →
 (-9223372036854775808 : Int) ≤ (a2 + 1) ∧ (a2 + 1) < 9223372036854775808 ∧
 ∃ ag, ag < aj ∧ I0 ag [.int .i64 (a2 + 1)] a3)) ∧
 (Q0G.F ≤ a2 →
 R (.int .i64 (-1)) a4)

theorem Q12.up (a3 a5 a6 a9 a8 a4 : Int) (a1 : Option Addr) (a2 a0 : Nat) (aa : Int) {R : RW} {w : World} (h : Q12.N a3 a5 a6 a9 a8 a4 a1 a2 a0 aa R w) : Q12.M a3 a5 a6 a9 a8 a4 a1 a2 a0 aa R w := by
  unfold Q12.M
  unfold Q12.N at h
  refine Q01 fun av e9 => ?_
  have a7 := Blk.of_new e9
  have ap := ((Ext.refl no w)).size
  have ar := (Ext.refl no w).x_alloc e9
  refine (Q0G.pure).mono fun ee ww10 ⟨he, hxx⟩ => ⟨(Q0G.F), he, ?_⟩
  have ah := ar.trans hxx
  have a7 := a7.ext hxx id
  have h := h ww10 (w.heap.size) ah (Priv.cons ap a7.lt Priv.nil)
  obtain ⟨I0, an, h0, h⟩ := h
  refine ⟨fun k vs ww => Blk ww w.heap.size 42 [.int .i64 a3, .int .i64 a5, .int .u64 a6, .int .i64 a9, .int .i64 a8, .int .i64 a4, .slice a1 a2 a0, .int .u64 aa] ∧ I0 k vs ww, an, ⟨a7, h0⟩, fun au ac aq hI => ?_⟩
  obtain ⟨a7, hI⟩ := hI
  have h := h au ac aq hI
  refine bif_fo (fun ad => ?_) (fun ad => ?_)
  ·have h := h.2 (Int.not_lt.1 (of_decide_eq_false ad))
   exact h
  have h := h.1 (of_decide_eq_true ad)
  refine Q01 fun af ak => ?_
  have ai := (Ext.refl no ac).x_drew ak
  have a7 := a7.x_drew ak
  refine ⟨a1, a2, a0, a7.celli 6 rfl rfl, ?_⟩
  have h := h af ai
  refine h.mono fun am al h => ?_
  obtain ⟨ab, he, hk, h⟩ := h
  refine ⟨ab, he, ?_⟩
  have a7 := hk.blk a7 (by simp)
  refine ⟨a7.celli 6 rfl rfl, ?_⟩
  obtain ⟨ae, ag, h⟩ := h
  try rw [w64 ae ag]
  refine bif_of (fun aj => ?_) (fun aj => ?_)
  ·have h := h.1 (beq_t aj)
   exact h
  have h := h.2 (beq_f aj)
  obtain ⟨ae, ag, h⟩ := h
  try rw [w64 ae ag]
  obtain ⟨ao, hk, h⟩ := h
  exact ⟨ao, hk, a7, h⟩

theorem Q12.go (a0 a2 a6 a8 a9 a1 : Int) (a4 : Option Addr) (a5 a3 : Nat) (a7 : Int) {R : RW} {w : World} (h : Q12.N a0 a2 a6 a8 a9 a1 a4 a5 a3 a7 R w) : Calls Try.prog 12 #[.agg #[.int .i64 a0, .int .i64 a2, .int .u64 a6, .int .i64 a8, .int .i64 a9, .int .i64 a1, .slice a4 a5 a3, .int .u64 a7]] w fun e w' => ∃ v, e = .returned v ∧ R v w' := Q12.ok a0 a2 a6 a8 a9 a1 a4 a5 a3 a7 (Q12.up a0 a2 a6 a8 a9 a1 a4 a5 a3 a7 h)
abbrev Q05.J1 (bi : Int) (bj b6 : Addr) (bh : Int) (I0 : Nat → List Value → World → Prop) (b2 : Addr) (bg : Nat) (R : RW) (bd : World) : Prop :=
 thenW (bd.drew) fun ax =>
 ∃ (b9 : Option Addr), ax.cell? (b2.add 2) = some (.pointer b9) ∧
 ∃ (aq av a1 ae : Int) (a2 : Option Addr) (a3 a7 : Nat) (af : Option Addr) (an am : Nat), cellsAt ax b6 [.int .i64 aq, .int .i64 av, .int .u64 a1, .int .i64 ae, .slice a2 a3 a7, .slice af an am] 0 ∧
 Calls Try.prog 25 #[.pointer b9, .agg #[.int .i64 aq, .int .i64 av, .int .u64 a1, .int .i64 ae, .slice a2 a3 a7, .slice af an am]] ax fun b3 ba => ∃ (az : Int), b3 = .returned (.int .i64 az) ∧
 thenW (ba.drew) fun ay =>
 ∃ (bb : Option Addr), ay.cell? (b2.add 3) = some (.pointer bb) ∧
 ∃ (ak aw a5 ad : Int) (aa : Option Addr) (a8 a0 : Nat) (aj : Option Addr) (ag ai : Nat), cellsAt ay b6 [.int .i64 ak, .int .i64 aw, .int .u64 a5, .int .i64 ad, .slice aa a8 a0, .slice aj ag ai] 0 ∧
 Calls Try.prog 25 #[.pointer bb, .agg #[.int .i64 ak, .int .i64 aw, .int .u64 a5, .int .i64 ad, .slice aa a8 a0, .slice aj ag ai]] ay fun b7 b5 => ∃ (b0 : Int), b7 = .returned (.int .i64 b0) ∧
 thenW (b5.drew) fun au =>
 ∃ (b4 : Option Addr), au.cell? (b2.add 4) = some (.pointer b4) ∧
 ∃ (b8 : Option Addr), au.cell? (b2.add 1) = some (.pointer b8) ∧
 ∃ (ah ar ab ac : Int) (a4 : Option Addr) (a6 a9 : Nat) (ao : Option Addr) (ap al : Nat), cellsAt au bj [.int .i64 ah, .int .i64 ar, .int .u64 ab, .int .i64 ac, .slice a4 a6 a9, .slice ao ap al] 0 ∧
 Calls Try.prog 26 #[.pointer b4, .pointer b8, .agg #[.int .i64 ah, .int .i64 ar, .int .u64 ab, .int .i64 ac, .slice a4 a6 a9, .slice ao ap al]] au fun bc bf => ∃ (b1 : Int), bc = .returned (.int .i64 b1) ∧
 ∃ be, be < bg ∧ I0 be [.int .u64 bi, .int .i64 (IntKind.i64.wrap (bh + 1))] bf

abbrev Q05.J2 (ac af : Addr) (ag : Int) (ak al : Addr) (ai : Int) (I0 : Nat → List Value → World → Prop) (aj : Addr) (ah : Nat) (ad ab : World) (R : RW) (ae : World) : Prop :=
 thenW (ae.drew) fun a6 =>
 ∃ (a7 : Option Addr) (a5 a8 : Nat) (a1 : Int), cellsAt a6 af [.slice a7 a5 a8, .int .i64 a1] 0 ∧
 ∃ (a3 : Option Addr) (a4 a2 : Nat) (a0 : Int), cellsAt a6 ac [.slice a3 a4 a2, .int .i64 a0] 0 ∧
 putsK a6 (blk ad.heap.size) [.slice a7 a5 a8, .int .i64 a1] 0 fun a9 =>
 cellsAt a9 ac [.slice a3 a4 a2, .int .i64 a0] 0 ∧
 putsK a9 (blk ab.heap.size) [.slice a3 a4 a2, .int .i64 a0] 0 fun aa =>
 Q05.J1 ag ak al ai I0 aj ah R aa

abbrev Q05.J3 (bd : Addr) (bk : Int) (bg : Addr) (bh : Int) (I0 : Nat → List Value → World → Prop) (bj : Addr) (bi : Nat) (b7 b5 : World) (R : RW) (av : World) : Prop :=
 ∃ (b0 : Option Addr) (b1 aw : Nat) (a9 : Int), cellsAt av (blk b7.heap.size) [.slice b0 b1 aw, .int .i64 a9] 0 ∧
 ∃ (ae ao a4 aa : Int) (a3 : Option Addr) (a6 a2 : Nat) (ak : Option Addr) (aj ac : Nat), cellsAt av bg [.int .i64 ae, .int .i64 ao, .int .u64 a4, .int .i64 aa, .slice a3 a6 a2, .slice ak aj ac] 0 ∧
 Calls Try.prog 23 #[.agg #[.slice b0 b1 aw, .int .i64 a9], .agg #[.int .i64 ae, .int .i64 ao, .int .u64 a4, .int .i64 aa, .slice a3 a6 a2, .slice ak aj ac]] av fun bb az => ∃ (b4 : Option Addr) (ba b6 : Nat) (ah ad : Int), bb = .returned (.tuple #[.agg #[.slice b4 ba b6, .int .i64 ah], .int .i64 ad]) ∧
 thenW (az.alloc (.cells #[.slice none 0 0, .int .i64 0] 64)) fun bf =>
 putsK bf (blk az.heap.size) [.slice b4 ba b6, .int .i64 ah] 0 fun ar =>
 ∃ (aq : Option Addr) (b2 ax : Nat) (a8 : Int), cellsAt ar (blk b5.heap.size) [.slice aq b2 ax, .int .i64 a8] 0 ∧
 ∃ (ag ap a1 ab : Int) (a7 : Option Addr) (a0 a5 : Nat) (an : Option Addr) (am ai : Nat), cellsAt ar bd [.int .i64 ag, .int .i64 ap, .int .u64 a1, .int .i64 ab, .slice a7 a0 a5, .slice an am ai] 0 ∧
 Calls Try.prog 24 #[.agg #[.slice aq b2 ax, .int .i64 a8], .agg #[.int .i64 ag, .int .i64 ap, .int .u64 a1, .int .i64 ab, .slice a7 a0 a5, .slice an am ai]] ar fun be ay => ∃ (b9 : Option Addr) (b8 b3 : Nat) (al af : Int), be = .returned (.tuple #[.agg #[.slice b9 b8 b3, .int .i64 al], .int .i64 af]) ∧
 thenW (ay.alloc (.cells #[.slice none 0 0, .int .i64 0] 68)) fun bc =>
 putsK bc (blk ay.heap.size) [.slice b9 b8 b3, .int .i64 al] 0 fun au =>
 bif ad != 0 then (
 R (.pointer none) au) else (
 bif af != 0 then (
 R (.pointer none) au) else (
 Q05.J2 (blk ay.heap.size) (blk az.heap.size) bk bd bg bh I0 bj bi b7 b5 R au))

abbrev Q05.J4 (a7 : Addr) (a9 a4 : Int) (a3 : Addr) (a5 : Int) (I0 : Nat → List Value → World → Prop) (a8 : Addr) (a6 : Nat) (a1 a2 : World) (R : RW) (a0 : World) : Prop :=
 bif a9 != 0 then (
 R (.pointer none) a0) else (
 Q05.J3 a7 a4 a3 a5 I0 a8 a6 a1 a2 R a0)

abbrev Q05.J5 (b2 bc : Int) (b9 : Addr) (b1 b5 : Int) (I0 : Nat → List Value → World → Prop) (az : Addr) (b8 : Nat) (b0 aj : World) (R : RW) (bb : World) : Prop :=
 thenW (bb.drew) fun a5 =>
 ∃ (ay : Option Addr), a5.cell? (az.add 1) = some (.pointer ay) ∧
 ∃ (aa : Option Addr) (ab ac : Nat) (a0 : Int), cellsAt a5 (blk aj.heap.size) [.slice aa ab ac, .int .i64 a0] 0 ∧
 (Calls Try.prog 22 #[.pointer ay, .agg #[.slice aa ab ac, .int .i64 a0], .int .u64 b1] a5 fun b3 au => ∃ (al ax a4 ae : Int) (a2 : Option Addr) (a8 a1 : Nat) (ak : Option Addr) (af ai : Nat) (aq ap : Int), b3 = .returned (.tuple #[.agg #[.int .i64 al, .int .i64 ax, .int .u64 a4, .int .i64 ae, .slice a2 a8 a1, .slice ak af ai], .int .u64 aq, .int .i64 ap]) ∧
 thenW (au.alloc (.cells #[.int .i64 0, .int .i64 0, .int .u64 0, .int .i64 0, .slice none 0 0, .slice none 0 0] 77)) fun b7 =>
 putsK b7 (blk au.heap.size) [.int .i64 al, .int .i64 ax, .int .u64 a4, .int .i64 ae, .slice a2 a8 a1, .slice ak af ai] 0 fun b4 =>
 Q05.J4 (blk au.heap.size) b2 bc b9 b5 I0 az b8 b0 aj R b4) ∧
 (thenW (a5.alloc (.cells #[.int .i64 0, .int .i64 0, .int .u64 0, .int .i64 0, .slice none 0 0, .slice none 0 0] 77)) fun av =>
 cellsAt av (blk aj.heap.size) [.slice aa ab ac, .int .i64 a0] 0 ∧
 av.cell? (az.add 1) = some (.pointer ay) ∧
 Calls Try.prog 22 #[.pointer ay, .agg #[.slice aa ab ac, .int .i64 a0], .int .u64 b1] av fun ba bd => ∃ (am aw a3 ad : Int) (a6 : Option Addr) (a7 a9 : Nat) (ah : Option Addr) (an ag : Nat) (ao ar : Int), ba = .returned (.tuple #[.agg #[.int .i64 am, .int .i64 aw, .int .u64 a3, .int .i64 ad, .slice a6 a7 a9, .slice ah an ag], .int .u64 ao, .int .i64 ar]) ∧
 putsK bd (blk a5.heap.size) [.int .i64 am, .int .i64 aw, .int .u64 a3, .int .i64 ad, .slice a6 a7 a9, .slice ah an ag] 0 fun b6 =>
 Q05.J4 (blk a5.heap.size) b2 bc b9 b5 I0 az b8 b0 aj R b6)

abbrev Q05.J6 (ay b8 : Int) (I0 : Nat → List Value → World → Prop) (az : Addr) (b5 : Nat) (am b1 : World) (R : RW) (b9 : World) : Prop :=
 thenW (b9.drew) fun a6 =>
 ∃ (b0 : Option Addr), a6.cell? (az.add 0) = some (.pointer b0) ∧
 ∃ (af : Option Addr) (ae ag : Nat) (a0 : Int), cellsAt a6 (blk am.heap.size) [.slice af ae ag, .int .i64 a0] 0 ∧
 (Calls Try.prog 21 #[.pointer b0, .agg #[.slice af ae ag, .int .i64 a0], .int .u64 ay] a6 fun b7 au => ∃ (aq aw ad ai : Int) (a8 : Option Addr) (ac a3 : Nat) (ak : Option Addr) (al ap : Nat) (a4 a2 : Int), b7 = .returned (.tuple #[.agg #[.int .i64 aq, .int .i64 aw, .int .u64 ad, .int .i64 ai, .slice a8 ac a3, .slice ak al ap], .int .u64 a4, .int .i64 a2]) ∧
 thenW (au.alloc (.cells #[.int .i64 0, .int .i64 0, .int .u64 0, .int .i64 0, .slice none 0 0, .slice none 0 0] 72)) fun ba =>
 putsK ba (blk au.heap.size) [.int .i64 aq, .int .i64 aw, .int .u64 ad, .int .i64 ai, .slice a8 ac a3, .slice ak al ap] 0 fun b4 =>
 Q05.J5 a2 a4 (blk au.heap.size) ay b8 I0 az b5 am b1 R b4) ∧
 (thenW (a6.alloc (.cells #[.int .i64 0, .int .i64 0, .int .u64 0, .int .i64 0, .slice none 0 0, .slice none 0 0] 72)) fun ax =>
 cellsAt ax (blk am.heap.size) [.slice af ae ag, .int .i64 a0] 0 ∧
 ax.cell? (az.add 0) = some (.pointer b0) ∧
 Calls Try.prog 21 #[.pointer b0, .agg #[.slice af ae ag, .int .i64 a0], .int .u64 ay] ax fun b3 b6 => ∃ (aj av aa ah : Int) (a9 : Option Addr) (a5 a1 : Nat) (an : Option Addr) (ao ar : Nat) (ab a7 : Int), b3 = .returned (.tuple #[.agg #[.int .i64 aj, .int .i64 av, .int .u64 aa, .int .i64 ah, .slice a9 a5 a1, .slice an ao ar], .int .u64 ab, .int .i64 a7]) ∧
 putsK b6 (blk a6.heap.size) [.int .i64 aj, .int .i64 av, .int .u64 aa, .int .i64 ah, .slice a9 a5 a1, .slice an ao ar] 0 fun b2 =>
 Q05.J5 a7 ab (blk a6.heap.size) ay b8 I0 az b5 am b1 R b2)

abbrev Q05.J7 (ax aw : Option Addr) (al ar : Int) (a2 : Addr) (av : Int) (R : RW) (a8 : World) : Prop :=
 Q0d a8 ((a2.add 2).add 0) ∧
 thenW (a8.setCell ((a2.add 2).add 0) (.pointer aw)) fun af =>
 Q0d af ((a2.add 3).add 0) ∧
 thenW (af.setCell ((a2.add 3).add 0) (.pointer ax)) fun a7 =>
 thenW (a7.alloc (.cells #[.int .i64 0, .int .u64 ar, .slice none 0 0, .slice none 0 0] 61)) fun a9 =>
 Q0d a9 ((a2.add 4).add 0) ∧
 thenW (a9.setCell ((a2.add 4).add 0) (.pointer (some (blk a7.heap.size)))) fun aj =>
 Calls Try.prog 19 #[.int .u64 al] aj fun am an => ∃ (ab : Option Addr) (ag ad : Nat) (a0 : Int), am = .returned (.agg #[.slice ab ag ad, .int .i64 a0]) ∧
 Calls Try.prog 20 #[.int .u64 al] an fun ao a6 => ∃ (aa : Option Addr) (ac ae : Nat) (a1 : Int), ao = .returned (.agg #[.slice aa ac ae, .int .i64 a1]) ∧
 thenW (a6.alloc (.cells #[.slice none 0 0, .int .i64 0] 64)) fun a5 =>
 thenW (a5.alloc (.cells #[.slice none 0 0, .int .i64 0] 68)) fun ai =>
 putsK ai (blk a6.heap.size) [.slice ab ag ad, .int .i64 a0] 0 fun aq =>
 putsK aq (blk a5.heap.size) [.slice aa ac ae, .int .i64 a1] 0 fun ap =>
 ∃ (I0 : Nat → List Value → World → Prop) (au : Nat), I0 au [.int .u64 0, .int .i64 0] ap ∧ ∀ (ak : Nat) (a4 : World) (a3 ah : Int), I0 ak [.int .u64 a3, .int .i64 ah] a4 →
 bif decide (ah < av) then (
 Q05.J6 a3 ah I0 a2 ak a6 a5 R a4) else (
 R (.pointer (some a2)) a4)

def Q05.M (a2 : Option Addr) (a1 a3 : Nat) (ao : Int) (R : RW) (w : World) : Prop :=
 Calls Try.prog 15 #[.slice a2 a1 a3] w fun b4 ay => ∃ (ah : Option Addr), b4 = .returned (.pointer ah) ∧
 thenW (ay.alloc (.cells #[.slice a2 a1 a3, .slice none 0 0] 54)) fun a7 =>
 thenW (a7.alloc (.cells #[.pointer ah, .pointer (some (blk ay.heap.size)), .pointer none, .pointer none, .pointer none, .int .u64 0] 38)) fun b1 =>
 ∃ (o8 : Option Addr), b1.cell? ((blk a7.heap.size).add 0) = some (.pointer o8) ∧
 Calls Try.prog 16 #[.pointer o8] b1 fun au ai => ∃ (a4 a0 : Int), au = .returned (.tuple #[.int .u64 a4, .int .u64 a0]) ∧
 ∃ (b0 : Option Addr), ai.cell? ((blk a7.heap.size).add 0) = some (.pointer b0) ∧
 Calls Try.prog 16 #[.pointer b0] ai fun ar ak => ∃ (a6 af : Int), ar = .returned (.tuple #[.int .u64 a6, .int .u64 af]) ∧
 ∃ (az : Option Addr), ak.cell? ((blk a7.heap.size).add 1) = some (.pointer az) ∧
 Calls Try.prog 17 #[.pointer az] ak fun ap aj => ∃ (ae ad : Int), ap = .returned (.tuple #[.int .u64 ae, .int .u64 ad]) ∧
 ∃ (b3 : Option Addr), aj.cell? ((blk a7.heap.size).add 1) = some (.pointer b3) ∧
 Calls Try.prog 17 #[.pointer b3] aj fun aq al => ∃ (ac ag : Int), aq = .returned (.tuple #[.int .u64 ac, .int .u64 ag]) ∧
 Q0d al (((blk a7.heap.size).add 5).add 0) ∧
 thenW (al.setCell (((blk a7.heap.size).add 5).add 0) (.int .u64 a0)) fun am =>
 ∃ (ax : Option Addr), am.cell? ((blk a7.heap.size).add 0) = some (.pointer ax) ∧
 Calls Try.prog 18 #[.pointer ax, .int .i64 0, .int .u64 a4] am fun aw an => ∃ (a5 : Option Addr) (aa : Int), aw = .returned (.tuple #[.pointer a5, .int .i64 aa]) ∧
 ∃ (b2 : Option Addr), an.cell? ((blk a7.heap.size).add 0) = some (.pointer b2) ∧
 Calls Try.prog 18 #[.pointer b2, .int .i64 1, .int .u64 a6] an fun av a8 => ∃ (a9 : Option Addr) (ab : Int), av = .returned (.tuple #[.pointer a9, .int .i64 ab]) ∧
 bif aa != 0 then (
 R (.pointer none) a8) else (
 bif ab != 0 then (
 R (.pointer none) a8) else (
 bif Option.isNone a5 then (
 R (.pointer none) a8) else (
 Q05.J7 a9 a5 a0 a4 (blk a7.heap.size) ao R a8)))

theorem Q05.ok (a2 : Option Addr) (a1 a0 : Nat) (a3 : Int) {R : RW} {w : World} (h : Q05.M a2 a1 a0 a3 R w) : Calls Try.prog 7 #[.slice a2 a1 a0, .int .i64 a3] w fun e w' => ∃ v, e = .returned v ∧ R v w' :=
  Q0j follows (H := [(0, [1, 5, 14, 15], [(16, (.one (.int .u64))), (17, (.one (.int .i64)))])]) (args := [.slice a2 a1 a0, .int .i64 a3]) (cast (by kernel_rfl) h)

def Q05.N (b6 : Option Addr) (b1 b3 : Nat) (c7 : Int) (R : RW) (w : World) : Prop :=
 Calls Try.prog 15 #[.slice b6 b1 b3] w fun e4 dx => ∃ (d9 : Option Addr), e4 = .returned (.pointer d9) ∧
 ∀ (cp : World) (q7 : Nat), Ext no dx cp → Blk cp q7 54 [.slice b6 b1 b3, .slice none 0 0] → dx.heap.size ≤ q7 → q7 < cp.heap.size →
 ∀ (cu : World) (q9 : Nat), Ext no cp cu → Blk cu q9 38 [.pointer d9, .pointer (some (blk q7)), .pointer none, .pointer none, .pointer none, .int .u64 0] → cp.heap.size ≤ q9 → q9 < cu.heap.size →
 ∃ (e1 : Option Addr), cu.cell? ((blk q9).add 0) = some (.pointer e1) ∧
 Calls Try.prog 16 #[.pointer e1] cu fun dp d0 => ∃ (ay an : Int), dp = .returned (.tuple #[.int .u64 ay, .int .u64 an]) ∧
 ∃ (dy : Option Addr), d0.cell? ((blk q9).add 0) = some (.pointer dy) ∧
 Calls Try.prog 16 #[.pointer dy] d0 fun dm cy => ∃ (bo ca : Int), dm = .returned (.tuple #[.int .u64 bo, .int .u64 ca]) ∧
 ∃ (du : Option Addr), cy.cell? ((blk q9).add 1) = some (.pointer du) ∧
 Calls Try.prog 17 #[.pointer du] cy fun dj dd => ∃ (cf ci : Int), dj = .returned (.tuple #[.int .u64 cf, .int .u64 ci]) ∧
 ∃ (dw : Option Addr), dd.cell? ((blk q9).add 1) = some (.pointer dw) ∧
 Calls Try.prog 17 #[.pointer dw] dd fun dn d8 => ∃ (ce cd : Int), dn = .returned (.tuple #[.int .u64 ce, .int .u64 cd]) ∧
 Q0d d8 (((blk q9).add 5).add 0) ∧
 thenW (d8.setCell (((blk q9).add 5).add 0) (.int .u64 an)) fun cx =>
 ∃ (dv : Option Addr), cx.cell? ((blk q9).add 0) = some (.pointer dv) ∧
 Calls Try.prog 18 #[.pointer dv, .int .i64 0, .int .u64 ay] cx fun dr ct => ∃ (b9 : Option Addr) (bg : Int), dr = .returned (.tuple #[.pointer b9, .int .i64 bg]) ∧
 ∃ (e3 : Option Addr), ct.cell? ((blk q9).add 0) = some (.pointer e3) ∧
 Calls Try.prog 18 #[.pointer e3, .int .i64 1, .int .u64 bo] ct fun ds bp => ∃ (c0 : Option Addr) (bn : Int), ds = .returned (.tuple #[.pointer c0, .int .i64 bn]) ∧
 (bg ≠ 0 →
 R (.pointer none) bp) ∧
 (bg = 0 →
 (bn ≠ 0 →
 R (.pointer none) bp) ∧
 (bn = 0 →
 (b9 = none →
 R (.pointer none) bp) ∧
 (b9 ≠ none →
 Q0d bp (((blk q9).add 2).add 0) ∧
 thenW (bp.setCell (((blk q9).add 2).add 0) (.pointer b9)) fun d5 =>
 Q0d d5 (((blk q9).add 3).add 0) ∧
 thenW (d5.setCell (((blk q9).add 3).add 0) (.pointer c0)) fun cm =>
 ∀ (bs : World) (dg : Nat), Ext no cm bs → Blk bs dg 61 [.int .i64 0, .int .u64 ay, .slice none 0 0, .slice none 0 0] → cm.heap.size ≤ dg → dg < bs.heap.size →
 Q0d bs (((blk q9).add 4).add 0) ∧
 thenW (bs.setCell (((blk q9).add 4).add 0) (.pointer (some (blk dg)))) fun dq =>
 Calls Try.prog 19 #[.int .u64 an] dq fun dk dt => ∃ (df : Option Addr) (d1 d2 : Nat) (b0 : Int), dk = .returned (.agg #[.slice df d1 d2, .int .i64 b0]) ∧
 Calls Try.prog 20 #[.int .u64 an] dt fun di d6 => ∃ (cr : Option Addr) (d3 d7 : Nat) (b7 : Int), di = .returned (.agg #[.slice cr d3 d7, .int .i64 b7]) ∧
 ∀ (ch : World) (bu bv : Nat), Ext no d6 ch → Priv d6 ch [bu, bv] →
 ∃ (I0 : Nat → List Value → World → Prop) (e5 : Nat), I0 e5 [.int .u64 0, .int .i64 0, .slice df d1 d2, .int .i64 b0, .slice cr d3 d7, .int .i64 b7] ch ∧ ∀ (dz : Nat) (bj : World) (ax ck : Int) (cb : Option Addr) (cc c9 : Nat) (am : Int) (c8 : Option Addr) (cg cj : Nat) (ad : Int), I0 dz [.int .u64 ax, .int .i64 ck, .slice cb cc c9, .int .i64 am, .slice c8 cg cj, .int .i64 ad] bj →
 (ck < c7 →
 ∃ (e0 : Option Addr), bj.cell? ((blk q9).add 0) = some (.pointer e0) ∧
 ∀ (bi : World) (dh : List Nat), Ext no bj bi → Priv bj bi dh →
 Calls Try.prog 21 #[.pointer e0, .agg #[.slice cb cc c9, .int .i64 am], .int .u64 ax] bi fun dl bw => ∃ (al b5 a1 a8 : Int) (a0 : Option Addr) (a3 a2 : Nat) (ah : Option Addr) (ai ag : Nat) (aq ac : Int), dl = .returned (.tuple #[.agg #[.int .i64 al, .int .i64 b5, .int .u64 a1, .int .i64 a8, .slice a0 a3 a2, .slice ah ai ag], .int .u64 aq, .int .i64 ac]) ∧
 Keep dh bi bw ∧
 Keep [bu, bv] bi bw ∧
 ∀ (ap : World) (cz : Nat), Ext (fun b => b ∈ dh) bw ap → PrivJ dh bw ap [cz] →
 ∃ (e2 : Option Addr), ap.cell? ((blk q9).add 1) = some (.pointer e2) ∧
 ∀ (av : World) (bk : List Nat), Ext no ap av → Priv ap av bk →
 Calls Try.prog 22 #[.pointer e2, .agg #[.slice c8 cg cj, .int .i64 ad], .int .u64 ax] av fun db ar => ∃ (ak az a5 a9 : Int) (a6 : Option Addr) (a4 a7 : Nat) (af : Option Addr) (aj ae : Nat) (bc bd : Int), db = .returned (.tuple #[.agg #[.int .i64 ak, .int .i64 az, .int .u64 a5, .int .i64 a9, .slice a6 a4 a7, .slice af aj ae], .int .u64 bc, .int .i64 bd]) ∧
 Keep bk av ar ∧
 Keep [bu, bv, cz] av ar ∧
 (ac ≠ 0 →
 ∀ (bx : World), Ext (fun b => b ∈ bk) ar bx →
 R (.pointer none) bx) ∧
 (ac = 0 →
 ∀ (bb : World) (bh : Nat), Ext (fun b => b ∈ bk) ar bb → PrivJ bk ar bb [bh] →
 Calls Try.prog 23 #[.agg #[.slice cb cc c9, .int .i64 am], .agg #[.int .i64 al, .int .i64 b5, .int .u64 a1, .int .i64 a8, .slice a0 a3 a2, .slice ah ai ag]] bb fun d4 bf => ∃ (c6 : Option Addr) (c2 c5 : Nat) (aw ab : Int), d4 = .returned (.tuple #[.agg #[.slice c6 c2 c5, .int .i64 aw], .int .i64 ab]) ∧
 Keep [bu, bv, cz, bh] bb bf ∧
 ∀ (b4 : World) (cs : Nat), Ext no bf b4 → Priv bf b4 [cs] →
 Calls Try.prog 24 #[.agg #[.slice c8 cg cj, .int .i64 ad], .agg #[.int .i64 ak, .int .i64 az, .int .u64 a5, .int .i64 a9, .slice a6 a4 a7, .slice af aj ae]] b4 fun cw b2 => ∃ (c3 : Option Addr) (bz c4 : Nat) (au aa : Int), cw = .returned (.tuple #[.agg #[.slice c3 bz c4, .int .i64 au], .int .i64 aa]) ∧
 Keep [bu, bv, cz, bh, cs] b4 b2 ∧
 (ab ≠ 0 →
 ∀ (ao : World), Ext no b2 ao →
 R (.pointer none) ao) ∧
 (ab = 0 →
 (aa ≠ 0 →
 ∀ (ao : World), Ext no b2 ao →
 R (.pointer none) ao) ∧
 (aa = 0 →
 ∀ (b8 : World), Ext (fun b => b = bv ∨ b = bu) b2 b8 →
 ∃ (cl : Option Addr), b8.cell? ((blk q9).add 2) = some (.pointer cl) ∧
 Calls Try.prog 25 #[.pointer cl, .agg #[.int .i64 al, .int .i64 b5, .int .u64 a1, .int .i64 a8, .slice a0 a3 a2, .slice ah ai ag]] b8 fun co bq => ∃ (br : Int), co = .returned (.int .i64 br) ∧
 Keep [bu, bv, cz, bh] b8 bq ∧
 ∃ (de : Option Addr), bq.cell? ((blk q9).add 3) = some (.pointer de) ∧
 ∀ (bm : World), Ext no bq bm →
 Calls Try.prog 25 #[.pointer de, .agg #[.int .i64 al, .int .i64 b5, .int .u64 a1, .int .i64 a8, .slice a0 a3 a2, .slice ah ai ag]] bm fun dc ba => ∃ (bt : Int), dc = .returned (.int .i64 bt) ∧
 Keep [bu, bv, bh] bm ba ∧
 ∃ (cn : Option Addr), ba.cell? ((blk q9).add 4) = some (.pointer cn) ∧
 ∃ (cv : Option Addr), ba.cell? ((blk q9).add 1) = some (.pointer cv) ∧
 ∀ (bl : World), Ext no ba bl →
 Calls Try.prog 26 #[.pointer cn, .pointer cv, .agg #[.int .i64 ak, .int .i64 az, .int .u64 a5, .int .i64 a9, .slice a6 a4 a7, .slice af aj ae]] bl fun da c1 => ∃ (be : Int), da = .returned (.int .i64 be) ∧
 Keep [bu, bv] bl c1 ∧
 (-9223372036854775808 : Int) ≤ (ck + 1) ∧ (ck + 1) < 9223372036854775808 ∧
 ∃ cq, cq < dz ∧ I0 cq [.int .u64 aq, .int .i64 (ck + 1), .slice c6 c2 c5, .int .i64 aw, .slice c3 bz c4, .int .i64 au] c1)))) ∧
 (c7 ≤ ck →
 R (.pointer (some (blk q9))) bj))))

theorem Q05.up (cp : Option Addr) (cn co : Nat) (dj : Int) {R : RW} {w : World} (h : Q05.N cp cn co dj R w) : Q05.M cp cn co dj R w := by
  unfold Q05.M
  unfold Q05.N at h
  refine h.mono fun ih ff h => ?_
  obtain ⟨fs, he, h⟩ := h
  refine ⟨fs, he, ?_⟩
  refine Q01 fun f2 e6 => ?_
  have h := h f2 ff.heap.size ((Ext.refl no ff).x_alloc e6) (Blk.of_new e6) ((Ext.refl no ff)).size (Q0v e6)
  refine Q01 fun gp e8 => ?_
  have h := h gp f2.heap.size ((Ext.refl no f2).x_alloc e8) (Blk.of_new e8) ((Ext.refl no f2)).size (Q0v e8)
  obtain ⟨i1, g0, h⟩ := h
  refine ⟨i1, g0, ?_⟩
  refine h.mono fun i3 gv h => ?_
  obtain ⟨dn, e3, he, h⟩ := h
  refine ⟨dn, e3, he, ?_⟩
  obtain ⟨gn, fh, h⟩ := h
  refine ⟨gn, fh, ?_⟩
  refine h.mono fun gq gu h => ?_
  obtain ⟨dr, dq, he, h⟩ := h
  refine ⟨dr, dq, he, ?_⟩
  obtain ⟨ge, fy, h⟩ := h
  refine ⟨ge, fy, ?_⟩
  refine h.mono fun gb ia h => ?_
  obtain ⟨dz, e2, he, h⟩ := h
  refine ⟨dz, e2, he, ?_⟩
  obtain ⟨gh, f7, h⟩ := h
  refine ⟨gh, f7, ?_⟩
  refine h.mono fun gr i4 h => ?_
  obtain ⟨dx, dt, he, h⟩ := h
  refine ⟨dx, dt, he, ?_⟩
  obtain ⟨hcs, h⟩ := h
  refine ⟨hcs, Q01 fun gt i6 => ?_⟩
  replace h := Q1b h i6
  obtain ⟨gg, fo, h⟩ := h
  refine ⟨gg, fo, ?_⟩
  refine h.mono fun i8 gk h => ?_
  obtain ⟨ek, ea, he, h⟩ := h
  refine ⟨ek, ea, he, ?_⟩
  obtain ⟨ig, fp, h⟩ := h
  refine ⟨ig, fp, ?_⟩
  refine h.mono fun ib gw h => ?_
  obtain ⟨e9, ei, he, h⟩ := h
  refine ⟨e9, ei, he, ?_⟩
  refine bif_of (fun ft => ?_) (fun ft => ?_)
  ·have h := h.1 (bne_t ft)
   exact h
  have h := h.2 (bne_f ft)
  refine bif_of (fun f9 => ?_) (fun f9 => ?_)
  ·have h := h.1 (bne_t f9)
   exact h
  have h := h.2 (bne_f f9)
  refine bif_of (fun fu => ?_) (fun fu => ?_)
  ·have h := h.1 (Q1J fu)
   exact h
  have h := h.2 (Q1F fu)
  unfold Q05.J7
  obtain ⟨hcs, h⟩ := h
  refine ⟨hcs, Q01 fun i0 gm => ?_⟩
  replace h := Q1b h gm
  obtain ⟨hcs, h⟩ := h
  refine ⟨hcs, Q01 fun dk i2 => ?_⟩
  replace h := Q1b h i2
  refine Q01 fun fq f6 => ?_
  have h := h fq dk.heap.size ((Ext.refl no dk).x_alloc f6) (Blk.of_new f6) ((Ext.refl no dk)).size (Q0v f6)
  obtain ⟨hcs, h⟩ := h
  refine ⟨hcs, Q01 fun i5 gf => ?_⟩
  replace h := Q1b h gf
  refine h.mono fun gd ie h => ?_
  obtain ⟨e5, ds, du, c9, he, h⟩ := h
  refine ⟨e5, ds, du, c9, he, ?_⟩
  refine h.mono fun ga cg h => ?_
  obtain ⟨dm, dv, dy, cb, he, h⟩ := h
  refine ⟨dm, dv, dy, cb, he, ?_⟩
  refine Q01 fun cs g5 => ?_
  have a2 := Blk.of_new g5
  have g7 := ((Ext.refl no cg)).size
  have ec := (Ext.refl no cg).x_alloc g5
  refine Q01 fun i7 fe => ?_
  have a0 := Blk.of_new fe
  have g4 := (ec).size
  have cq := Nat.ne_of_lt a2.lt
  have a2 := a2.x_alloc fe
  have fj := ec.x_alloc fe
  refine Q0o (k := 0) (j := 0) a2 (Nat.le_of_ble_eq_true rfl) fun fd g3 gz => ?_
  have fx := fj.x_puts g3 (.inr g7)
  have a2 : Blk fd cg.heap.size 64 [.slice e5 ds du, .int .i64 c9] := gz
  have a0 := a0.x_puts g3 (Ne.symm cq)
  refine Q0o (k := 0) (j := 0) a0 (Nat.le_of_ble_eq_true rfl) fun ex g9 gj => ?_
  have fb := fx.x_puts g9 (.inr g4)
  have a2 := a2.x_puts g9 cq
  have a0 : Blk ex cs.heap.size 68 [.slice dm dv dy, .int .i64 cb] := gj
  have h := h ex (cg.heap.size) (cs.heap.size) fb (Priv.cons g7 a2.lt (Priv.cons g4 a0.lt Priv.nil))
  obtain ⟨I0, gx, h0, h⟩ := h
  refine ⟨fun k vs ww => ∃ (cd : Option Addr) (ce ca : Nat) (au : Int) (c6 : Option Addr) (c7 c8 : Nat) (aq : Int), Blk ww cg.heap.size 64 [.slice cd ce ca, .int .i64 au] ∧ Blk ww cs.heap.size 68 [.slice c6 c7 c8, .int .i64 aq] ∧ I0 k (vs ++ [.slice cd ce ca, .int .i64 au, .slice c6 c7 c8, .int .i64 aq]) ww, gx, ⟨e5, ds, du, c9, dm, dv, dy, cb, a2, a0, h0⟩, fun gs ed dl ic hI => ?_⟩
  obtain ⟨cd, ce, ca, au, c6, c7, c8, aq, a2, a0, hI⟩ := hI
  have h := h gs ed dl ic cd ce ca au c6 c7 c8 aq hI
  refine bif_fo (fun fm => ?_) (fun fm => ?_)
  ·have h := h.2 (Int.not_lt.1 (of_decide_eq_false fm))
   exact h
  have h := h.1 (of_decide_eq_true fm)
  unfold Q05.J6
  refine Q01 fun cu fk => ?_
  have dc := (Ext.refl no ed).x_drew fk
  have a2 := a2.x_drew fk
  have a0 := a0.x_drew fk
  obtain ⟨gy, ez, h⟩ := h
  refine ⟨gy, (dc).cell ez id, ?_⟩
  refine ⟨cd, ce, ca, au, ⟨a2.celli 0 rfl rfl, a2.celli 1 rfl rfl, trivial⟩, ?_⟩
  refine ⟨?_, ?_⟩
  focus
   have h := h cu [] dc Priv.nil
   refine h.mono fun gl dg h => ?_
   obtain ⟨b3, bg, ag, am, af, ai, ah, b1, b4, ay, d0, c5, he, hkL, hk, h⟩ := h
   refine ⟨b3, bg, ag, am, af, ai, ah, b1, b4, ay, d0, c5, he, ?_⟩
   have a2 := hk.blk a2 (by simp)
   have a0 := hk.blk a0 (by simp)
   refine Q01 fun et f3 => ?_
   have a1 := Blk.of_new f3
   have f1 := ((Ext.refl (fun b => b ∈ ([] : List Nat)) dg)).size
   have cm := Nat.ne_of_lt a2.lt
   have a2 := a2.x_alloc f3
   have cr := Nat.ne_of_lt a0.lt
   have a0 := a0.x_alloc f3
   have fi := (Ext.refl (fun b => b ∈ ([] : List Nat)) dg).x_alloc f3
   refine Q0o (k := 0) (j := 0) a1 (Nat.le_of_ble_eq_true rfl) fun dp e0 fc => ?_
   have e1 := fi.x_puts e0 (.inr f1)
   have a2 := a2.x_puts e0 cm
   have a0 := a0.x_puts e0 cr
   have a1 : Blk dp dg.heap.size 72 [.int .i64 b3, .int .i64 bg, .int .u64 ag, .int .i64 am, .slice af ai ah, .slice b1 b4 ay] := fc
   unfold Q05.J5
   refine Q01 fun bc de => ?_
   have e4 := e1.x_drew de
   have a2 := a2.x_drew de
   have a0 := a0.x_drew de
   have a1 := a1.x_drew de
   have h := h bc (dg.heap.size) e4 (PrivJ.cons (.inr f1) a1.lt PrivJ.nil)
   obtain ⟨fw, d3, h⟩ := h
   refine ⟨fw, d3, ?_⟩
   refine ⟨c6, c7, c8, aq, ⟨a0.celli 0 rfl rfl, a0.celli 1 rfl rfl, trivial⟩, ?_⟩
   refine ⟨?_, ?_⟩
   have h := h bc [] (Ext.refl no bc) Priv.nil
   refine h.mono fun ev bk h => ?_
   obtain ⟨ae, aj, a5, a8, a6, a4, a7, ac, ad, ab, bm, ap, he, hkL, hk, h⟩ := h
   refine ⟨ae, aj, a5, a8, a6, a4, a7, ac, ad, ab, bm, ap, he, ?_⟩
   have a2 := hk.blk a2 (by simp)
   have a0 := hk.blk a0 (by simp)
   have a1 := hk.blk a1 (by simp)
   refine Q01 fun cf bw => ?_
   have a3 := Blk.of_new bw
   have df := ((Ext.refl (fun b => b ∈ ([] : List Nat)) bk)).size
   have bo := Nat.ne_of_lt a2.lt
   have a2 := a2.x_alloc bw
   have bp := Nat.ne_of_lt a0.lt
   have a0 := a0.x_alloc bw
   have bx := Nat.ne_of_lt a1.lt
   have a1 := a1.x_alloc bw
   have cx := (Ext.refl (fun b => b ∈ ([] : List Nat)) bk).x_alloc bw
   refine Q0o (k := 0) (j := 0) a3 (Nat.le_of_ble_eq_true rfl) fun b2 bb ck => ?_
   have be := cx.x_puts bb (.inr df)
   have a2 := a2.x_puts bb bo
   have a0 := a0.x_puts bb bp
   have a1 := a1.x_puts bb bx
   have a3 : Blk b2 bk.heap.size 77 [.int .i64 ae, .int .i64 aj, .int .u64 a5, .int .i64 a8, .slice a6 a4 a7, .slice ac ad ab] := ck
   unfold Q05.J4
   refine bif_of (fun bi => ?_) (fun bi => ?_)
   ·have h := h.1 (bne_t bi)
    have h := h b2 be
    exact h
   have h := h.2 (bne_f bi)
   unfold Q05.J3
   refine ⟨cd, ce, ca, au, ⟨a2.celli 0 rfl rfl, a2.celli 1 rfl rfl, trivial⟩, ?_⟩
   refine ⟨b3, bg, ag, am, af, ai, ah, b1, b4, ay, ⟨a1.celli 0 rfl rfl, a1.celli 1 rfl rfl, a1.celli 2 rfl rfl, a1.celli 3 rfl rfl, a1.celli 4 rfl rfl, a1.celli 5 rfl rfl, trivial⟩, ?_⟩
   have h := h b2 (bk.heap.size) be (PrivJ.cons (.inr df) a3.lt PrivJ.nil)
   refine h.mono fun d2 al h => ?_
   obtain ⟨ba, b6, b9, aa, b0, he, hk, h⟩ := h
   refine ⟨ba, b6, b9, aa, b0, he, ?_⟩
   have a2 := hk.blk a2 (by simp)
   have a0 := hk.blk a0 (by simp)
   have a1 := hk.blk a1 (by simp)
   have a3 := hk.blk a3 (by simp)
   refine Q01 fun d9 ao => ?_
   have av := Blk.of_new ao
   have d1 := ((Ext.refl no al)).size
   have br := Nat.ne_of_lt a2.lt
   have a2 := a2.x_alloc ao
   have bu := Nat.ne_of_lt a0.lt
   have a0 := a0.x_alloc ao
   have bs := Nat.ne_of_lt a1.lt
   have a1 := a1.x_alloc ao
   have c2 := Nat.ne_of_lt a3.lt
   have a3 := a3.x_alloc ao
   have c1 := (Ext.refl no al).x_alloc ao
   refine Q0o (k := 0) (j := 0) av (Nat.le_of_ble_eq_true rfl) fun bf ax cl => ?_
   have c3 := c1.x_puts ax (.inr d1)
   have a2 := a2.x_puts ax br
   have a0 := a0.x_puts ax bu
   have a1 := a1.x_puts ax bs
   have a3 := a3.x_puts ax c2
   have av : Blk bf al.heap.size 64 [.slice ba b6 b9, .int .i64 aa] := cl
   refine ⟨c6, c7, c8, aq, ⟨a0.celli 0 rfl rfl, a0.celli 1 rfl rfl, trivial⟩, ?_⟩
   refine ⟨ae, aj, a5, a8, a6, a4, a7, ac, ad, ab, ⟨a3.celli 0 rfl rfl, a3.celli 1 rfl rfl, a3.celli 2 rfl rfl, a3.celli 3 rfl rfl, a3.celli 4 rfl rfl, a3.celli 5 rfl rfl, trivial⟩, ?_⟩
   have h := h bf (al.heap.size) c3 (Priv.cons d1 av.lt Priv.nil)
   refine h.mono fun cy ar h => ?_
   obtain ⟨b7, b5, b8, a9, az, he, hk, h⟩ := h
   refine ⟨b7, b5, b8, a9, az, he, ?_⟩
   have a2 := hk.blk a2 (by simp)
   have a0 := hk.blk a0 (by simp)
   have a1 := hk.blk a1 (by simp)
   have a3 := hk.blk a3 (by simp)
   have av := hk.blk av (by simp)
   refine Q01 fun d5 ak => ?_
   have cc := Blk.of_new ak
   have dw := ((Ext.refl no ar)).size
   have bn := Nat.ne_of_lt a2.lt
   have a2 := a2.x_alloc ak
   have bz := Nat.ne_of_lt a0.lt
   have a0 := a0.x_alloc ak
   have c0 := Nat.ne_of_lt a1.lt
   have a1 := a1.x_alloc ak
   have bq := Nat.ne_of_lt a3.lt
   have a3 := a3.x_alloc ak
   have bt := Nat.ne_of_lt av.lt
   have av := av.x_alloc ak
   have c4 := (Ext.refl no ar).x_alloc ak
   refine Q0o (k := 0) (j := 0) cc (Nat.le_of_ble_eq_true rfl) fun aw an cj => ?_
   have bd := c4.x_puts an (.inr dw)
   have a2 := a2.x_puts an bn
   have a0 := a0.x_puts an bz
   have a1 := a1.x_puts an c0
   have a3 := a3.x_puts an bq
   have av := av.x_puts an bt
   have cc : Blk aw ar.heap.size 68 [.slice b7 b5 b8, .int .i64 a9] := cj
   refine bif_of (fun bj => ?_) (fun bj => ?_)
   ·have h := h.1 (bne_t bj)
    have h := h aw bd
    exact h
   have h := h.2 (bne_f bj)
   refine bif_of (fun bh => ?_) (fun bh => ?_)
   ·have h := h.1 (bne_t bh)
    have h := h aw bd
    exact h
   have h := h.2 (bne_f bh)
   rotate_left
   refine Q01 fun cw bv => ?_
   have a3 := Blk.of_new bv
   have df := ((Ext.refl no bc)).size
   have bo := Nat.ne_of_lt a2.lt
   have a2 := a2.x_alloc bv
   have bp := Nat.ne_of_lt a0.lt
   have a0 := a0.x_alloc bv
   have bx := Nat.ne_of_lt a1.lt
   have a1 := a1.x_alloc bv
   have ch := (Ext.refl no bc).x_alloc bv
   refine ⟨⟨a0.celli 0 rfl rfl, a0.celli 1 rfl rfl, trivial⟩, (ch).cell d3 id, ?_⟩
   have h := h cw [bc.heap.size] ch (Priv.cons df a3.lt Priv.nil)
   refine h.mono fun ew cf h => ?_
   obtain ⟨ae, aj, a5, a8, a6, a4, a7, ac, ad, ab, ap, bl, he, hkL, hk, h⟩ := h
   refine ⟨ae, aj, a5, a8, a6, a4, a7, ac, ad, ab, ap, bl, he, ?_⟩
   have a3 := hkL.blk a3 (by simp)
   have a2 := hk.blk a2 (by simp)
   have a0 := hk.blk a0 (by simp)
   have a1 := hk.blk a1 (by simp)
   refine Q0o (k := 0) (j := 0) a3 (Nat.le_of_ble_eq_true rfl) fun b2 bb ck => ?_
   have be := (Ext.refl (fun b => b ∈ ([bc.heap.size] : List Nat)) cf).x_puts bb (.inl (by simp))
   have a2 := a2.x_puts bb bo
   have a0 := a0.x_puts bb bp
   have a1 := a1.x_puts bb bx
   have a3 : Blk b2 bc.heap.size 77 [.int .i64 ae, .int .i64 aj, .int .u64 a5, .int .i64 a8, .slice a6 a4 a7, .slice ac ad ab] := ck
   unfold Q05.J4
   refine bif_of (fun bi => ?_) (fun bi => ?_)
   ·have h := h.1 (bne_t bi)
    have h := h b2 be
    exact h
   have h := h.2 (bne_f bi)
   unfold Q05.J3
   refine ⟨cd, ce, ca, au, ⟨a2.celli 0 rfl rfl, a2.celli 1 rfl rfl, trivial⟩, ?_⟩
   refine ⟨b3, bg, ag, am, af, ai, ah, b1, b4, ay, ⟨a1.celli 0 rfl rfl, a1.celli 1 rfl rfl, a1.celli 2 rfl rfl, a1.celli 3 rfl rfl, a1.celli 4 rfl rfl, a1.celli 5 rfl rfl, trivial⟩, ?_⟩
   have h := h b2 (bc.heap.size) be (PrivJ.cons (.inl (by simp)) a3.lt PrivJ.nil)
   refine h.mono fun d2 al h => ?_
   obtain ⟨ba, b6, b9, aa, b0, he, hk, h⟩ := h
   refine ⟨ba, b6, b9, aa, b0, he, ?_⟩
   have a2 := hk.blk a2 (by simp)
   have a0 := hk.blk a0 (by simp)
   have a1 := hk.blk a1 (by simp)
   have a3 := hk.blk a3 (by simp)
   refine Q01 fun d9 ao => ?_
   have av := Blk.of_new ao
   have d1 := ((Ext.refl no al)).size
   have br := Nat.ne_of_lt a2.lt
   have a2 := a2.x_alloc ao
   have bu := Nat.ne_of_lt a0.lt
   have a0 := a0.x_alloc ao
   have bs := Nat.ne_of_lt a1.lt
   have a1 := a1.x_alloc ao
   have c2 := Nat.ne_of_lt a3.lt
   have a3 := a3.x_alloc ao
   have c1 := (Ext.refl no al).x_alloc ao
   refine Q0o (k := 0) (j := 0) av (Nat.le_of_ble_eq_true rfl) fun bf ax cl => ?_
   have c3 := c1.x_puts ax (.inr d1)
   have a2 := a2.x_puts ax br
   have a0 := a0.x_puts ax bu
   have a1 := a1.x_puts ax bs
   have a3 := a3.x_puts ax c2
   have av : Blk bf al.heap.size 64 [.slice ba b6 b9, .int .i64 aa] := cl
   refine ⟨c6, c7, c8, aq, ⟨a0.celli 0 rfl rfl, a0.celli 1 rfl rfl, trivial⟩, ?_⟩
   refine ⟨ae, aj, a5, a8, a6, a4, a7, ac, ad, ab, ⟨a3.celli 0 rfl rfl, a3.celli 1 rfl rfl, a3.celli 2 rfl rfl, a3.celli 3 rfl rfl, a3.celli 4 rfl rfl, a3.celli 5 rfl rfl, trivial⟩, ?_⟩
   have h := h bf (al.heap.size) c3 (Priv.cons d1 av.lt Priv.nil)
   refine h.mono fun cy ar h => ?_
   obtain ⟨b7, b5, b8, a9, az, he, hk, h⟩ := h
   refine ⟨b7, b5, b8, a9, az, he, ?_⟩
   have a2 := hk.blk a2 (by simp)
   have a0 := hk.blk a0 (by simp)
   have a1 := hk.blk a1 (by simp)
   have a3 := hk.blk a3 (by simp)
   have av := hk.blk av (by simp)
   refine Q01 fun d5 ak => ?_
   have cc := Blk.of_new ak
   have dw := ((Ext.refl no ar)).size
   have bn := Nat.ne_of_lt a2.lt
   have a2 := a2.x_alloc ak
   have bz := Nat.ne_of_lt a0.lt
   have a0 := a0.x_alloc ak
   have c0 := Nat.ne_of_lt a1.lt
   have a1 := a1.x_alloc ak
   have bq := Nat.ne_of_lt a3.lt
   have a3 := a3.x_alloc ak
   have bt := Nat.ne_of_lt av.lt
   have av := av.x_alloc ak
   have c4 := (Ext.refl no ar).x_alloc ak
   refine Q0o (k := 0) (j := 0) cc (Nat.le_of_ble_eq_true rfl) fun aw an cj => ?_
   have bd := c4.x_puts an (.inr dw)
   have a2 := a2.x_puts an bn
   have a0 := a0.x_puts an bz
   have a1 := a1.x_puts an c0
   have a3 := a3.x_puts an bq
   have av := av.x_puts an bt
   have cc : Blk aw ar.heap.size 68 [.slice b7 b5 b8, .int .i64 a9] := cj
   refine bif_of (fun bj => ?_) (fun bj => ?_)
   ·have h := h.1 (bne_t bj)
    have h := h aw bd
    exact h
   have h := h.2 (bne_f bj)
   refine bif_of (fun bh => ?_) (fun bh => ?_)
   ·have h := h.1 (bne_t bh)
    have h := h aw bd
    exact h
   have h := h.2 (bne_f bh)
   rotate_left
  rotate_left 2
  focus
   refine Q01 fun fz f4 => ?_
   have a1 := Blk.of_new f4
   have f1 := (dc).size
   have cm := Nat.ne_of_lt a2.lt
   have a2 := a2.x_alloc f4
   have cr := Nat.ne_of_lt a0.lt
   have a0 := a0.x_alloc f4
   have eu := dc.x_alloc f4
   refine ⟨⟨a2.celli 0 rfl rfl, a2.celli 1 rfl rfl, trivial⟩, (eu).cell ez id, ?_⟩
   have h := h fz [cu.heap.size] eu (Priv.cons f1 a1.lt Priv.nil)
   refine h.mono fun gi et h => ?_
   obtain ⟨b3, bg, ag, am, af, ai, ah, b1, b4, ay, c5, d4, he, hkL, hk, h⟩ := h
   refine ⟨b3, bg, ag, am, af, ai, ah, b1, b4, ay, c5, d4, he, ?_⟩
   have a1 := hkL.blk a1 (by simp)
   have a2 := hk.blk a2 (by simp)
   have a0 := hk.blk a0 (by simp)
   refine Q0o (k := 0) (j := 0) a1 (Nat.le_of_ble_eq_true rfl) fun dp e0 fc => ?_
   have e1 := (Ext.refl (fun b => b ∈ ([cu.heap.size] : List Nat)) et).x_puts e0 (.inl (by simp))
   have a2 := a2.x_puts e0 cm
   have a0 := a0.x_puts e0 cr
   have a1 : Blk dp cu.heap.size 72 [.int .i64 b3, .int .i64 bg, .int .u64 ag, .int .i64 am, .slice af ai ah, .slice b1 b4 ay] := fc
   unfold Q05.J5
   refine Q01 fun bc de => ?_
   have e4 := e1.x_drew de
   have a2 := a2.x_drew de
   have a0 := a0.x_drew de
   have a1 := a1.x_drew de
   have h := h bc (cu.heap.size) e4 (PrivJ.cons (.inl (by simp)) a1.lt PrivJ.nil)
   obtain ⟨fw, d3, h⟩ := h
   refine ⟨fw, d3, ?_⟩
   refine ⟨c6, c7, c8, aq, ⟨a0.celli 0 rfl rfl, a0.celli 1 rfl rfl, trivial⟩, ?_⟩
   refine ⟨?_, ?_⟩
   have h := h bc [] (Ext.refl no bc) Priv.nil
   refine h.mono fun ev bk h => ?_
   obtain ⟨ae, aj, a5, a8, a6, a4, a7, ac, ad, ab, bm, ap, he, hkL, hk, h⟩ := h
   refine ⟨ae, aj, a5, a8, a6, a4, a7, ac, ad, ab, bm, ap, he, ?_⟩
   have a2 := hk.blk a2 (by simp)
   have a0 := hk.blk a0 (by simp)
   have a1 := hk.blk a1 (by simp)
   refine Q01 fun cf bw => ?_
   have a3 := Blk.of_new bw
   have df := ((Ext.refl (fun b => b ∈ ([] : List Nat)) bk)).size
   have bo := Nat.ne_of_lt a2.lt
   have a2 := a2.x_alloc bw
   have bp := Nat.ne_of_lt a0.lt
   have a0 := a0.x_alloc bw
   have bx := Nat.ne_of_lt a1.lt
   have a1 := a1.x_alloc bw
   have cx := (Ext.refl (fun b => b ∈ ([] : List Nat)) bk).x_alloc bw
   refine Q0o (k := 0) (j := 0) a3 (Nat.le_of_ble_eq_true rfl) fun b2 bb ck => ?_
   have be := cx.x_puts bb (.inr df)
   have a2 := a2.x_puts bb bo
   have a0 := a0.x_puts bb bp
   have a1 := a1.x_puts bb bx
   have a3 : Blk b2 bk.heap.size 77 [.int .i64 ae, .int .i64 aj, .int .u64 a5, .int .i64 a8, .slice a6 a4 a7, .slice ac ad ab] := ck
   unfold Q05.J4
   refine bif_of (fun bi => ?_) (fun bi => ?_)
   ·have h := h.1 (bne_t bi)
    have h := h b2 be
    exact h
   have h := h.2 (bne_f bi)
   unfold Q05.J3
   refine ⟨cd, ce, ca, au, ⟨a2.celli 0 rfl rfl, a2.celli 1 rfl rfl, trivial⟩, ?_⟩
   refine ⟨b3, bg, ag, am, af, ai, ah, b1, b4, ay, ⟨a1.celli 0 rfl rfl, a1.celli 1 rfl rfl, a1.celli 2 rfl rfl, a1.celli 3 rfl rfl, a1.celli 4 rfl rfl, a1.celli 5 rfl rfl, trivial⟩, ?_⟩
   have h := h b2 (bk.heap.size) be (PrivJ.cons (.inr df) a3.lt PrivJ.nil)
   refine h.mono fun d2 al h => ?_
   obtain ⟨ba, b6, b9, aa, b0, he, hk, h⟩ := h
   refine ⟨ba, b6, b9, aa, b0, he, ?_⟩
   have a2 := hk.blk a2 (by simp)
   have a0 := hk.blk a0 (by simp)
   have a1 := hk.blk a1 (by simp)
   have a3 := hk.blk a3 (by simp)
   refine Q01 fun d9 ao => ?_
   have av := Blk.of_new ao
   have d1 := ((Ext.refl no al)).size
   have br := Nat.ne_of_lt a2.lt
   have a2 := a2.x_alloc ao
   have bu := Nat.ne_of_lt a0.lt
   have a0 := a0.x_alloc ao
   have bs := Nat.ne_of_lt a1.lt
   have a1 := a1.x_alloc ao
   have c2 := Nat.ne_of_lt a3.lt
   have a3 := a3.x_alloc ao
   have c1 := (Ext.refl no al).x_alloc ao
   refine Q0o (k := 0) (j := 0) av (Nat.le_of_ble_eq_true rfl) fun bf ax cl => ?_
   have c3 := c1.x_puts ax (.inr d1)
   have a2 := a2.x_puts ax br
   have a0 := a0.x_puts ax bu
   have a1 := a1.x_puts ax bs
   have a3 := a3.x_puts ax c2
   have av : Blk bf al.heap.size 64 [.slice ba b6 b9, .int .i64 aa] := cl
   refine ⟨c6, c7, c8, aq, ⟨a0.celli 0 rfl rfl, a0.celli 1 rfl rfl, trivial⟩, ?_⟩
   refine ⟨ae, aj, a5, a8, a6, a4, a7, ac, ad, ab, ⟨a3.celli 0 rfl rfl, a3.celli 1 rfl rfl, a3.celli 2 rfl rfl, a3.celli 3 rfl rfl, a3.celli 4 rfl rfl, a3.celli 5 rfl rfl, trivial⟩, ?_⟩
   have h := h bf (al.heap.size) c3 (Priv.cons d1 av.lt Priv.nil)
   refine h.mono fun cy ar h => ?_
   obtain ⟨b7, b5, b8, a9, az, he, hk, h⟩ := h
   refine ⟨b7, b5, b8, a9, az, he, ?_⟩
   have a2 := hk.blk a2 (by simp)
   have a0 := hk.blk a0 (by simp)
   have a1 := hk.blk a1 (by simp)
   have a3 := hk.blk a3 (by simp)
   have av := hk.blk av (by simp)
   refine Q01 fun d5 ak => ?_
   have cc := Blk.of_new ak
   have dw := ((Ext.refl no ar)).size
   have bn := Nat.ne_of_lt a2.lt
   have a2 := a2.x_alloc ak
   have bz := Nat.ne_of_lt a0.lt
   have a0 := a0.x_alloc ak
   have c0 := Nat.ne_of_lt a1.lt
   have a1 := a1.x_alloc ak
   have bq := Nat.ne_of_lt a3.lt
   have a3 := a3.x_alloc ak
   have bt := Nat.ne_of_lt av.lt
   have av := av.x_alloc ak
   have c4 := (Ext.refl no ar).x_alloc ak
   refine Q0o (k := 0) (j := 0) cc (Nat.le_of_ble_eq_true rfl) fun aw an cj => ?_
   have bd := c4.x_puts an (.inr dw)
   have a2 := a2.x_puts an bn
   have a0 := a0.x_puts an bz
   have a1 := a1.x_puts an c0
   have a3 := a3.x_puts an bq
   have av := av.x_puts an bt
   have cc : Blk aw ar.heap.size 68 [.slice b7 b5 b8, .int .i64 a9] := cj
   refine bif_of (fun bj => ?_) (fun bj => ?_)
   ·have h := h.1 (bne_t bj)
    have h := h aw bd
    exact h
   have h := h.2 (bne_f bj)
   refine bif_of (fun bh => ?_) (fun bh => ?_)
   ·have h := h.1 (bne_t bh)
    have h := h aw bd
    exact h
   have h := h.2 (bne_f bh)
   rotate_left
   refine Q01 fun cw bv => ?_
   have a3 := Blk.of_new bv
   have df := ((Ext.refl no bc)).size
   have bo := Nat.ne_of_lt a2.lt
   have a2 := a2.x_alloc bv
   have bp := Nat.ne_of_lt a0.lt
   have a0 := a0.x_alloc bv
   have bx := Nat.ne_of_lt a1.lt
   have a1 := a1.x_alloc bv
   have ch := (Ext.refl no bc).x_alloc bv
   refine ⟨⟨a0.celli 0 rfl rfl, a0.celli 1 rfl rfl, trivial⟩, (ch).cell d3 id, ?_⟩
   have h := h cw [bc.heap.size] ch (Priv.cons df a3.lt Priv.nil)
   refine h.mono fun ew cf h => ?_
   obtain ⟨ae, aj, a5, a8, a6, a4, a7, ac, ad, ab, ap, bl, he, hkL, hk, h⟩ := h
   refine ⟨ae, aj, a5, a8, a6, a4, a7, ac, ad, ab, ap, bl, he, ?_⟩
   have a3 := hkL.blk a3 (by simp)
   have a2 := hk.blk a2 (by simp)
   have a0 := hk.blk a0 (by simp)
   have a1 := hk.blk a1 (by simp)
   refine Q0o (k := 0) (j := 0) a3 (Nat.le_of_ble_eq_true rfl) fun b2 bb ck => ?_
   have be := (Ext.refl (fun b => b ∈ ([bc.heap.size] : List Nat)) cf).x_puts bb (.inl (by simp))
   have a2 := a2.x_puts bb bo
   have a0 := a0.x_puts bb bp
   have a1 := a1.x_puts bb bx
   have a3 : Blk b2 bc.heap.size 77 [.int .i64 ae, .int .i64 aj, .int .u64 a5, .int .i64 a8, .slice a6 a4 a7, .slice ac ad ab] := ck
   unfold Q05.J4
   refine bif_of (fun bi => ?_) (fun bi => ?_)
   ·have h := h.1 (bne_t bi)
    have h := h b2 be
    exact h
   have h := h.2 (bne_f bi)
   unfold Q05.J3
   refine ⟨cd, ce, ca, au, ⟨a2.celli 0 rfl rfl, a2.celli 1 rfl rfl, trivial⟩, ?_⟩
   refine ⟨b3, bg, ag, am, af, ai, ah, b1, b4, ay, ⟨a1.celli 0 rfl rfl, a1.celli 1 rfl rfl, a1.celli 2 rfl rfl, a1.celli 3 rfl rfl, a1.celli 4 rfl rfl, a1.celli 5 rfl rfl, trivial⟩, ?_⟩
   have h := h b2 (bc.heap.size) be (PrivJ.cons (.inl (by simp)) a3.lt PrivJ.nil)
   refine h.mono fun d2 al h => ?_
   obtain ⟨ba, b6, b9, aa, b0, he, hk, h⟩ := h
   refine ⟨ba, b6, b9, aa, b0, he, ?_⟩
   have a2 := hk.blk a2 (by simp)
   have a0 := hk.blk a0 (by simp)
   have a1 := hk.blk a1 (by simp)
   have a3 := hk.blk a3 (by simp)
   refine Q01 fun d9 ao => ?_
   have av := Blk.of_new ao
   have d1 := ((Ext.refl no al)).size
   have br := Nat.ne_of_lt a2.lt
   have a2 := a2.x_alloc ao
   have bu := Nat.ne_of_lt a0.lt
   have a0 := a0.x_alloc ao
   have bs := Nat.ne_of_lt a1.lt
   have a1 := a1.x_alloc ao
   have c2 := Nat.ne_of_lt a3.lt
   have a3 := a3.x_alloc ao
   have c1 := (Ext.refl no al).x_alloc ao
   refine Q0o (k := 0) (j := 0) av (Nat.le_of_ble_eq_true rfl) fun bf ax cl => ?_
   have c3 := c1.x_puts ax (.inr d1)
   have a2 := a2.x_puts ax br
   have a0 := a0.x_puts ax bu
   have a1 := a1.x_puts ax bs
   have a3 := a3.x_puts ax c2
   have av : Blk bf al.heap.size 64 [.slice ba b6 b9, .int .i64 aa] := cl
   refine ⟨c6, c7, c8, aq, ⟨a0.celli 0 rfl rfl, a0.celli 1 rfl rfl, trivial⟩, ?_⟩
   refine ⟨ae, aj, a5, a8, a6, a4, a7, ac, ad, ab, ⟨a3.celli 0 rfl rfl, a3.celli 1 rfl rfl, a3.celli 2 rfl rfl, a3.celli 3 rfl rfl, a3.celli 4 rfl rfl, a3.celli 5 rfl rfl, trivial⟩, ?_⟩
   have h := h bf (al.heap.size) c3 (Priv.cons d1 av.lt Priv.nil)
   refine h.mono fun cy ar h => ?_
   obtain ⟨b7, b5, b8, a9, az, he, hk, h⟩ := h
   refine ⟨b7, b5, b8, a9, az, he, ?_⟩
   have a2 := hk.blk a2 (by simp)
   have a0 := hk.blk a0 (by simp)
   have a1 := hk.blk a1 (by simp)
   have a3 := hk.blk a3 (by simp)
   have av := hk.blk av (by simp)
   refine Q01 fun d5 ak => ?_
   have cc := Blk.of_new ak
   have dw := ((Ext.refl no ar)).size
   have bn := Nat.ne_of_lt a2.lt
   have a2 := a2.x_alloc ak
   have bz := Nat.ne_of_lt a0.lt
   have a0 := a0.x_alloc ak
   have c0 := Nat.ne_of_lt a1.lt
   have a1 := a1.x_alloc ak
   have bq := Nat.ne_of_lt a3.lt
   have a3 := a3.x_alloc ak
   have bt := Nat.ne_of_lt av.lt
   have av := av.x_alloc ak
   have c4 := (Ext.refl no ar).x_alloc ak
   refine Q0o (k := 0) (j := 0) cc (Nat.le_of_ble_eq_true rfl) fun aw an cj => ?_
   have bd := c4.x_puts an (.inr dw)
   have a2 := a2.x_puts an bn
   have a0 := a0.x_puts an bz
   have a1 := a1.x_puts an c0
   have a3 := a3.x_puts an bq
   have av := av.x_puts an bt
   have cc : Blk aw ar.heap.size 68 [.slice b7 b5 b8, .int .i64 a9] := cj
   refine bif_of (fun bj => ?_) (fun bj => ?_)
   ·have h := h.1 (bne_t bj)
    have h := h aw bd
    exact h
   have h := h.2 (bne_f bj)
   refine bif_of (fun bh => ?_) (fun bh => ?_)
   ·have h := h.1 (bne_t bh)
    have h := h aw bd
    exact h
   have h := h.2 (bne_f bh)
   rotate_left
  rotate_left 2
  all_goals
   unfold Q05.J2
   refine Q01 fun eb ci => ?_
   have es := bd.x_drew ci
   have a2 := a2.x_drew ci
   have a0 := a0.x_drew ci
   have a1 := a1.x_drew ci
   have a3 := a3.x_drew ci
   have av := av.x_drew ci
   have cc := cc.x_drew ci
   refine ⟨ba, b6, b9, aa, ⟨av.celli 0 rfl rfl, av.celli 1 rfl rfl, trivial⟩, ?_⟩
   refine ⟨b7, b5, b8, a9, ⟨cc.celli 0 rfl rfl, cc.celli 1 rfl rfl, trivial⟩, ?_⟩
   have ee : Ext (fun b => b = cg.heap.size) ar eb := (es).none
   refine Q0o (k := 0) (j := 0) a2 (Nat.le_of_ble_eq_true rfl) fun di d7 fr => ?_
   have ey := ee.x_puts d7 (.inl rfl)
   have a2 : Blk di cg.heap.size 64 [.slice ba b6 b9, .int .i64 aa] := fr
   have a0 := a0.x_puts d7 (Ne.symm cq)
   have a1 := a1.x_puts d7 (Ne.symm cm)
   have a3 := a3.x_puts d7 (Ne.symm bo)
   have cc := cc.x_puts d7 (Ne.symm bn)
   refine ⟨⟨cc.celli 0 rfl rfl, cc.celli 1 rfl rfl, trivial⟩, ?_⟩
   have er : Ext (fun b => b = cs.heap.size ∨ b = cg.heap.size) ar di := (ey).mono fun _ h _ => .inr h
   refine Q0o (k := 0) (j := 0) a0 (Nat.le_of_ble_eq_true rfl) fun em db fl => ?_
   have f0 := er.x_puts db (.inl (.inl rfl))
   have a2 := a2.x_puts db cq
   have a0 : Blk em cs.heap.size 68 [.slice b7 b5 b8, .int .i64 a9] := fl
   have a1 := a1.x_puts db (Ne.symm cr)
   have a3 := a3.x_puts db (Ne.symm bp)
   unfold Q05.J1
   refine Q01 fun ej ct => ?_
   have eo := f0.x_drew ct
   have a2 := a2.x_drew ct
   have a0 := a0.x_drew ct
   have a1 := a1.x_drew ct
   have a3 := a3.x_drew ct
   have h := h ej eo
   obtain ⟨f5, ef, h⟩ := h
   refine ⟨f5, ef, ?_⟩
   refine ⟨b3, bg, ag, am, af, ai, ah, b1, b4, ay, ⟨a1.celli 0 rfl rfl, a1.celli 1 rfl rfl, a1.celli 2 rfl rfl, a1.celli 3 rfl rfl, a1.celli 4 rfl rfl, a1.celli 5 rfl rfl, trivial⟩, ?_⟩
   refine h.mono fun g1 el h => ?_
   obtain ⟨d6, he, hk, h⟩ := h
   refine ⟨d6, he, ?_⟩
   have a2 := hk.blk a2 (by simp)
   have a0 := hk.blk a0 (by simp)
   have a1 := hk.blk a1 (by simp)
   have a3 := hk.blk a3 (by simp)
   refine Q01 fun eh d8 => ?_
   have dh := (Ext.refl no el).x_drew d8
   have a2 := a2.x_drew d8
   have a0 := a0.x_drew d8
   have a1 := a1.x_drew d8
   have a3 := a3.x_drew d8
   obtain ⟨fv, e7, h⟩ := h
   refine ⟨fv, (dh).cell e7 id, ?_⟩
   refine ⟨b3, bg, ag, am, af, ai, ah, b1, b4, ay, ⟨a1.celli 0 rfl rfl, a1.celli 1 rfl rfl, a1.celli 2 rfl rfl, a1.celli 3 rfl rfl, a1.celli 4 rfl rfl, a1.celli 5 rfl rfl, trivial⟩, ?_⟩
   have h := h eh dh
   refine h.mono fun g8 ep h => ?_
   obtain ⟨da, he, hk, h⟩ := h
   refine ⟨da, he, ?_⟩
   have a2 := hk.blk a2 (by simp)
   have a0 := hk.blk a0 (by simp)
   have a3 := hk.blk a3 (by simp)
   refine Q01 fun eg dd => ?_
   have cz := (Ext.refl no ep).x_drew dd
   have a2 := a2.x_drew dd
   have a0 := a0.x_drew dd
   have a3 := a3.x_drew dd
   obtain ⟨f8, eq, h⟩ := h
   refine ⟨f8, (cz).cell eq id, ?_⟩
   obtain ⟨fg, en, h⟩ := h
   refine ⟨fg, (cz).cell en id, ?_⟩
   refine ⟨ae, aj, a5, a8, a6, a4, a7, ac, ad, ab, ⟨a3.celli 0 rfl rfl, a3.celli 1 rfl rfl, a3.celli 2 rfl rfl, a3.celli 3 rfl rfl, a3.celli 4 rfl rfl, a3.celli 5 rfl rfl, trivial⟩, ?_⟩
   have h := h eg cz
   refine h.mono fun g6 g2 h => ?_
   obtain ⟨cv, he, hk, h⟩ := h
   refine ⟨cv, he, ?_⟩
   have a2 := hk.blk a2 (by simp)
   have a0 := hk.blk a0 (by simp)
   obtain ⟨i9, gc, h⟩ := h
   try rw [w64 i9 gc]
   obtain ⟨fa, hk, h⟩ := h
   exact ⟨fa, hk, ba, b6, b9, aa, b7, b5, b8, a9, a2, a0, h⟩

theorem Q05.go (a2 : Option Addr) (a1 a0 : Nat) (a3 : Int) {R : RW} {w : World} (h : Q05.N a2 a1 a0 a3 R w) : Calls Try.prog 7 #[.slice a2 a1 a0, .int .i64 a3] w fun e w' => ∃ v, e = .returned v ∧ R v w' := Q05.ok a2 a1 a0 a3 (Q05.up a2 a1 a0 a3 h)
abbrev Q0w.J1 (br : Int) (bu : Option Addr) (bp bq : Nat) (bd : Option Addr) (R : RW) (a8 : World) : Prop :=
 thenW (a8.alloc (.cells #[.int .i64 0, .int .i64 0, .int .u64 0, .int .i64 0, .int .i64 0, .int .i64 0, .slice none 0 0, .int .u64 0] 42)) fun bg =>
 putsK bg (blk a8.heap.size) [.int .i64 1, .int .i64 0, .int .u64 0, .int .i64 1, .int .i64 1, .int .i64 0, .slice bu bp bq, .int .u64 0] 0 fun bh =>
 thenW (bh.drew) fun b8 =>
 bd.elim False fun bo =>
 ∃ (bn : Option Addr), b8.cell? (bo.add 0) = some (.pointer bn) ∧
 bd.elim False fun bs =>
 ∃ (bj : Option Addr), b8.cell? (bs.add 2) = some (.pointer bj) ∧
 ∃ (a6 ac av b6 b2 a9 : Int) (af : Option Addr) (ai aa : Nat) (ax : Int), cellsAt b8 (blk a8.heap.size) [.int .i64 a6, .int .i64 ac, .int .u64 av, .int .i64 b6, .int .i64 b2, .int .i64 a9, .slice af ai aa, .int .u64 ax] 0 ∧
 Calls Try.prog 9 #[.pointer bn, .pointer bj, .agg #[.int .i64 a6, .int .i64 ac, .int .u64 av, .int .i64 b6, .int .i64 b2, .int .i64 a9, .slice af ai aa, .int .u64 ax]] b8 fun bi bc => ∃ (ak : Option Addr) (ah ab : Nat) (ap : Int), bi = .returned (.tuple #[.slice ak ah ab, .int .i64 ap]) ∧
 Q0d bc (((blk a8.heap.size).add 1).add 0) ∧
 thenW (bc.setCell (((blk a8.heap.size).add 1).add 0) (.int .i64 1)) fun b9 =>
 Q0d b9 (((blk a8.heap.size).add 2).add 0) ∧
 thenW (b9.setCell (((blk a8.heap.size).add 2).add 0) (.int .u64 5)) fun be =>
 thenW (be.drew) fun b7 =>
 bd.elim False fun bt =>
 ∃ (bl : Option Addr), b7.cell? (bt.add 0) = some (.pointer bl) ∧
 bd.elim False fun bv =>
 ∃ (bk : Option Addr), b7.cell? (bv.add 2) = some (.pointer bk) ∧
 ∃ (a7 ae ao b3 b1 al : Int) (am : Option Addr) (an ag : Nat) (az : Int), cellsAt b7 (blk a8.heap.size) [.int .i64 a7, .int .i64 ae, .int .u64 ao, .int .i64 b3, .int .i64 b1, .int .i64 al, .slice am an ag, .int .u64 az] 0 ∧
 Calls Try.prog 9 #[.pointer bl, .pointer bk, .agg #[.int .i64 a7, .int .i64 ae, .int .u64 ao, .int .i64 b3, .int .i64 b1, .int .i64 al, .slice am an ag, .int .u64 az]] b7 fun bf ad => ∃ (b0 : Option Addr) (ay b4 : Nat) (au : Int), bf = .returned (.tuple #[.slice b0 ay b4, .int .i64 au]) ∧
 bif br == 0 then (
 bif ap == 0 then (
 ∃ (bm : ByteArray), (convert 25 9 (.slice ak ah ab)).run Try.prog ad = .ok (.string bm) ad ∧
 bif bm.toList == (ByteArray.mk #[120]).toList then (
 bif au == 5 then (
 ∃ (a1 aj ar b5 aw a2 : Int) (a0 : Option Addr) (a3 a4 : Nat) (aq : Int), cellsAt ad (blk a8.heap.size) [.int .i64 a1, .int .i64 aj, .int .u64 ar, .int .i64 b5, .int .i64 aw, .int .i64 a2, .slice a0 a3 a4, .int .u64 aq] 0 ∧
 Calls Try.prog 12 #[.agg #[.int .i64 a1, .int .i64 aj, .int .u64 ar, .int .i64 b5, .int .i64 aw, .int .i64 a2, .slice a0 a3 a4, .int .u64 aq]] ad fun bb ba => ∃ (a5 : Int), bb = .returned (.int .i64 a5) ∧
 R (.bool (a5 == 0)) ba) else (
 R (.bool false) ad)) else (
 R (.bool false) ad)) else (
 R (.bool false) ad)) else (
 R (.bool false) ad)

abbrev Q0w.J2 (j6 : Option Addr) (R : RW) (ag : World) : Prop :=
 thenW (ag.drew) fun ab =>
 j6.elim False fun ae =>
 ∃ (aa : Option Addr), ab.cell? (ae.add 0) = some (.pointer aa) ∧
 j6.elim False fun af =>
 ∃ (a9 : Option Addr), ab.cell? (af.add 2) = some (.pointer a9) ∧
 thenW (ab.alloc (.cells #[.int .u8 120] 5)) fun a5 =>
 a5.cell? (af.add 2) = some (.pointer a9) ∧
 a5.cell? (ae.add 0) = some (.pointer aa) ∧
 ∃ (a6 : Option Addr) (a8 a7 : Nat) (a4 : World), (convert 25 25 (.slice (some (blk ab.heap.size)) 1 1)).run Try.prog a5 = .ok (.slice a6 a8 a7) a4 ∧
 a4.cell? (af.add 2) = some (.pointer a9) ∧
 a4.cell? (ae.add 0) = some (.pointer aa) ∧
 Calls Try.prog 8 #[.pointer aa, .pointer a9, .int .i64 1, .int .i64 0, .int .i64 0, .slice a6 a8 a7] a4 fun ad ac => ∃ (a0 : Option Addr) (a2 a1 : Nat) (a3 : Int), ad = .returned (.tuple #[.slice a0 a2 a1, .int .i64 a3]) ∧
 Q0w.J1 a3 a0 a2 a1 j6 R ac

def Q0w.M  (R : RW) (w : World) : Prop :=
 Calls Try.prog 7 #[.slice none 0 0, .int .i64 1] w fun a2 a1 => ∃ (a0 : Option Addr), a2 = .returned (.pointer a0) ∧
 bif Option.isNone a0 then (
 R (.bool false) a1) else (
 Q0w.J2 a0 R a1)

theorem Q0w.ok  {R : RW} {w : World} (h : Q0w.M  R w) : Calls Try.prog 6 #[] w fun e w' => ∃ v, e = .returned v ∧ R v w' :=
  Q0j follows (H := []) (args := []) (cast (by kernel_rfl) h)

def Q0w.N  (R : RW) (w : World) : Prop :=
 Calls Try.prog 7 #[.slice none 0 0, .int .i64 1] w fun b5 al => ∃ (a1 : Option Addr), b5 = .returned (.pointer a1) ∧
 (a1 = none →
 R (.bool false) al) ∧
 (a1 ≠ none →
 ∃ a6 : Addr, a1 = some a6 ∧
 ∃ (o8 : Option Addr), al.cell? (a6.add 0) = some (.pointer o8) ∧
 ∃ (au : Option Addr), al.cell? (a6.add 2) = some (.pointer au) ∧
 ∀ (ad : World) (ar : Nat), Ext no al ad → Blk ad ar 5 [.int .u8 120] → al.heap.size ≤ ar → ar < ad.heap.size →
 ad.cell? (a6.add 2) = some (.pointer au) ∧
 ad.cell? (a6.add 0) = some (.pointer o8) ∧
 ∃ (an : Option Addr) (am ap : Nat) (ak : World), (convert 25 25 (.slice (some (blk ar)) 1 1)).run Try.prog ad = .ok (.slice an am ap) ak ∧
 ak.cell? (a6.add 2) = some (.pointer au) ∧
 ak.cell? (a6.add 0) = some (.pointer o8) ∧
 Calls Try.prog 8 #[.pointer o8, .pointer au, .int .i64 1, .int .i64 0, .int .i64 0, .slice an am ap] ak fun av aj => ∃ (a2 : Option Addr) (a3 a0 : Nat) (a5 : Int), av = .returned (.tuple #[.slice a2 a3 a0, .int .i64 a5]) ∧
 ∃ (b4 : Option Addr), aj.cell? (a6.add 0) = some (.pointer b4) ∧
 ∃ (b1 : Option Addr), aj.cell? (a6.add 2) = some (.pointer b1) ∧
 ∀ (ai : World) (aq : Nat), Ext no aj ai → Priv aj ai [aq] →
 Calls Try.prog 9 #[.pointer b4, .pointer b1, .agg #[.int .i64 1, .int .i64 0, .int .u64 0, .int .i64 1, .int .i64 1, .int .i64 0, .slice a2 a3 a0, .int .u64 0]] ai fun ax ao => ∃ (aa : Option Addr) (a8 a9 : Nat) (a7 : Int), ax = .returned (.tuple #[.slice aa a8 a9, .int .i64 a7]) ∧
 Keep [aq] ai ao ∧
 ∀ (ah : World), Ext (fun b => b = aq) ao ah →
 ∃ (b2 : Option Addr), ah.cell? (a6.add 0) = some (.pointer b2) ∧
 ∃ (b3 : Option Addr), ah.cell? (a6.add 2) = some (.pointer b3) ∧
 Calls Try.prog 9 #[.pointer b2, .pointer b3, .agg #[.int .i64 1, .int .i64 1, .int .u64 5, .int .i64 1, .int .i64 1, .int .i64 0, .slice a2 a3 a0, .int .u64 0]] ah fun az ac => ∃ (af : Option Addr) (ag ae : Nat) (a4 : Int), az = .returned (.tuple #[.slice af ag ae, .int .i64 a4]) ∧
 Keep [aq] ah ac ∧
 (a5 = 0 →
 (a7 = 0 →
 ∃ (ay : ByteArray), (convert 25 9 (.slice aa a8 a9)).run Try.prog ac = .ok (.string ay) ac ∧
 (ay.toList = (ByteArray.mk #[120]).toList →
 (a4 = 5 →
 Calls Try.prog 12 #[.agg #[.int .i64 1, .int .i64 1, .int .u64 5, .int .i64 1, .int .i64 1, .int .i64 0, .slice a2 a3 a0, .int .u64 0]] ac fun b0 aw => ∃ (ab : Int), b0 = .returned (.int .i64 ab) ∧
 R (.bool (ab == 0)) aw) ∧
 (a4 ≠ 5 →
 R (.bool false) ac)) ∧
 (ay.toList ≠ (ByteArray.mk #[120]).toList →
 R (.bool false) ac)) ∧
 (a7 ≠ 0 →
 R (.bool false) ac)) ∧
 (a5 ≠ 0 →
 R (.bool false) ac))

theorem Q0w.up  {R : RW} {w : World} (h : Q0w.N  R w) : Q0w.M  R w := by
  unfold Q0w.M
  unfold Q0w.N at h
  refine h.mono fun c8 bq h => ?_
  obtain ⟨aa, he, h⟩ := h
  refine ⟨aa, he, ?_⟩
  refine bif_of (fun c4 => ?_) (fun c4 => ?_)
  ·have h := h.1 (Q1J c4)
   exact h
  have h := h.2 (Q1F c4)
  unfold Q0w.J2
  refine Q01 fun bt e5 => ?_
  have ak := (Ext.refl no bq).x_drew e5
  obtain ⟨a6, aj, h⟩ := h
  refine Q06 aj ?_
  obtain ⟨o8, bz, h⟩ := h
  refine ⟨o8, (ak).cell bz id, ?_⟩
  refine Q06 aj ?_
  obtain ⟨c2, bw, h⟩ := h
  refine ⟨c2, (ak).cell bw id, ?_⟩
  refine Q01 fun bd an => ?_
  have h := h bd bt.heap.size (ak.x_alloc an) (Blk.of_new an) (ak).size (Q0v an)
  obtain ⟨al, ay, h⟩ := h
  refine ⟨al, ay, ?_⟩
  obtain ⟨bb, b8, be, b6, hr, h⟩ := h
  refine ⟨bb, b8, be, b6, hr, ?_⟩
  obtain ⟨bf, ax, h⟩ := h
  refine ⟨bf, ax, ?_⟩
  refine h.mono fun bn a4 h => ?_
  obtain ⟨a1, a2, a0, af, he, h⟩ := h
  refine ⟨a1, a2, a0, af, he, ?_⟩
  unfold Q0w.J1
  refine Q01 fun bp bh => ?_
  have a3 := Blk.of_new bh
  have bj := ((Ext.refl no a4)).size
  have az := (Ext.refl no a4).x_alloc bh
  refine Q0o (k := 0) (j := 0) a3 (Nat.le_of_ble_eq_true rfl) fun b3 br bv => ?_
  have aw := az.x_puts br (.inr bj)
  have a3 : Blk b3 a4.heap.size 42 [.int .i64 1, .int .i64 0, .int .u64 0, .int .i64 1, .int .i64 1, .int .i64 0, .slice a1 a2 a0, .int .u64 0] := bv
  refine Q01 fun b0 bk => ?_
  have ah := aw.x_drew bk
  have a3 := a3.x_drew bk
  refine Q06 aj ?_
  obtain ⟨c5, am, h⟩ := h
  refine ⟨c5, (ah).cell am id, ?_⟩
  refine Q06 aj ?_
  obtain ⟨bx, aq, h⟩ := h
  refine ⟨bx, (ah).cell aq id, ?_⟩
  refine ⟨1, 0, 0, 1, 1, 0, a1, a2, a0, 0, ⟨a3.celli 0 rfl rfl, a3.celli 1 rfl rfl, a3.celli 2 rfl rfl, a3.celli 3 rfl rfl, a3.celli 4 rfl rfl, a3.celli 5 rfl rfl, a3.celli 6 rfl rfl, a3.celli 7 rfl rfl, trivial⟩, ?_⟩
  have h := h b0 (a4.heap.size) ah (Priv.cons bj a3.lt Priv.nil)
  refine h.mono fun bs ai h => ?_
  obtain ⟨a9, a5, a7, ag, he, hk, h⟩ := h
  refine ⟨a9, a5, a7, ag, he, ?_⟩
  have a3 := hk.blk a3 (by simp)
  have av : Ext (fun b => b = a4.heap.size) ai ai := ((Ext.refl no ai)).none
  refine ⟨a3.cani 1 rfl rfl, Q01 fun au bl => ?_⟩
  have b7 := av.x_set (q := a4.heap.size) (i := 1) rfl (.inl rfl) bl
  have a3 : Blk au a4.heap.size 42 [.int .i64 1, .int .i64 1, .int .u64 0, .int .i64 1, .int .i64 1, .int .i64 0, .slice a1 a2 a0, .int .u64 0] := a3.seti 1 rfl bl
  refine ⟨a3.cani 2 rfl rfl, Q01 fun ar bi => ?_⟩
  have ao := b7.x_set (q := a4.heap.size) (i := 2) rfl (.inl rfl) bi
  have a3 : Blk ar a4.heap.size 42 [.int .i64 1, .int .i64 1, .int .u64 5, .int .i64 1, .int .i64 1, .int .i64 0, .slice a1 a2 a0, .int .u64 0] := a3.seti 2 rfl bi
  refine Q01 fun bc bm => ?_
  have b5 := ao.x_drew bm
  have a3 := a3.x_drew bm
  refine Q06 aj ?_
  have h := h bc b5
  obtain ⟨c1, b1, h⟩ := h
  refine ⟨c1, b1, ?_⟩
  refine Q06 aj ?_
  obtain ⟨c3, b2, h⟩ := h
  refine ⟨c3, b2, ?_⟩
  refine ⟨1, 1, 5, 1, 1, 0, a1, a2, a0, 0, ⟨a3.celli 0 rfl rfl, a3.celli 1 rfl rfl, a3.celli 2 rfl rfl, a3.celli 3 rfl rfl, a3.celli 4 rfl rfl, a3.celli 5 rfl rfl, a3.celli 6 rfl rfl, a3.celli 7 rfl rfl, trivial⟩, ?_⟩
  refine h.mono fun c0 c7 h => ?_
  obtain ⟨ab, ac, a8, ae, he, hk, h⟩ := h
  refine ⟨ab, ac, a8, ae, he, ?_⟩
  have a3 := hk.blk a3 (by simp)
  refine bif_fo (fun ap => ?_) (fun ap => ?_)
  ·have h := h.2 (beq_f ap)
   exact h
  have h := h.1 (beq_t ap)
  refine bif_fo (fun bg => ?_) (fun bg => ?_)
  ·have h := h.2 (beq_f bg)
   exact h
  have h := h.1 (beq_t bg)
  obtain ⟨bu, b9, h⟩ := h
  refine ⟨bu, b9, ?_⟩
  refine bif_fo (fun ba => ?_) (fun ba => ?_)
  ·have h := h.2 (lbeq_f ba)
   exact h
  have h := h.1 (lbeq_t ba)
  refine bif_fo (fun b4 => ?_) (fun b4 => ?_)
  ·have h := h.2 (beq_f b4)
   exact h
  have h := h.1 (beq_t b4)
  refine ⟨1, 1, 5, 1, 1, 0, a1, a2, a0, 0, ⟨a3.celli 0 rfl rfl, a3.celli 1 rfl rfl, a3.celli 2 rfl rfl, a3.celli 3 rfl rfl, a3.celli 4 rfl rfl, a3.celli 5 rfl rfl, a3.celli 6 rfl rfl, a3.celli 7 rfl rfl, trivial⟩, ?_⟩
  refine h.mono fun c6 bo h => ?_
  obtain ⟨ad, he, h⟩ := h
  refine ⟨ad, he, ?_⟩
  exact h

theorem Q0w.go  {R : RW} {w : World} (h : Q0w.N  R w) : Calls Try.prog 6 #[] w fun e w' => ∃ v, e = .returned v ∧ R v w' := Q0w.ok  (Q0w.up  h)
set_option maxRecDepth 20000
structure RB where
  q : Nat
  k : Nat
  j : Nat
  a : Nat
  x : Nat
  b : Nat
  pub : Int
def RB.V (B : RB) : List Value := [.pointer (some (blk B.k)), .pointer (some (blk B.j)), .pointer (some (blk B.a)), .pointer (some (blk B.x)), .pointer (some (blk B.b)), .int .u64 B.pub]
structure RB.under (B : RB) (N : Nat) : Prop where
  q : B.q < N
  k : B.k < N
  j : B.j < N
  a : B.a < N
  x : B.x < N
  b : B.b < N
structure RB.over (B : RB) (N : Nat) : Prop where
  q : N ≤ B.q
  k : N ≤ B.k
  j : N ≤ B.j
  a : N ≤ B.a
  x : N ≤ B.x
  b : N ≤ B.b
structure RmG (w : World) (o : Own) (B : RB) (S T : OS) (n : Nat) (Ra Rx Rb : Rng) : Prop where
  bk : Blk w B.q 38 B.V
  tg : o B.q = some B.q
  orc : POrc w o B.k S
  rof : Rof w o B.j T n
  a : EG w o B.a B.k Ra
  x : EG w o B.x B.k Rx
  b : MG w o B.b Rb
  ne : Ra.who ≠ Rx.who
section
variable {w w' w1 w2 : World} {o o' o1 : Own} {q k p N m n i : Nat} {K : Nat → Prop} {B : RB} {S T : OS} {Ra Rx Rb : Rng}
theorem blkSet {t : TypeId} {cs : List Value} (hb : Blk w q t cs) (tg : o q = some q) (ok : Tags w o) {v : Value} {ad : Addr} (ha : ad = ⟨q, i, none⟩) (e : w' = w.setCell ad v) :
    Step (fun j => j = q) w o w' (grow w o) ∧ Blk w' q t (cs.set i v) ∧ grow w o q = some q := by
  have X3 : Ext (fun b => b = q) w w' := (Ext.refl (fun b => b = q) w).x_set (q := q) (i := i) ha (.inl rfl) e
  have s3 : Step (fun j => j = q) w o w' (grow w o) := Step.of_ext X3 ok fun b hb _ => by subst hb; exact tg
  exact ⟨s3, hb.seti i ha e, by rw [s3.own hb.lt]; exact tg⟩
theorem RmG.under (h : RmG w o B S T n Ra Rx Rb) : B.under w.heap.size := ⟨h.bk.lt, h.orc.lt, h.rof.lt, h.a.lt, h.x.lt, h.b.lt⟩
theorem RmG.step (h : RmG w o B S T n Ra Rx Rb) (s : Step K w o w' o') (hq : ¬ K B.q) (hk : ¬ K B.k) (hj : ¬ K B.j) (ha : ¬ K B.a) (hx : ¬ K B.x) (hb : ¬ K B.b) : RmG w' o' B S T n Ra Rx Rb :=
  ⟨s.blk h.bk h.tg hq, by rw [s.own h.bk.lt]; exact h.tg, h.orc.step s hk, h.rof.step s hj, h.a.step s ha, h.x.step s hx, h.b.step s hb, h.ne⟩
theorem RmG.no (h : RmG w o B S T n Ra Rx Rb) (s : Step no w o w' o') : RmG w' o' B S T n Ra Rx Rb := h.step s id id id id id id
theorem RmG.far (h : RmG w o B S T n Ra Rx Rb) (u : B.under N) (s : Step K w o w' o') (hk : ∀ j, K j → N ≤ j) : RmG w' o' B S T n Ra Rx Rb := by
  obtain ⟨u1, u2, u3, u4, u5, u6⟩ := u
  exact h.step s (fun e => by have := hk _ e; omega) (fun e => by have := hk _ e; omega) (fun e => by have := hk _ e; omega) (fun e => by have := hk _ e; omega) (fun e => by have := hk _ e; omega) (fun e => by have := hk _ e; omega)
theorem RmG.ne_q (h : RmG w o B S T n Ra Rx Rb) : B.q ≠ B.k ∧ B.q ≠ B.j ∧ B.q ≠ B.a ∧ B.q ≠ B.x ∧ B.q ≠ B.b := by
  obtain ⟨_, b1⟩ := h.orc.typ
  obtain ⟨_, b2⟩ := h.rof.typ
  obtain ⟨_, b3⟩ := h.a.typ
  obtain ⟨_, b4⟩ := h.x.typ
  obtain ⟨_, b5⟩ := h.b.typ
  exact ⟨Blk.apart h.bk b1 (by decide), Blk.apart h.bk b2 (by decide), Blk.apart h.bk b3 (by decide), Blk.apart h.bk b4 (by decide), Blk.apart h.bk b5 (by decide)⟩
theorem RmG.ne_o (h : RmG w o B S T n Ra Rx Rb) : B.k ≠ B.j ∧ B.k ≠ B.a ∧ B.k ≠ B.x ∧ B.k ≠ B.b ∧ B.j ≠ B.a ∧ B.j ≠ B.x ∧ B.j ≠ B.b := by
  obtain ⟨_, b1⟩ := h.orc.typ
  obtain ⟨_, b2⟩ := h.rof.typ
  obtain ⟨_, b3⟩ := h.a.typ
  obtain ⟨_, b4⟩ := h.x.typ
  obtain ⟨_, b5⟩ := h.b.typ
  exact ⟨Blk.apart b1 b2 (by decide), Blk.apart b1 b3 (by decide), Blk.apart b1 b4 (by decide), Blk.apart b1 b5 (by decide), Blk.apart b2 b3 (by decide), Blk.apart b2 b4 (by decide), Blk.apart b2 b5 (by decide)⟩
theorem RmG.ne_r (h : RmG w o B S T n Ra Rx Rb) : B.a ≠ B.x ∧ B.a ≠ B.b ∧ B.x ≠ B.b := by
  obtain ⟨_, b3⟩ := h.a.typ
  obtain ⟨_, b4⟩ := h.x.typ
  obtain ⟨_, b5⟩ := h.b.typ
  exact ⟨h.a.diff h.x h.ne, Blk.apart b3 b5 (by decide), Blk.apart b4 b5 (by decide)⟩
theorem RmG.toOrc (h : RmG w o B S T n Ra Rx Rb) (s : Step (fun j => j = B.k) w o w' o') {S' : OS} (hP : POrc w' o' B.k S') : RmG w' o' B S' T n Ra Rx Rb := by
  obtain ⟨q1, _⟩ := h.ne_q
  obtain ⟨o1, o2, o3, o4, _⟩ := h.ne_o
  exact ⟨s.blk h.bk h.tg q1, by rw [s.own h.bk.lt]; exact h.tg, hP, h.rof.step s o1.symm, h.a.step s o2.symm, h.x.step s o3.symm, h.b.step s o4.symm, h.ne⟩
theorem RmG.toRof (h : RmG w o B S T n Ra Rx Rb) (s : Step (fun j => j = B.j) w o w' o') {T' : OS} {n' : Nat} (hP : Rof w' o' B.j T' n') : RmG w' o' B S T' n' Ra Rx Rb := by
  obtain ⟨_, q1, _⟩ := h.ne_q
  obtain ⟨o1, _, _, _, o2, o3, o4⟩ := h.ne_o
  exact ⟨s.blk h.bk h.tg q1, by rw [s.own h.bk.lt]; exact h.tg, h.orc.step s o1, hP, h.a.step s o2.symm, h.x.step s o3.symm, h.b.step s o4.symm, h.ne⟩
theorem RmG.toA (h : RmG w o B S T n Ra Rx Rb) (s : Step (fun j => j = B.a) w o w' o') {R : Rng} (hP : EG w' o' B.a B.k R) (hw : R.who = Ra.who) : RmG w' o' B S T n R Rx Rb := by
  obtain ⟨_, _, q1, _⟩ := h.ne_q
  obtain ⟨_, o1, _, _, o2, _⟩ := h.ne_o
  obtain ⟨r1, r2, _⟩ := h.ne_r
  exact ⟨s.blk h.bk h.tg q1, by rw [s.own h.bk.lt]; exact h.tg, h.orc.step s o1, h.rof.step s o2, hP, h.x.step s r1.symm, h.b.step s r2.symm, by rw [hw]; exact h.ne⟩
theorem RmG.toX (h : RmG w o B S T n Ra Rx Rb) (s : Step (fun j => j = B.x) w o w' o') {R : Rng} (hP : EG w' o' B.x B.k R) (hw : R.who = Rx.who) : RmG w' o' B S T n Ra R Rb := by
  obtain ⟨_, _, _, q1, _⟩ := h.ne_q
  obtain ⟨_, _, o1, _, _, o2, _⟩ := h.ne_o
  obtain ⟨r1, _, r2⟩ := h.ne_r
  exact ⟨s.blk h.bk h.tg q1, by rw [s.own h.bk.lt]; exact h.tg, h.orc.step s o1, h.rof.step s o2, h.a.step s r1, hP, h.b.step s r2.symm, by rw [hw]; exact h.ne⟩
theorem RmG.toB (h : RmG w o B S T n Ra Rx Rb) (s : Step (fun j => j = B.b) w o w' o') {R : Rng} (hP : MG w' o' B.b R) : RmG w' o' B S T n Ra Rx R := by
  obtain ⟨_, _, _, _, q1⟩ := h.ne_q
  obtain ⟨_, _, _, o1, _, _, o2⟩ := h.ne_o
  obtain ⟨_, r1, r2⟩ := h.ne_r
  exact ⟨s.blk h.bk h.tg q1, by rw [s.own h.bk.lt]; exact h.tg, h.orc.step s o1, h.rof.step s o2, h.a.step s r1, h.x.step s r2, hP, h.ne⟩
end
def roomK (d : List Int) : Nat → OS × MS × Int × List Int
  | 0 => ((pairOf (pairOf (OS.init d)).2).2, newM (pairOf (OS.init d)).1.2, 0, [])
  | t + 1 => ((beginK (roomK d t).1 (roomK d t).2.1 (roomK d t).2.2.1).2.2, ⟨(roomK d t).2.1.ml, (roomK d t).2.1.ep + 1⟩, (beginK (roomK d t).1 (roomK d t).2.1 (roomK d t).2.2.1).2.1, (roomK d t).2.2.2 ++ [(beginK (roomK d t).1 (roomK d t).2.1 (roomK d t).2.2.1).2.1])
structure RI (d : List Int) (t : Nat) (X : WD) (S : OS) (R : Nat → Rng) (K : List Int) (O : List (List UInt8)) : Prop where
  pi : PI X S R K O
  len : K.length = t
  a : (R 0).keys = K
  x : (R 1).keys = List.replicate t 0
  ml : X.sm.ml = (newM (X.pub 0)).ml
  us : S.used.length ≤ 4 + 10 * t
  det : roomK d t = (S, X.sm, X.last, K)
theorem outk {X : WD} {S : OS} {R : Nat → Rng} {K : List Int} {O : List (List UInt8)} (h : PI X S R K O) (hl : S.used.length < 10000000) (hep : X.sm.ep + 1 < 20) {i : Nat} (hi : i < 4) (hm : ∀ m ∈ nowM X.sm.ml, m.who ≠ i) :
    (learnK (beginK S X.sm X.last).2.2 (R i) (beginK S X.sm X.last).1).1.keys = (R i).keys ++ [0] := by
  have B := h.begin hl
  obtain ⟨r1, r2, r3, m, hm', r4⟩ := h.ring i hi
  have hkl : (R i).keys.length = K.length := by rw [r4, Q1O]
  have ht := B.other (R := R i) (by rw [r1]; exact hm)
  unfold learnK
  rw [if_neg (by rw [B.kd, B.right]; simp), if_neg (by have := h.ep; omega), ht, hkl, r3, r4]
  dsimp only
  rw [Q54 K m hm' (beginK S X.sm X.last).2.1]
  cases hK : K.length with
  | zero => rfl
  | succ e =>
    unfold backK
    rw [if_neg]
    rintro ⟨⟨h1, _⟩, _⟩
    rw [mkK_get (by simp; omega), if_neg (by omega)] at h1
    exact h1 rfl
theorem RI.next {d : List Int} {t : Nat} {X : WD} {S : OS} {R : Nat → Rng} {K : List Int} {O : List (List UInt8)} (h : RI d t X S R K O) (ht : t < 4) (hold : (beginK S X.sm X.last).1.old.length < 1000000) :
    RI d (t + 1) { X with last := (beginK S X.sm X.last).2.1, sm := ⟨X.sm.ml, X.sm.ep + 1⟩, tm := ⟨X.sm.ml, X.sm.ep + 1⟩ } (beginK S X.sm X.last).2.2 (fun i => (learnK (beginK S X.sm X.last).2.2 (R i) (beginK S X.sm X.last).1).1) (K ++ [(beginK S X.sm X.last).2.1]) (O ++ [(beginK S X.sm X.last).1.old]) := by
  have hus := h.us
  have hl : S.used.length < 10000000 := by omega
  have hep : X.sm.ep + 1 < 20 := by have := h.pi.ep; have := h.len; omega
  have B := h.pi.begin hl
  have hnow : nowM X.sm.ml = [⟨0, X.pub 0, 0, -1, 0⟩] := by rw [h.ml]; rfl
  refine ⟨h.pi.next hl hold hep fun i _ => rfl, by simp [h.len], ?_, ?_, h.ml, by have := B.len; omega, ?_⟩
  · show (learnK _ (R 0) _).1.keys = _
    rw [h.pi.in_ hl hold hep (i := 0) (by decide) ⟨_, by rw [hnow]; exact List.mem_singleton.2 rfl, rfl⟩]
  · show (learnK _ (R 1) _).1.keys = _
    rw [outk h.pi hl hep (i := 1) (by decide) (fun m hm => by rw [hnow] at hm; rw [List.mem_singleton.1 hm]; show (0 : Int) ≠ ((1 : Nat) : Int); decide), h.x, ← List.replicate_succ']
  · show ((beginK (roomK d t).1 (roomK d t).2.1 (roomK d t).2.2.1).2.2, (⟨(roomK d t).2.1.ml, (roomK d t).2.1.ep + 1⟩ : MS), (beginK (roomK d t).1 (roomK d t).2.1 (roomK d t).2.2.1).2.1, (roomK d t).2.2.2 ++ [(beginK (roomK d t).1 (roomK d t).2.1 (roomK d t).2.2.1).2.1]) = _
    rw [h.det]
theorem RI.zero (d : List Int) (h : OInv (OS.init d)) (k j : Nat) : ∃ X R, RI d 0 X (pairOf (pairOf (OS.init d)).2).2 R [] [] ∧ X.last = 0 ∧ X.sm = newM (pairOf (OS.init d)).1.2 ∧ R 0 = ⟨0, (pairOf (OS.init d)).1.1, [], []⟩ ∧ R 1 = ⟨1, (pairOf (pairOf (OS.init d)).2).1.1, [], []⟩ := by
  obtain ⟨p1, p2, p3, p4, p5, p6, _⟩ := Q2d h
  obtain ⟨q1, q2, q3, q4, q5, q6, _⟩ := Q2d p1
  have hs : (pairOf (pairOf (OS.init d)).2).2.sealed = [] := by rw [Q31, Q31]; rfl
  have hw : (pairOf (pairOf (OS.init d)).2).2.wrapped = [] := by rw [Q2L, Q2L]; rfl
  have hu : (pairOf (pairOf (OS.init d)).2).2.used.length ≤ 4 := by
    have a := (Q2v h.ok).2
    have b := (Q2v p1.ok).2
    have c : (OS.init d).used.length = 0 := rfl
    omega
  refine ⟨⟨k, j, fun i => if i = 0 then (pairOf (OS.init d)).1.2 else (pairOf (pairOf (OS.init d)).2).1.2, fun _ => none, fun _ => none, newM (pairOf (OS.init d)).1.2, newM (pairOf (OS.init d)).1.2, fun i => if i = 0 then (pairOf (OS.init d)).1.1 else (pairOf (pairOf (OS.init d)).2).1.1, 0⟩,
    fun i => ⟨i, if i = 0 then (pairOf (OS.init d)).1.1 else (pairOf (pairOf (OS.init d)).2).1.1, [], []⟩, ⟨⟨⟨q1, fun x s e => (by rw [hs] at e; cases e), fun x s e => (by rw [hw] at e; cases e), fun x s e => (by rw [hs] at e; cases e)⟩, fun i hi => ?_, rfl, newM_ok _, fun m hm => ?_, fun m hm => ?_, ⟨_, List.mem_singleton.2 rfl, rfl, rfl⟩, rfl, ⟨rfl, fun x hx => (by cases hx), fun e he => absurd he (by simp), fun b hb => (by cases hb)⟩, rfl, fun i hi => ⟨rfl, rfl, rfl, 0, Nat.le_refl _, rfl⟩⟩, rfl, rfl, rfl, rfl, by omega, rfl⟩, rfl, rfl, rfl, rfl⟩
  · by_cases h0 : i = 0
    · show alook _ (if i = 0 then _ else _) = some (if i = 0 then _ else _)
      rw [if_pos h0, if_pos h0]; exact q2.publics _ _ p3
    · show alook _ (if i = 0 then _ else _) = some (if i = 0 then _ else _)
      rw [if_neg h0, if_neg h0]; exact q3
  · simp [newM] at hm
    exact ⟨0, by omega, by rw [hm]; rfl, by rw [hm]; rfl⟩
  · simp [newM] at hm
    rw [hm]; show (0 : Int) ≤ -1 + 1; decide
def RoomR (d : List Int) (w0 : World) (o0 : Own) (many a : Nat) (w : World) (o : Own) : Prop :=
  ∃ (B : RB) (X : WD) (S : OS) (R : Nat → Rng) (K : List Int) (O : List (List UInt8)), B.q = a ∧ Step no w0 o0 w o ∧ RmG w o B S S (4 + 10 * many) (R 0) (R 1) (R 0) ∧ RI d many X S R K O ∧ B.over w0.heap.size
def NRI (d : List Int) (w0 : World) (o0 : Own) (B : RB) (p1 p2 many m : Nat) (vs : List Value) (w : World) : Prop :=
  ∃ (t : Nat) (X : WD) (S : OS) (R : Nat → Rng) (K : List Int) (O : List (List UInt8)) (o : Own) (sa : Option Addr) (sc : Nat) (ta : Option Addr) (tc : Nat),
    vs = [.int .u64 X.last, .int .i64 t, .slice sa X.sm.ml.length sc, .int .i64 X.sm.ep, .slice ta X.sm.ml.length tc, .int .i64 X.sm.ep] ∧ m + t = many ∧ Step no w0 o0 w o ∧ RmG w o B S S (4 + 10 * t) (R 0) (R 1) (R 0) ∧ RI d t X S R K O ∧
    Row w o sa (X.sm.ml.flatMap Mem.C) ∧ Row w o ta (X.sm.ml.flatMap Mem.C) ∧ X.sm.ml.length ≤ tc ∧ Mine [p1, p2] w o
section
variable {w w' : World} {o o' : Own} {many : Nat}
theorem Q2O (ok : Tags w o) {da : Option Addr} {dc : Nat} {d : List Int} (hd : Row w o da (d.map u64V)) (hc : d.length ≤ dc) (hr : ∀ x ∈ d, 0 ≤ x ∧ x < 18446744073709551616) (hl : d.length ≤ 1000) (hm : many ≤ 4) :
    Calls Try.prog 7 #[.slice da d.length dc, .int .i64 many] w (fun x w' => ∃ a o', x = .returned (.pointer (some (blk a))) ∧ RoomR d w o many a w' o') := by
  refine (Q05.go da d.length dc many (R := fun v w' => ∃ a o', v = .pointer (some (blk a)) ∧ RoomR d w o many a w' o') ?_).mono fun x w' ⟨v, he, a, o', hv, h⟩ => ⟨a, o', by rw [he, hv], h⟩
  unfold Q05.N
  refine (NewO ok hd.1 (by omega)).mono fun x w5 ⟨k, o5, he, hk, s5, P5⟩ => ⟨_, he, fun w6 j X6 b6 hj hj' => ?_⟩
  obtain ⟨o6, s6, Q6⟩ := Rof.init X6 b6 hj hj' s5.ok (hd.step s5) hc hr
  intro w8 q X8 b8 hq hq'
  have s8 : Step no w6 o6 w8 (tag (grow w6 o6) q q) := (Step.of_no X8 s6.ok).tag hq hq'
  have t8 : tag (grow w6 o6) q q q = some q := Q1r
  have P8 := (P5.step s6 id).step s8 id
  have Q8 := Q6.step s8 id
  have z5 := s5.size
  have z6 := s6.size
  have z8 := s8.size
  have S8 := (s5.trans s6).trans s8
  generalize tag (grow w6 o6) q q = o8 at *
  have hin := Q8.inv
  obtain ⟨p1, p2, p3, p4, p5, p6, _⟩ := Q2d hin
  obtain ⟨_, bk⟩ := P8.typ
  obtain ⟨_, bj⟩ := Q8.typ
  have hqk : q ≠ k := Blk.apart b8 bk (by decide)
  have hqj : q ≠ j := Blk.apart b8 bj (by decide)
  have hkj : k ≠ j := Blk.apart bk bj (by decide)
  have hun := Q8.len
  refine ⟨_, b8.celli 0 rfl rfl, (PairO P8 s8.ok hin.ok (by omega)).mono fun x w15 ⟨o15, he, s15, P15⟩ => ⟨_, _, he, ?_⟩⟩
  have b15 := s15.blk b8 t8 hqk
  have t15 : o15 q = some q := by rw [s15.own b8.lt]; exact t8
  have Q15 := Q8.step s15 hkj.symm
  have ul1 := (Q2v hin.ok).2
  refine ⟨_, b15.celli 0 rfl rfl, (PairO P15 s15.ok p1.ok (by omega)).mono fun x w21 ⟨o21, he, s21, P21⟩ => ⟨_, _, he, ?_⟩⟩
  have b21 := s21.blk b15 t15 hqk
  have t21 : o21 q = some q := by rw [s21.own b15.lt]; exact t15
  have Q21 := Q15.step s21 hkj.symm
  refine ⟨_, b21.celli 1 rfl rfl, (Q21.pair (by omega)).mono fun x w27 ⟨o27, he, s27, Q27⟩ => ⟨_, _, he, ?_⟩⟩
  have b27 := s27.blk b21 t21 hqj
  have t27 : o27 q = some q := by rw [s27.own b21.lt]; exact t21
  have P27 := P21.step s27 hkj
  refine ⟨_, b27.celli 1 rfl rfl, (Q27.pair (by omega)).mono fun x w33 ⟨o33, he, s33, Q33⟩ => ⟨_, _, he, ?_⟩⟩
  have b33 := s33.blk b27 t27 hqj
  have t33 : o33 q = some q := by rw [s33.own b27.lt]; exact t27
  have P33 := P27.step s33 hkj
  refine ⟨b33.cani 5 rfl rfl, Q01 fun w34 e34 => ?_⟩
  obtain ⟨s34, b34, t34⟩ := blkSet b33 t33 s33.ok (i := 5) rfl e34
  have P34 := P33.step s34 hqk.symm
  have Q34 := Q33.step s34 hqj.symm
  have S34 : Step no w o w34 _ := ((((S8.trans' s15 fun a ha => .inr (by rw [ha]; exact hk)).trans' s21 fun a ha => .inr (by rw [ha]; exact hk)).trans' s27 fun a ha => .inr (by rw [ha]; omega)).trans' s33 fun a ha => .inr (by rw [ha]; omega)).trans' s34 fun a ha => .inr (by rw [ha]; omega)
  generalize grow w33 o33 = o34 at *
  obtain ⟨X0, R0, I0, hlast, hsm, hR0, hR1⟩ := RI.zero d hin k j
  have z34 := S34.size
  refine ⟨_, b34.celli 0 rfl rfl, (Q36 s34.ok (by omega) (by omega) k).mono fun x w40 ⟨ra, o40, he, hra, s40, E40⟩ => ⟨_, _, he, ?_⟩⟩
  have b40 := s40.blk b34 t34 id
  have t40 : o40 q = some q := by rw [s40.own b34.lt]; exact t34
  have z40 := s40.size
  refine ⟨_, b40.celli 0 rfl rfl, (Q36 s40.ok (by omega) (by omega) k).mono fun x w46 ⟨rx, o46, he, hrx, s46, F46⟩ => ⟨_, _, he, fun h => absurd rfl h, fun _ => ⟨fun h => absurd rfl h, fun _ => ⟨fun h => (by cases h), fun _ => ?_⟩⟩⟩⟩
  have b46 := s46.blk b40 t40 id
  have t46 : o46 q = some q := by rw [s46.own b40.lt]; exact t40
  have z46 := s46.size
  have E46 := E40.step s46 id
  have P46 := (P34.step s40 id).step s46 id
  have Q46 := (Q34.step s40 id).step s46 id
  obtain ⟨_, ba⟩ := E46.typ
  obtain ⟨_, bx⟩ := F46.typ
  have hqa : q ≠ ra := Blk.apart b46 ba (by decide)
  have hqx : q ≠ rx := Blk.apart b46 bx (by decide)
  refine ⟨b46.cani 2 rfl rfl, Q01 fun w50 e50 => ?_⟩
  obtain ⟨s50, b50, t50⟩ := blkSet b46 t46 s46.ok (i := 2) rfl e50
  refine ⟨b50.cani 3 rfl rfl, Q01 fun w51 e51 => ?_⟩
  obtain ⟨s51, b51, t51⟩ := blkSet b50 t50 s50.ok (i := 3) rfl e51
  intro w52 rb X52 b52' hrb hrb'
  obtain ⟨s52, M52⟩ := MG.init s51.ok X52 b52' hrb hrb'
  have b52 := s52.blk b51 t51 id
  have t52 := (s52.own b51.lt).trans t51
  refine ⟨b52.cani 4 rfl rfl, Q01 fun w54 e54 => ?_⟩
  obtain ⟨s54, b54, t54⟩ := blkSet b52 t52 s52.ok (i := 4) rfl e54
  have hqb : rb ≠ q := by
    obtain ⟨_, bb⟩ := M52.typ
    exact (Blk.apart b52 bb (by decide)).symm
  have z50 := s50.size
  have z51 := s51.size
  have z52 := s52.size
  have S54 : Step no w o w54 _ := (((((S34.trans s40).trans s46).trans' s50 fun a ha => .inr (by rw [ha]; omega)).trans' s51 fun a ha => .inr (by rw [ha]; omega)).trans s52).trans' s54 fun a ha => .inr (by rw [ha]; omega)
  have G54 : RmG w54 _ ⟨q, k, j, ra, rx, rb, (pairOf (OS.init d)).1.2⟩ _ _ 4 (R0 0) (R0 1) (R0 0) :=
    ⟨b54, t54, (((P46.step s50 hqk.symm).step s51 hqk.symm).step s52 id).step s54 hqk.symm, (((Q46.step s50 hqj.symm).step s51 hqj.symm).step s52 id).step s54 hqj.symm,
      by rw [hR0]; exact (((E46.step s50 hqa.symm).step s51 hqa.symm).step s52 id).step s54 hqa.symm, by rw [hR1]; exact (((F46.step s50 hqx.symm).step s51 hqx.symm).step s52 id).step s54 hqx.symm, by rw [hR0]; exact M52.step s54 hqb, by rw [hR0, hR1]; show (0 : Int) ≠ 1; decide⟩
  obtain ⟨B, hB⟩ : ∃ B : RB, (⟨q, k, j, ra, rx, rb, (pairOf (OS.init d)).1.2⟩ : RB) = B := ⟨_, rfl⟩
  have hBq : q = B.q := by rw [← hB]
  have hov : B.over w.heap.size := by rw [← hB]; exact ⟨by show w.heap.size ≤ q; omega, by show w.heap.size ≤ k; omega, by show w.heap.size ≤ j; omega, by show w.heap.size ≤ ra; omega, by show w.heap.size ≤ rx; omega, by show w.heap.size ≤ rb; omega⟩
  rw [hB] at G54
  generalize grow w52 _ = o54 at *
  clear E46 F46 P46 Q46 M52 b54 t54 b52 t52 b51 t51 b50 t50 P34 Q34 E40 b46 b40 b34 b33 b27 b21 b15 b8 P5 P8 Q6 Q8 P15 Q15 P21 Q21 P27 Q27 P33 Q33
  refine (Q64 s54.ok _).mono fun x w58 ⟨o58, sa0, sc0, he, s58, r58, hc58⟩ => ⟨_, _, _, _, he, ?_⟩
  refine (Q5X s58.ok _).mono fun x w62 ⟨o62, ta0, tc0, he, s62, r62, hc62⟩ => ⟨_, _, _, _, he, fun w66 q1 q2 X66 hp66 => ?_⟩
  obtain ⟨s66, M66⟩ := Step.priv X66 hp66 s62.ok
  have G66 := ((G54.no s58).no s62).no s66
  have S66 := ((S54.trans s58).trans s62).trans s66
  have u : B.under w62.heap.size := ((G54.no s58).no s62).under
  have hq1 := (hp66 q1 (by simp)).1
  have hq2 := (hp66 q2 (by simp)).1
  have z66 := s66.size
  have ha66 : w62.heap.size ≤ w66.heap.size := z66
  obtain ⟨N, hN⟩ : ∃ N, w62.heap.size = N := ⟨_, rfl⟩
  have hwN : w.heap.size ≤ w62.heap.size := ((S54.trans s58).trans s62).size
  rw [hN] at u hq1 hq2 ha66 hwN
  refine ⟨NRI d w o B q1 q2 many, many, ⟨0, X0, _, R0, [], [], _, sa0, sc0, ta0, tc0, by rw [hlast, hsm]; rfl, rfl, S66, G66, I0, by rw [hsm]; exact (r58.step s62).step s66, by rw [hsm]; exact r62.step s66, by rw [hsm]; exact hc62, M66⟩, ?_⟩
  clear G66 I0 M66 s66 X66 hp66 s62 s58 G54
  rintro m w77 last n L71a L71n L71c ep72 L73a L73n L73c ep74 ⟨t, X, S, R, K, O, o77, sa, sc, ta, tc, hv, hmt, s77, A77, I, hsr, htr, htc, M77⟩
  cases hv
  have ok77 := s77.ok
  have N77 : N ≤ w77.heap.size := by have := (M77 q1 (by simp)).1; omega
  refine ⟨fun ht => ?_, fun ht => ?_⟩
  · have ht : t < many := by omega
    have P := I.pi
    have hus := I.us
    have hul : S.used.length < 10000000 := by omega
    have BB := P.begin hul
    have hlr := P.last_rng
    have hepX : X.sm.ep = (t : Int) - 1 := by have := P.ep; have := I.len; omega
    have happ : applyM X.sm (beginK S X.sm X.last).1 = (⟨X.sm.ml, X.sm.ep + 1⟩, 0) := by rw [BB.app, if_neg (by omega)]
    have hkN := u.k
    have hjN := u.j
    have haN := u.a
    have hxN := u.x
    have hbN := u.b
    have far1 : ∀ p ∈ [q1, q2], N ≤ p := fun p hp => by
      simp only [List.mem_cons, List.not_mem_nil, or_false] at hp
      rcases hp with rfl | rfl <;> assumption
    refine ⟨_, A77.bk.celli 0 (by rw [hBq]; rfl) rfl, fun w83 L82 X83 hp83 => ?_⟩
    obtain ⟨s83, M83⟩ := Step.priv X83 hp83 ok77
    have A83 := A77.no s83
    have hL : ∀ i, i ∈ L82 → N ≤ i := fun i hi => by have := (hp83 i hi).1; omega
    refine (Q5r (s := X.sm) (last := X.last) A83.orc s83.ok P.ki.inv.ok (by omega) (hsr.step s83) P.ok hlr.1 hlr.2 P.known P.ne).mono fun x w93 ⟨o93, wa, wc, oa, oc, ws, he, s93, P93, C93, hwc, hoc⟩ => ⟨_, _, _, _, _, _, _, _, _, _, _, _, he, M83.keep s93 (fun p hp e => by have := hL p hp; omega), (M77.step s83).keep s93 (fun p hp e => by have := far1 p hp; omega), fun w163 p97 X163 hp163 => ?_⟩
    have A93 := A83.toOrc s93 P93
    obtain ⟨s163, M163⟩ := Step.join X163 s93.ok (M83.step s93) hp163
    have A163 := A93.far u s163 hL
    have z83 := s83.size
    have z93 := s93.size
    have z163 := s163.size
    have h97 : N ≤ p97 := by
      rcases (hp163 p97 (by simp)).1 with h | h
      · exact hL _ h
      · omega
    refine ⟨_, A163.bk.celli 1 (by rw [hBq]; rfl) rfl, fun w101 L100 X101 hp101 => ?_⟩
    obtain ⟨s101, M101⟩ := Step.priv X101 hp101 s163.ok
    have A101 := A163.no s101
    have hL100 : ∀ i, i ∈ L100 → N ≤ i := fun i hi => by have := (hp101 i hi).1; omega
    have M101b : Mine [q1, q2, p97] w101 _ := fun p hp => by
      rcases List.mem_cons.1 hp with rfl | hp
      · exact ((((M77.step s83).step s93).step s163).step s101) _ (by simp)
      · rcases List.mem_cons.1 hp with rfl | hp
        · exact ((((M77.step s83).step s93).step s163).step s101) _ (by simp)
        · exact (M163.step s101) _ hp
    have far3 : ∀ p ∈ [q1, q2, p97], N ≤ p := fun p hp => by
      simp only [List.mem_cons, List.not_mem_nil, or_false] at hp
      rcases hp with rfl | rfl | rfl <;> assumption
    have tr101 := (((htr.step s83).step s93).step s163).step s101
    refine (Q4K (s := X.sm) (last := X.last) A101.rof P.ki.inv.ok (by omega) tr101 P.ok hlr.1 hlr.2 P.known P.ne).mono fun x w111 ⟨o111, wa2, wc2, oa2, oc2, ws2, he, s111, Q111, C111, hwc2, hoc2⟩ => ⟨_, _, _, _, _, _, _, _, _, _, _, _, he, M101.keep s111 (fun p hp e => by have := hL100 p hp; omega), M101b.keep s111 (fun p hp e => by have := far3 p hp; omega), fun h => absurd rfl h, fun _ w162 p117 X162 hp162 => ?_⟩
    have A111 := A101.toRof s111 Q111
    obtain ⟨s162, M162⟩ := Step.join X162 s111.ok (M101.step s111) hp162
    have A162 := A111.far u s162 hL100
    have z101 := s101.size
    have z111 := s111.size
    have z162 := s162.size
    have h117 : N ≤ p117 := by
      rcases (hp162 p117 (by simp)).1 with h | h
      · exact hL100 _ h
      · omega
    have C162 := (((C93.step s163).step s101).step s111).step s162
    have D162 := C111.step s162
    have sr162 := (((((hsr.step s83).step s93).step s163).step s101).step s111).step s162
    have tr162 := (tr101.step s111).step s162
    have M162b : Mine [q1, q2, p97, p117] w162 _ := fun p hp => by
      rcases List.mem_cons.1 hp with rfl | hp
      · exact ((M101b.step s111).step s162) _ (by simp)
      · rcases List.mem_cons.1 hp with rfl | hp
        · exact ((M101b.step s111).step s162) _ (by simp)
        · rcases List.mem_cons.1 hp with rfl | hp
          · exact ((M101b.step s111).step s162) _ (by simp)
          · exact M162 _ hp
    have far4 : ∀ p ∈ [q1, q2, p97, p117], N ≤ p := fun p hp => by
      simp only [List.mem_cons, List.not_mem_nil, or_false] at hp
      rcases hp with rfl | rfl | rfl | rfl <;> assumption
    have S162 : Step no w o w162 _ := ((((((s77.trans s83).trans' s93 fun a ha => .inr (by rw [ha]; exact hov.k)).trans' s163 fun a ha => .inr (by have := hL a ha; omega)).trans s101).trans' s111 fun a ha => .inr (by rw [ha]; exact hov.j)).trans' s162 fun a ha => .inr (by have := hL100 a ha; omega))
    clear A93 A83 A101 A111 A163 M101 M101b M163 M83 P93 Q111 C93 C111 tr101 s163 s101 s111 s93 s83
    refine (Q5M (s := X.sm) (cg := (beginK S X.sm X.last).1) sr162 s162.ok P.ok C162.ws C162.m C162.n C162.ol).mono fun x w122 ⟨o122, a122, c122, he, s122, r122, hc122⟩ => ?_
    rw [happ] at he r122 hc122
    refine ⟨_, _, _, _, _, he, M162b.keep s122 (fun _ _ => id), fun w124 p125 X124 hp124 => ?_⟩
    obtain ⟨s124, M124⟩ := Step.priv X124 hp124 s122.ok
    have C124 := (C162.step s122).step s124
    have D124 := (D162.step s122).step s124
    have M124b : Mine [q1, q2, p97, p117, p125] w124 _ := fun p hp => by
      rcases List.mem_cons.1 hp with rfl | hp
      · exact ((M162b.step s122).step s124) _ (by simp)
      · rcases List.mem_cons.1 hp with rfl | hp
        · exact ((M162b.step s122).step s124) _ (by simp)
        · rcases List.mem_cons.1 hp with rfl | hp
          · exact ((M162b.step s122).step s124) _ (by simp)
          · rcases List.mem_cons.1 hp with rfl | hp
            · exact ((M162b.step s122).step s124) _ (by simp)
            · exact M124 _ hp
    refine (Q4O (s := X.sm) (cg := (beginK S X.sm X.last).1) ((tr162.step s122).step s124) s124.ok P.ok htc D124.ws D124.m D124.n D124.ol).mono fun x w130 ⟨o130, a130, c130, he, s130, r130, hc130⟩ => ?_
    rw [happ] at he r130 hc130
    refine ⟨_, _, _, _, _, he, M124b.keep s130 (fun _ _ => id), fun h => absurd rfl h, fun _ => ⟨fun h => absurd rfl h, fun _ w140 X140 => ?_⟩⟩
    have M130 := (M162b.step s122).step s124 |>.step s130
    have s140 : Step (fun i => i ∈ [q1, q2]) w130 _ w140 _ := Step.stores X140 s130.ok (M130.sub (M := [q1, q2]) (by simp)) (fun b hb => by rcases hb with rfl | rfl <;> simp)
    have M140 := M130.step s140
    have A140 := (((A162.no s122).no s124).no s130).far u s140 far1
    have S140 := (((S162.trans s122).trans s124).trans s130).trans' s140 fun a ha => .inr (by have := far1 a ha; omega)
    have C140 := (C124.step s130).step s140
    have D140 := (D124.step s130).step s140
    have sr140 := ((r122.step s124).step s130).step s140
    have tr140 := r130.step s140
    have hlen : ∀ i, i < 4 → (R i).keys.length = (R i).olds.length ∧ (R i).keys.length = t ∧ ∀ b ∈ (R i).olds, b.length < 1000000 := fun i hi => by
      obtain ⟨_, _, r3, m', _, r4⟩ := P.ring i hi
      have h1 := I.len
      rw [r3, r4, Q1O, P.ch.len]
      exact ⟨rfl, h1, P.ch.short⟩
    obtain ⟨l01, l02, l03⟩ := hlen 0 (by decide)
    obtain ⟨l11, l12, l13⟩ := hlen 1 (by decide)
    have hnz : ∀ x ∈ (R 0).keys, x ≠ 0 := fun x hx => by have := P.ch.nz x (by rw [← I.a]; exact hx); omega
    obtain ⟨_, ka, kx, kb, _, _, jb⟩ := A140.ne_o
    have hold : (beginK S X.sm X.last).1.old.length < 1000000 := C140.ol
    have w0 : ∀ i, i < 4 → (learnK (beginK S X.sm X.last).2.2 (R i) (beginK S X.sm X.last).1).1.who = (R i).who := fun i hi => by
      have e1 := (P.next hul hold (by omega) (R' := fun i => (learnK (beginK S X.sm X.last).2.2 (R i) (beginK S X.sm X.last).1).1) fun _ _ => rfl).ring i hi
      exact e1.1.trans (P.ring i hi).1.symm
    refine ⟨_, A140.bk.celli 2 (by rw [hBq]; rfl) rfl, (Q3R A140.a A140.orc s140.ok ka.symm BB.ki.sh l01 (by omega) l03 C140).mono fun x w146 ⟨he, o146, s146, E146⟩ => ⟨_, he, M140.keep s146 (fun p hp e => by have := far4 p hp; omega), ?_⟩⟩
    have A146 := A140.toA s146 E146 (w0 0 (by decide))
    refine ⟨_, A146.bk.celli 3 (by rw [hBq]; rfl) rfl, fun w147 X147 => ?_⟩
    have s147 := Step.of_no X147 s146.ok
    have A147 := A146.no s147
    have C147 := (C140.step s146).step s147
    have M147 := ((M140.step s146).step s147).sub (M := [q1, q2, p117]) (by simp)
    refine (Q3R A147.x A147.orc s147.ok kx.symm BB.ki.sh l11 (by omega) l13 C147).mono fun x w152 ⟨he, o152, s152, E152⟩ => ⟨_, he, M147.keep s152 (fun p hp e => by have := far4 p (by simp only [List.mem_cons, List.not_mem_nil, or_false] at hp ⊢; rcases hp with h | h | h <;> simp [h]); omega), ?_⟩
    have A152 := A147.toX s152 E152 (w0 1 (by decide))
    refine ⟨_, A152.bk.celli 4 (by rw [hBq]; rfl) rfl, _, A152.bk.celli 1 (by rw [hBq]; rfl) rfl, fun w153 X153 => ?_⟩
    have s153 := Step.of_no X153 s152.ok
    have A153 := A152.no s153
    have D153 := (((D140.step s146).step s147).step s152).step s153
    have M153 := (M147.step s152).step s153 |>.sub (M := [q1, q2]) (by simp)
    refine (Q4M A153.b A153.rof (by omega) jb.symm l01 (by omega) hnz D153 hoc2).mono fun x w160 ⟨he, o160, s160, E160⟩ => ⟨_, he, M153.keep s160 (fun p hp e => by have := far1 p hp; omega), by omega, by omega, many - (t + 1), by omega, ?_⟩
    have A160 := A153.toB s160 E160
    have S160 := ((((S140.trans' s146 fun a ha => .inr (by rw [ha]; exact hov.a)).trans s147).trans' s152 fun a ha => .inr (by rw [ha]; exact hov.x)).trans s153).trans' s160 fun a ha => .inr (by rw [ha]; exact hov.b)
    have sr160 := ((((sr140.step s146).step s147).step s152).step s153).step s160
    have tr160 := ((((tr140.step s146).step s147).step s152).step s153).step s160
    exact ⟨t + 1, { X with last := (beginK S X.sm X.last).2.1, sm := ⟨X.sm.ml, X.sm.ep + 1⟩, tm := ⟨X.sm.ml, X.sm.ep + 1⟩ }, _, fun i => (learnK (beginK S X.sm X.last).2.2 (R i) (beginK S X.sm X.last).1).1, _, _, o160, a122, c122, a130, c130, rfl, by omega, S160, by rw [show 4 + 10 * (t + 1) = 4 + 10 * t + 10 by omega]; exact A160, I.next (by omega) hold, sr160, tr160, hc130, M153.step s160⟩
  · have ht : t = many := by omega
    subst ht
    exact ⟨q, o77, rfl, B, X, S, R, K, O, hBq.symm, s77, A77, I, hov⟩
end
open W (OwnB)
def placeOK (w i e : Int) : Bool := decide (0 ≤ w ∧ w < 8 ∧ 0 ≤ i ∧ i < 200 ∧ 0 ≤ e ∧ e < 20)
theorem placeF (w i e : Int) : Q0e.F w i e = placeOK w i e := by
  unfold Q0e.F placeOK
  by_cases h1 : w ≥ 0
  · rw [if_pos h1]
    by_cases h2 : w < 8
    · rw [if_pos h2]
      by_cases h3 : i ≥ 0
      · rw [if_pos h3]
        by_cases h4 : i < 200
        · rw [if_pos h4]
          by_cases h5 : e ≥ 0
          · rw [if_pos h5, decide_eq_decide]; omega
          · rw [if_neg h5, eq_comm, decide_eq_false_iff_not]; omega
        · rw [if_neg h4, eq_comm, decide_eq_false_iff_not]; omega
      · rw [if_neg h3, eq_comm, decide_eq_false_iff_not]; omega
    · rw [if_neg h2, eq_comm, decide_eq_false_iff_not]; omega
  · rw [if_neg h1, eq_comm, decide_eq_false_iff_not]; omega
def sealP (S : OS) (R : Rng) (w i e : Int) (p : List UInt8) : (List UInt8 × Int) × OS :=
  if placeOK w i e = true then (if (keyK R e).2 ≠ 0 then (([], (keyK R e).2), S) else sealOf S (keyK R e).1 (boundL w i e) p) else (([], 1), S)
def openP (S : OS) (R : Rng) (e : Ent) : List UInt8 × Int :=
  if Q1T e = true then (if e.ep < 0 then ([], 10) else if (keyK R e.ep).2 ≠ 0 then ([], (keyK R e.ep).2) else openOf S (keyK R e.ep).1 (boundL e.w e.i e.ep) e.body) else ([], 1)
theorem Q5K (x y z : Int) : (boundL x y z).length ≤ 30 := by
  have g1 := W.numL_le x.toNat
  have g2 := W.numL_le y.toNat
  have g3 := W.numL_le (W.zig z)
  unfold boundL; simp only [List.length_append]; omega
section
variable {w w' : World} {o o' : Own} {q k : Nat} {S : OS} {R : Rng} {pa : Option Addr} {pc : Nat} {p : List UInt8} {wv iv ev : Int}
theorem useSeal (h : EG w o q k R) (hP : POrc w o k S) (ok : Tags w o) (hS : S.ok) (hlen : S.used.length < 1000000) (hr : placeOK wv iv ev = true) (hp : Row w o pa (bytesV p)) (hpl : p.length ≤ 1000000) :
    Calls Try.prog 28 #[.agg #[.int .i64 wv, .int .i64 iv, .int .i64 ev], .func (.func 29) #[.pointer (some (blk k))] #[], .pointer (some (blk q)), .slice pa p.length pc] w (Gb (fun j => j = k) w o (sealP S R wv iv ev p).1 fun w' o' => POrc w' o' k (sealP S R wv iv ev p).2) := by
  refine (Q0K.go _ _ _ _ _ _ _ _ _ _ (R := fun v w' => ∃ o' a' c', v = .tuple #[.slice a' (sealP S R wv iv ev p).1.1.length c', .int .i64 (sealP S R wv iv ev p).1.2] ∧ Step (fun j => j = k) w o w' o' ∧ Row w' o' a' (bytesV (sealP S R wv iv ev p).1.1) ∧ (sealP S R wv iv ev p).1.1.length ≤ c' ∧ POrc w' o' k (sealP S R wv iv ev p).2) ?_).mono fun e w' ⟨v, he, o', a', c', hv, hw⟩ => ⟨o', a', c', by rw [he, hv], hw⟩
  have hr' : 0 ≤ wv ∧ wv < 8 ∧ 0 ≤ iv ∧ iv < 200 ∧ 0 ≤ ev ∧ ev < 20 := of_decide_eq_true hr
  unfold Q0K.N
  intro w7 p8 X7 hp8
  obtain ⟨s7, M7⟩ := Step.priv X7 hp8 ok
  refine (Q4o (h.step s7 id) ev).mono fun x w12 ⟨he, hw⟩ => ⟨_, _, he, (by rw [hw]; exact Keep.refl _ _), fun hk => ?_, fun hk => ?_⟩
  · subst hw
    have e1 : sealP S R wv iv ev p = (([], (keyK R ev).2), S) := by unfold sealP; rw [if_pos hr, if_pos hk]
    rw [e1]
    exact ⟨_, none, 0, rfl, s7.none, Row.nil _ _ _, Nat.le_refl _, hP.step s7 id⟩
  · subst hw
    have e1 : sealP S R wv iv ev p = sealOf S (keyK R ev).1 (boundL wv iv ev) p := by unfold sealP; rw [if_pos hr, if_neg (fun h => h hk)]
    rw [e1]
    refine (Q3z (x := wv) (y := iv) (z := ev) (by omega) (by omega) (by omega) (by omega)).mono fun x w16 ⟨ba, bc, he, hO, X16⟩ => ⟨_, _, _, he, by kernel_rfl, ?_⟩
    have s16 := Step.of_no X16 s7.ok
    have rb : Row w16 (grow w12 (tags w o [p8])) ba (bytesV (boundL wv iv ev)) := Q1y hO X16
    have hbl := Q5K wv iv ev
    refine (SealO ((hP.step s7 id).step s16 id) s16.ok hS hlen (keyK R ev).1 (bc := bc) (pc := pc) rb ((hp.step s7).step s16) (by omega) hpl).mono fun e w20 ⟨o20, a', c', he, s20, hrow, hc, hP'⟩ => ⟨_, _, _, _, he, o20, a', c', rfl, (s7.trans s16).none.trans s20, hrow, hc, hP'⟩
theorem Q3W (h : EG w o q k R) (hP : POrc w o k S) (ok : Tags w o) (hS : S.ok) (hlen : S.used.length < 1000000) (wv iv ev : Int) (hp : Row w o pa (bytesV p)) (hpl : p.length ≤ 1000000) :
    Calls Try.prog 8 #[.pointer (some (blk k)), .pointer (some (blk q)), .int .i64 wv, .int .i64 iv, .int .i64 ev, .slice pa p.length pc] w (Gb (fun j => j = k) w o (sealP S R wv iv ev p).1 fun w' o' => POrc w' o' k (sealP S R wv iv ev p).2) := by
  refine (Q1a.go _ _ _ _ _ _ _ _ (R := fun v w' => ∃ o' a' c', v = .tuple #[.slice a' (sealP S R wv iv ev p).1.1.length c', .int .i64 (sealP S R wv iv ev p).1.2] ∧ Step (fun j => j = k) w o w' o' ∧ Row w' o' a' (bytesV (sealP S R wv iv ev p).1.1) ∧ (sealP S R wv iv ev p).1.1.length ≤ c' ∧ POrc w' o' k (sealP S R wv iv ev p).2) ?_).mono fun e w' ⟨v, he, o', a', c', hv, hw⟩ => ⟨o', a', c', by rw [he, hv], hw⟩
  unfold Q1a.N
  rw [placeF]
  refine ⟨fun hf w9 X9 => ?_, fun hr w9 X9 => ?_⟩
  · have e1 : sealP S R wv iv ev p = (([], 1), S) := by unfold sealP; rw [hf]; rfl
    rw [e1]
    have s9 := Step.of_no X9 ok
    exact ⟨_, none, 0, rfl, s9.none, Row.nil _ _ _, Nat.le_refl _, hP.step s9 id⟩
  · have s9 := Step.of_no X9 ok
    exact (useSeal (h.step s9 id) (hP.step s9 id) s9.ok hS hlen hr (hp.step s9) hpl).mono fun e w20 ⟨o20, a', c', he, s20, hrow, hc, hP'⟩ => ⟨_, _, _, _, he, o20, a', c', rfl, s9.none.trans s20, hrow, hc, hP'⟩
theorem useOpen {e : Ent} (h : EG w o q k R) (hP : POrc w o k S) (ok : Tags w o) (hr : placeOK e.w e.i e.ep = true) (hS : Short S) {ea : Option Addr} {ec : Nat} (he : Row w o ea (bytesV e.body)) (hel : e.body.length < 1000000) (hec : e.body.length ≤ ec) :
    Calls Try.prog 28 #[.agg #[.int .i64 e.w, .int .i64 e.i, .int .i64 e.ep], .func (.func 31) #[.pointer (some (blk k))] #[], .pointer (some (blk q)), .slice ea e.body.length ec] w
      (Gb no w o (if (keyK R e.ep).2 ≠ 0 then ([], (keyK R e.ep).2) else openOf S (keyK R e.ep).1 (boundL e.w e.i e.ep) e.body) fun _ _ => True) := by
  obtain ⟨r, hr0⟩ : ∃ r, (if (keyK R e.ep).2 ≠ 0 then ([], (keyK R e.ep).2) else openOf S (keyK R e.ep).1 (boundL e.w e.i e.ep) e.body) = r := ⟨_, rfl⟩
  rw [hr0]
  refine (Q0K.go _ _ _ _ _ _ _ _ _ _ (R := fun v w' => ∃ o' a' c', v = .tuple #[.slice a' r.1.length c', .int .i64 r.2] ∧ Step no w o w' o' ∧ Row w' o' a' (bytesV r.1) ∧ r.1.length ≤ c' ∧ True) ?_).mono fun e w' ⟨v, he, o', a', c', hv, hw⟩ => ⟨o', a', c', by rw [he, hv], hw⟩
  have hr' : 0 ≤ e.w ∧ e.w < 8 ∧ 0 ≤ e.i ∧ e.i < 200 ∧ 0 ≤ e.ep ∧ e.ep < 20 := of_decide_eq_true hr
  unfold Q0K.N
  intro w7 p8 X7 hp8
  obtain ⟨s7, M7⟩ := Step.priv X7 hp8 ok
  refine (Q4o (h.step s7 id) e.ep).mono fun x w12 ⟨hx, hw⟩ => ⟨_, _, hx, (by rw [hw]; exact Keep.refl _ _), fun hk => ?_, fun hk => ?_⟩
  · subst hw
    rw [if_pos hk] at hr0
    subst hr0
    exact ⟨_, none, 0, rfl, s7, Row.nil _ _ _, Nat.le_refl _, trivial⟩
  · subst hw
    rw [if_neg (fun h => h hk)] at hr0
    refine (Q3z (x := e.w) (y := e.i) (z := e.ep) (by omega) (by omega) (by omega) (by omega)).mono fun x w16 ⟨ba, bc, hx, hO, X16⟩ => ⟨_, _, _, hx, by kernel_rfl, ?_⟩
    have s16 := Step.of_no X16 s7.ok
    have rb : Row w16 (grow w12 (tags w o [p8])) ba (bytesV (boundL e.w e.i e.ep)) := Q1y hO X16
    have hop := OpenO ((hP.step s7 id).step s16 id) s16.ok (keyK R e.ep).1 (bc := bc) (xc := ec) rb.1 ((he.step s7).step s16).1 hel hec (fun s hs => hS _ s hs)
    rw [hr0] at hop
    exact hop.mono fun x w20 ⟨o20, a', c', hx, s20, hrow, hc, _⟩ => ⟨_, _, _, _, hx, o20, a', c', rfl, (s7.trans s16).trans s20, hrow, hc, trivial⟩
theorem Q1M {e : Ent} (h : EG w o q k R) (hP : POrc w o k S) (ok : Tags w o) (hS : Short S) {ea : Option Addr} {ec : Nat} (he : Row w o ea (bytesV e.body)) (hel : e.body.length < 1000000) (hec : e.body.length ≤ ec) :
    Calls Try.prog 9 #[.pointer (some (blk k)), .pointer (some (blk q)), entV e ea ec] w (Gb no w o (openP S R e) fun _ _ => True) := by
  refine (Q18.go _ _ _ _ _ _ _ _ _ _ _ _ (R := fun v w' => ∃ o' a' c', v = .tuple #[.slice a' (openP S R e).1.length c', .int .i64 (openP S R e).2] ∧ Step no w o w' o' ∧ Row w' o' a' (bytesV (openP S R e).1) ∧ (openP S R e).1.length ≤ c' ∧ True) ?_).mono fun x w' ⟨v, he, o', a', c', hv, hw⟩ => ⟨o', a', c', by rw [he, hv], hw⟩
  unfold Q18.N
  rw [Q5J]
  refine ⟨fun hf w9 X9 => ?_, fun hr => ⟨fun hneg w9 X9 => ?_, fun hpos w9 X9 => ?_⟩⟩
  · have e1 : openP S R e = ([], 1) := by unfold openP; rw [hf]; rfl
    rw [e1]
    exact ⟨_, none, 0, rfl, Step.of_no X9 ok, Row.nil _ _ _, Nat.le_refl _, trivial⟩
  · have e1 : openP S R e = ([], 10) := by unfold openP; rw [if_pos hr, if_pos hneg]
    rw [e1]
    exact ⟨_, none, 0, rfl, Step.of_no X9 ok, Row.nil _ _ _, Nat.le_refl _, trivial⟩
  · have e1 : openP S R e = (if (keyK R e.ep).2 ≠ 0 then ([], (keyK R e.ep).2) else openOf S (keyK R e.ep).1 (boundL e.w e.i e.ep) e.body) := by unfold openP; rw [if_pos hr, if_neg (by omega)]
    have s9 := Step.of_no X9 ok
    have hr2 := (Q2P e).1 hr
    have hpl : placeOK e.w e.i e.ep = true := decide_eq_true (by omega)
    rw [e1]
    exact (useOpen (h.step s9 id) (hP.step s9 id) s9.ok hpl hS (he.step s9) hel hec).mono fun x w20 ⟨o20, a', c', hx, s20, hrow, hc, _⟩ => ⟨_, _, _, _, hx, o20, a', c', rfl, s9.trans s20, hrow, hc, trivial⟩
end
def classG (n : Nat) : Nat → Nat → Int
  | 0, t => -1
  | k + 1, t => if n = 8 + sizeN t then (t : Int) else classG n k (t + 1)
def classS (n : Nat) : Int := classG n 7 0
section
variable {w w' : World} {o o' : Own}
theorem Q4U (e : Ent) (ea : Option Addr) (ec : Nat) (w : World) : Calls Try.prog 12 #[entV e ea ec] w (Ret (.int .i64 (classS e.body.length)) fun w' => Ext no w w') := by
  refine (Q12.go _ _ _ _ _ _ _ _ _ _ (R := fun v w' => v = .int .i64 (classS e.body.length) ∧ Ext no w w') ?_).mono fun x w' ⟨v, he, hv, hw⟩ => ⟨by rw [he, hv], hw⟩
  unfold Q12.N
  intro w10 p11 X10 hp
  have hc : Q0G.F = 7 := rfl
  rw [hc]
  refine ⟨fun m vs w1 => ∃ t : Nat, vs = [.int .i64 t] ∧ m + t = 7 ∧ classS e.body.length = classG e.body.length m t ∧ Ext no w w1, 7, ⟨0, rfl, rfl, rfl, X10⟩, ?_⟩
  rintro m w15 i ⟨t, hv, hm, hcl, X15⟩
  cases hv
  refine ⟨fun ht w17 X17 => ?_, fun ht => ?_⟩
  · obtain ⟨m, rfl⟩ : ∃ k, m = k + 1 := ⟨m - 1, by omega⟩
    have hs := Q1n (t : Int)
    refine (Q2t (t : Int)).mono fun x w20 ⟨he, hw⟩ => ⟨_, he, (by rw [hw]; exact Keep.refl _ _), by omega, by omega, fun heq => ?_, fun hne => ⟨by omega, by omega, m, by omega, t + 1, rfl, by omega, ?_, by rw [hw]; exact X15.trans X17⟩⟩
    · have : e.body.length = 8 + sizeN (t : Int) := by omega
      refine ⟨?_, by rw [hw]; exact X15.trans X17⟩
      rw [hcl]; unfold classG; rw [if_pos this]
    · rw [hcl]; show (if _ then _ else _) = _; rw [if_neg (by omega)]
  · have : m = 0 := by omega
    subst this
    exact ⟨by rw [hcl]; rfl, X15⟩
end
open W (OwnB)
theorem Q3h {x y z u v t : Int} (hx : x < 9223372036854775808) (hy : y < 9223372036854775808) (hz0 : -9223372036854775808 ≤ z) (hz : z < 9223372036854775808) (hu : u < 9223372036854775808) (hv : v < 9223372036854775808) (ht0 : -9223372036854775808 ≤ t) (ht : t < 9223372036854775808) :
    boundL x y z = boundL u v t ↔ (x.toNat = u.toNat ∧ y.toNat = v.toNat ∧ z = t) := by
  have rd : ∀ (x y z : Int), x < 9223372036854775808 → y < 9223372036854775808 → -9223372036854775808 ≤ z → z < 9223372036854775808 →
      (W.numR (boundL x y z, 0)).1 = x.toNat ∧ (W.numR (W.numR (boundL x y z, 0)).2).1 = y.toNat ∧ (W.intR (W.numR (W.numR (boundL x y z, 0)).2).2).1 = z := fun x y z hx hy hz0 hz => by
    have e1 : boundL x y z = numL x.toNat ++ (numL y.toNat ++ (numL (W.zig z) ++ [])) := by unfold boundL; simp
    have q1 := W.numR_write (n := x.toNat) (by omega) (numL y.toNat ++ (numL (W.zig z) ++ []))
    have q2 := W.numR_write (n := y.toNat) (by omega) (numL (W.zig z) ++ [])
    have q3 := Q5W hz0 hz []
    rw [e1, q1]
    refine ⟨rfl, ?_, ?_⟩
    · show (W.numR (_, 0)).1 = _
      rw [q2]
    · show (W.intR (W.numR (_, 0)).2).1 = _
      rw [q2]
      show (W.intR (_, 0)).1 = _
      rw [q3]
  constructor
  · intro h
    obtain ⟨a1, a2, a3⟩ := rd x y z hx hy hz0 hz
    obtain ⟨b1, b2, b3⟩ := rd u v t hu hv ht0 ht
    rw [h] at a1 a2 a3
    exact ⟨a1.symm.trans b1, a2.symm.trans b2, a3.symm.trans b3⟩
  · rintro ⟨h1, h2, h3⟩
    unfold boundL
    rw [h1, h2, h3]
theorem Q62 {S : OS} (h : S.ok) (s : MS) (last : Int) : (beginK S s last).2.1 ∈ (beginK S s last).2.2.keys := by
  have ok1 := (Q48 h).1
  have kin := key_in S
  have f := Q1D (keyOf S).1 (nowM s.ml) (keyOf S).2 ok1
  have hk : (keyOf S).1 ∈ (wrapsL (keyOf S).2 (keyOf S).1 (nowM s.ml)).1.keys := by rw [f.2.1]; exact kin
  unfold beginK
  split
  · show (keyOf S).1 ∈ (sealOf _ _ _ _).2.keys
    unfold sealOf
    rw [if_pos hk]
    split
    · exact hk
    · show _ ∈ (freshOf _).2.keys
      rw [(Q0Q _).2.1]; exact hk
  · exact hk
section
variable {S : OS} {R : Rng} {w i e : Int} {p : List UInt8}
theorem Q50 (h : KI S) (hl : S.used.length < 100000000) (hk : (sealP S R w i e p).1.2 = 0) :
    placeOK w i e = true ∧ (keyK R e).2 = 0 ∧ 0 ≤ classOf p.length ∧ (sealP S R w i e p).1.1.length = 8 + sizeN (classOf p.length) ∧ alook (sealP S R w i e p).2.sealed (handL (sealP S R w i e p).1.1) = some ⟨(keyK R e).1, boundL w i e, p⟩ := by
  unfold sealP at hk ⊢
  by_cases h1 : placeOK w i e = true
  · rw [if_pos h1] at hk ⊢
    by_cases h2 : (keyK R e).2 ≠ 0
    · rw [if_pos h2] at hk; exact absurd hk h2
    · rw [if_neg h2] at hk ⊢
      unfold sealOf at hk ⊢
      by_cases h3 : (keyK R e).1 ∈ S.keys
      · rw [if_pos h3] at hk ⊢
        by_cases h4 : classOf p.length < 0
        · rw [if_pos h4] at hk; cases hk
        · rw [if_neg h4] at hk ⊢
          obtain ⟨f1, f2, f3, f4, f5⟩ := Q1B h.inv
          have hsz := Q2f h.inv.ok
          have hfit := f1.fit (by omega) f4
          refine ⟨h1, by omega, by omega, by rw [Q14], ?_⟩
          show alook (aput S.sealed (freshOf S).1 _) ((handL (boxL (freshOf S).1.toNat _) : Nat) : Int) = _
          rw [Q2s (by omega), Q1j, if_pos (by omega)]
      · rw [if_neg h3] at hk; cases hk
  · rw [if_neg h1] at hk; cases hk
theorem Q5N (hk : (sealP S R w i e p).1.2 ≠ 0) : (sealP S R w i e p).1.1 = [] := by
  unfold sealP at hk ⊢
  split at hk
  · rename_i h1
    rw [if_pos h1]
    split at hk
    · rename_i h2; rw [if_pos h2]
    · rename_i h2
      rw [if_neg h2]
      unfold sealOf at hk ⊢
      split at hk
      · rename_i h3
        rw [if_pos h3]
        split at hk
        · rename_i h4; rw [if_pos h4]
        · exact absurd rfl hk
      · rename_i h3; rw [if_neg h3]
  · rename_i h1; rw [if_neg h1]
theorem Q3r (h : KI S) (hp : p.length ≤ 1000000) : Short (sealP S R w i e p).2 := by
  unfold sealP
  split
  · split
    · exact h.sh
    · unfold sealOf
      split
      · split
        · exact h.sh
        · intro x s hs
          have hs : alook (aput S.sealed (freshOf S).1 _) x = some s := hs
          rw [Q1j] at hs
          split at hs
          · cases hs; exact hp
          · exact h.sh x s hs
      · exact h.sh
  · exact h.sh
theorem Q5V {b : List UInt8} {key : Int} {bd : List UInt8} (hb : b.length = 8 + sizeN (classOf p.length)) (hs : alook S.sealed (handL b) = some ⟨key, bd, p⟩) (k' : Int) (bd' : List UInt8) :
    openOf S k' bd' b = if key ≠ k' then ([], 11) else if bd ≠ bd' then ([], 5) else (p, 0) := by
  unfold openOf
  rw [hs]
  show (if _ then _ else _) = _
  rw [if_neg (fun h => h hb)]
end
theorem Q2W {S : OS} {R : Rng} {p b : List UInt8} {key : Int} {bd : List UInt8} (hb : b.length = 8 + sizeN (classOf p.length)) (hs : alook S.sealed (handL b) = some ⟨key, bd, p⟩) {w i e pv : Int} (hpl : placeOK w i e = true) (hpv : pv = 0 ↔ i = 0) (hk : (keyK R e).2 = 0) :
    openP S R ⟨w, i, pv, 1, w, e, b, 0⟩ = if key ≠ (keyK R e).1 then ([], 11) else if bd ≠ boundL w i e then ([], 5) else (p, 0) := by
  have h1 : 0 ≤ w ∧ w < 8 ∧ 0 ≤ i ∧ i < 200 ∧ 0 ≤ e ∧ e < 20 := of_decide_eq_true hpl
  have h2 := Q1n (classOf p.length)
  have hr : Q1T ⟨w, i, pv, 1, w, e, b, 0⟩ = true := decide_eq_true (by
    show _ ∧ _ ∧ _ ∧ _ ∧ _ ∧ _ ∧ _ ∧ _ ∧ _ ∧ _ ∧ (pv = 0 ↔ i = 0)
    exact ⟨h1.1, h1.2.1, h1.2.2.1, h1.2.2.2.1, by show (-1 : Int) ≤ e; omega, h1.2.2.2.2.2, by show (0 : Int) < 1; decide, by show (1 : Int) ≤ 1099511627776; decide, rfl, by show b.length ≤ 1100; omega, hpv⟩)
  unfold openP
  rw [if_pos hr]
  show (if e < 0 then _ else if (keyK R e).2 ≠ 0 then _ else openOf S (keyK R e).1 (boundL w i e) b) = _
  rw [if_neg (by omega), if_neg (fun h => h hk), Q5V hb hs]
theorem Q5H {R : Rng} {t : Nat} {e : Int} (hk : R.keys = List.replicate t 0) (h0 : 0 ≤ e) (h1 : e < t) : keyK R e = (0, 11) := by
  unfold keyK
  obtain ⟨n, rfl⟩ := Int.eq_ofNat_of_zero_le h0
  have hz : (List.replicate t (0 : Int))[n]?.getD 0 = 0 := by rw [List.getElem?_replicate]; split <;> rfl
  rw [hk, if_neg (by rw [List.length_replicate]; omega), Int.toNat_natCast, if_pos hz]
theorem Q6d {S : OS} {R : Rng} {p b : List UInt8} {w i e pw qi qe : Int} (hb : b.length = 8 + sizeN (classOf p.length)) (hs : alook S.sealed (handL b) = some ⟨(keyK R e).1, boundL w i e, p⟩) (hpl : placeOK w i e = true) (hk : (keyK R e).2 = 0) :
    (openP S R ⟨pw, qi, if qi > 0 then 1 else 0, 1, pw, qe, b, 0⟩).2 = 0 ↔ (pw = w ∧ qi = i ∧ qe = e) := by
  have h1 : 0 ≤ w ∧ w < 8 ∧ 0 ≤ i ∧ i < 200 ∧ 0 ≤ e ∧ e < 20 := of_decide_eq_true hpl
  by_cases hr : Q1T ⟨pw, qi, if qi > 0 then 1 else 0, 1, pw, qe, b, 0⟩ = true
  · have h2 : 0 ≤ pw ∧ pw < 8 ∧ 0 ≤ qi ∧ qi < 200 ∧ -1 ≤ qe ∧ qe < 20 := by
      have := (Q2P _).1 hr
      exact ⟨this.1, this.2.1, this.2.2.1, this.2.2.2.1, this.2.2.2.2.1, this.2.2.2.2.2.1⟩
    by_cases hq : qe < 0
    · have e1 : openP S R ⟨pw, qi, if qi > 0 then 1 else 0, 1, pw, qe, b, 0⟩ = ([], 10) := by unfold openP; rw [if_pos hr]; exact if_pos hq
      rw [e1]
      exact ⟨fun h => (by cases h), fun h => by omega⟩
    · have hq2 : placeOK pw qi qe = true := decide_eq_true (by omega)
      by_cases hk2 : (keyK R qe).2 = 0
      · rw [Q2W hb hs hq2 (by split <;> omega) hk2]
        by_cases he : qe = e
        · subst he
          rw [if_neg (fun h => h rfl)]
          have hinj := Q3h (x := w) (y := i) (z := qe) (u := pw) (v := qi) (t := qe) (by omega) (by omega) (by omega) (by omega) (by omega) (by omega) (by omega) (by omega)
          by_cases hbd : boundL w i qe = boundL pw qi qe
          · have := hinj.1 hbd
            rw [if_neg (fun h => h hbd)]
            exact ⟨fun _ => by omega, fun _ => rfl⟩
          · rw [if_pos hbd]
            exact ⟨fun h => (by cases h), fun h => absurd (hinj.2 (by omega)) hbd⟩
        · have hbd : boundL w i e ≠ boundL pw qi qe := fun h => he (by
            have := (Q3h (x := w) (y := i) (z := e) (u := pw) (v := qi) (t := qe) (by omega) (by omega) (by omega) (by omega) (by omega) (by omega) (by omega) (by omega)).1 h
            exact this.2.2.symm)
          constructor
          · intro h
            split at h
            · cases h
            · cases h
          · exact fun h => absurd h.2.2 he
      · have e1 : openP S R ⟨pw, qi, if qi > 0 then 1 else 0, 1, pw, qe, b, 0⟩ = ([], (keyK R qe).2) := by unfold openP; rw [if_pos hr]; exact (if_neg hq).trans (if_pos hk2)
        rw [e1]
        exact ⟨fun h => absurd h hk2, fun h => absurd (by rw [h.2.2]; exact hk) hk2⟩
  · have e1 : openP S R ⟨pw, qi, if qi > 0 then 1 else 0, 1, pw, qe, b, 0⟩ = ([], 1) := by unfold openP; exact if_neg hr
    rw [e1]
    refine ⟨fun h => (by cases h), fun h => absurd (decide_eq_true ?_) hr⟩
    have h2 := Q1n (classOf p.length)
    show _ ∧ _ ∧ _ ∧ _ ∧ _ ∧ _ ∧ _ ∧ _ ∧ _ ∧ _ ∧ ((if qi > 0 then (1 : Int) else 0) = 0 ↔ qi = 0)
    obtain ⟨rfl, rfl, rfl⟩ := h
    exact ⟨h1.1, h1.2.1, h1.2.2.1, h1.2.2.2.1, by show (-1 : Int) ≤ qe; omega, h1.2.2.2.2.2, by show (0 : Int) < 1; decide, by show (1 : Int) ≤ 1099511627776; decide, rfl, by show b.length ≤ 1100; omega, by split <;> omega⟩
section
variable {w w' : World} {o o' : Own} {d : List Int} {many : Nat} {B : RB} {X : WD} {S : OS} {R : Nat → Rng} {K : List Int} {O : List (List UInt8)}
theorem RI.key (h : RI d many X S R K O) {e : Nat} (he : e < many) : keyK (R 0) e = (K[e]?.getD 0, 0) := Q65 h.a (by rw [h.len]; exact he) h.pi.ch.nz
theorem RI.one (hd : OInv (OS.init d)) (h : RI d 1 X S R K O) : K[0]?.getD 0 ∈ S.keys := by
  have e := h.det
  have e1 : roomK d 1 = ((beginK (roomK d 0).1 (roomK d 0).2.1 (roomK d 0).2.2.1).2.2, ⟨(roomK d 0).2.1.ml, (roomK d 0).2.1.ep + 1⟩, (beginK (roomK d 0).1 (roomK d 0).2.1 (roomK d 0).2.2.1).2.1, (roomK d 0).2.2.2 ++ [(beginK (roomK d 0).1 (roomK d 0).2.1 (roomK d 0).2.2.1).2.1]) := rfl
  rw [e1] at e
  have hS : (beginK (roomK d 0).1 (roomK d 0).2.1 (roomK d 0).2.2.1).2.2 = S := congrArg Prod.fst e
  have hK : (roomK d 0).2.2.2 ++ [(beginK (roomK d 0).1 (roomK d 0).2.1 (roomK d 0).2.2.1).2.1] = K := congrArg (fun x => x.2.2.2) e
  have hK : [(beginK (roomK d 0).1 (roomK d 0).2.1 (roomK d 0).2.2.1).2.1] = K := hK
  have p1 := (Q2d hd).1
  have p2 := (Q2d p1).1
  have hb := Q62 (S := (roomK d 0).1) p2.ok (roomK d 0).2.1 (roomK d 0).2.2.1
  rw [← hK, ← hS]
  exact hb
theorem RI.used (h : RI d many X S R K O) (hm : many ≤ 4) : S.used.length < 1000 := by have := h.us; omega
theorem Q4B (ok : Tags w o) : Calls Try.prog 6 #[] w (fun x w' => ∃ o', x = .returned (.bool true) ∧ Step no w o w' o') := by
  refine (Q0w.go (R := fun v w' => ∃ o', v = .bool true ∧ Step no w o w' o') ?_).mono fun x w' ⟨v, he, o', hv, h⟩ => ⟨o', by rw [he, hv], h⟩
  unfold Q0w.N
  refine (Q2O (d := []) (many := 1) ok (Row.nil _ _ _) (Nat.le_refl _) (fun x hx => by cases hx) (by simp) (by decide)).mono fun x w3 ⟨q, o3, he, B, X, S, R, K, O, hq, s3, A3, I, hov⟩ => ⟨_, he, fun h => (by cases h), fun _ => ⟨_, rfl, ?_⟩⟩
  subst hq
  have hus := I.used (by decide)
  refine ⟨_, A3.bk.celli 0 rfl rfl, _, A3.bk.celli 2 rfl rfl, fun w11 q12 X11 hb11 hq12 hq12' => ?_⟩
  have s11 := Step.of_no X11 s3.ok
  have A11 := A3.no s11
  obtain ⟨w16, hr16, hrow16, X16⟩ := litB Try.underlying25 Try.underlying5 [120] X11 hb11 hq12
  have s16 := Step.of_no X16 s3.ok
  have A16 := A3.no s16
  have r16 : Row w16 (grow w3 o3) (some (blk q12)) (bytesV [120]) := Row.fresh hrow16 fun ad ha => by cases ha; exact hq12
  refine ⟨A11.bk.celli 2 rfl rfl, A11.bk.celli 0 rfl rfl, _, _, _, w16, hr16, A16.bk.celli 2 rfl rfl, A16.bk.celli 0 rfl rfl, ?_⟩
  have hin : OInv (OS.init []) := OInv.init (l := []) (fun x hx => by cases hx)
  have hkey := I.key (e := 0) (by decide)
  have hmem := I.one hin
  have hsl : (sealP S (R 0) 1 0 0 [120]).1.2 = 0 := by
    have e1 : sealP S (R 0) 1 0 0 [120] = sealOf S (K[0]?.getD 0) (boundL 1 0 0) [120] := by
      unfold sealP
      rw [if_pos (by decide)]
      have hk2 : keyK (R 0) 0 = (K[0]?.getD 0, 0) := hkey
      rw [hk2]; exact if_neg (fun h => h rfl)
    rw [e1]
    unfold sealOf
    rw [if_pos hmem, if_neg (by decide)]
  refine (Q3W A16.a A16.orc s16.ok I.pi.ki.inv.ok (by omega) 1 0 0 r16 (by simp)).mono fun x w22 ⟨o22, ba, bc, he, s22, r22, hbc, P22⟩ => ⟨_, _, _, _, he, ?_⟩
  obtain ⟨g1, g2, g3, g4, g5⟩ := Q50 I.pi.ki (by omega) hsl
  have hsh := Q3r (R := R 0) (w := 1) (i := 0) (e := 0) (p := [120]) I.pi.ki (by simp)
  have hle : (sealP S (R 0) 1 0 0 [120]).1.1.length ≤ 1032 := by
    have := Q1n (classOf ([120] : List UInt8).length); omega
  have A22 := A16.toOrc s22 P22
  rw [hsl]
  generalize (sealP S (R 0) 1 0 0 [120]).1.1 = b at *
  generalize (sealP S (R 0) 1 0 0 [120]).2 = S2 at *
  refine ⟨_, A22.bk.celli 0 rfl rfl, _, A22.bk.celli 2 rfl rfl, fun w25 p30 X25 hp30 => ?_⟩
  obtain ⟨s25, M25⟩ := Step.priv X25 hp30 s22.ok
  have A25 := A22.no s25
  have hkk : (keyK (R 0) 0).2 = 0 := congrArg Prod.snd hkey
  have o1 : openP S2 (R 0) ⟨1, 0, 0, 1, 1, 0, b, 0⟩ = ([120], 0) := by
    rw [Q2W g4 g5 (by decide) (by decide) hkk, if_neg (fun h => h rfl), if_neg (fun h => h rfl)]
  have o2 : openP S2 (R 0) ⟨1, 1, 5, 1, 1, 0, b, 0⟩ = ([], 5) := by
    rw [Q2W g4 g5 (by decide) (by decide) hkk, if_neg (fun h => h rfl), if_pos (by decide)]
  have op1 := Q1M (e := ⟨1, 0, 0, 1, 1, 0, b, 0⟩) (ec := bc) A25.a A25.orc s25.ok hsh (r22.step s25) (by show b.length < 1000000; omega) hbc
  rw [o1] at op1
  refine op1.mono fun x w34 ⟨o34, ta, tc, he, s34, r34, htc, _⟩ => ⟨_, _, _, _, he, M25.keep s34 (fun _ _ => id), fun w37 X37 => ?_⟩
  have A34 := A25.no s34
  have M34 := M25.step s34
  have s37 : Step (fun i => i ∈ [p30]) w34 _ w37 _ := Step.stores X37 s34.ok M34 (fun b hb => by simp [hb])
  have h30 := (hp30 p30 (by simp)).1
  have u22 := A22.under
  have A37 := A34.far u22 s37 (fun j hj => by simp at hj; rw [hj]; exact h30)
  have M37 := M34.step s37
  have op2 := Q1M (e := ⟨1, 1, 5, 1, 1, 0, b, 0⟩) (ec := bc) A37.a A37.orc s37.ok hsh (((r22.step s25).step s34).step s37) (by show b.length < 1000000; omega) hbc
  rw [o2] at op2
  refine ⟨_, A37.bk.celli 0 rfl rfl, _, A37.bk.celli 2 rfl rfl, op2.mono fun x w45 ⟨o45, ta2, tc2, he, s45, r45, _⟩ => ⟨_, _, _, _, he, M37.keep s45 (fun _ _ => id), fun _ => ⟨fun _ => ?_, fun h => absurd rfl h⟩, fun h => absurd rfl h⟩⟩
  have S45 : Step no w o w45 o45 := (((((s3.trans s16).trans' s22 fun a ha => .inr (by rw [ha]; exact hov.k)).trans s25).trans s34).trans' s37 fun a ha => .inr (by simp at ha; rw [ha]; have := ((s3.trans s16).trans' s22 fun a ha => .inr (by rw [ha]; exact hov.k)).size; omega)).trans s45
  refine ⟨_, Q4h Try.underlying25 Try.underlying5 Try.underlying9 ((r34.step s37).step s45).1, fun _ => ⟨fun _ => ?_, fun h => absurd rfl h⟩, fun h => absurd (by rfl) h⟩
  refine (Q4U ⟨1, 1, 5, 1, 1, 0, b, 0⟩ ba bc w45).mono fun x w54 ⟨he, X54⟩ => ⟨_, he, _, ?_, S45.trans (Step.of_no X54 S45.ok)⟩
  have hc : classS b.length = 0 := by rw [g4]; decide
  show Value.bool (classS b.length == 0) = .bool true
  rw [hc]; rfl
end
set_option maxRecDepth 100000
theorem eqT24 (x0 x1 x2 y0 y1 y2 : Int) (w : World) : (Op.equalIn 10000 24 (.agg #[.int .i64 x0, .int .i64 x1, .int .i64 x2]) (.agg #[.int .i64 y0, .int .i64 y1, .int .i64 y2])).run Try.prog w = .ok (decide (x0 = y0 ∧ x1 = y1 ∧ x2 = y2)) w := by
  obtain ⟨f0, f1, f2, ht, n0, o0, p0, u0, n1, o1, p1, u1, n2, o2, p2, u2, hp⟩ : ∃ f0 f1 f2, Try.prog.underlying 24 = some (.struct #[f0, f1, f2]) ∧ f0.name ≠ "_" ∧ f0.offset = 0 ∧ Try.prog.plainKey f0.type = true ∧ Try.prog.underlying f0.type = some (.int .i64) ∧ f1.name ≠ "_" ∧ f1.offset = 1 ∧ Try.prog.plainKey f1.type = true ∧ Try.prog.underlying f1.type = some (.int .i64) ∧ f2.name ≠ "_" ∧ f2.offset = 2 ∧ Try.prog.plainKey f2.type = true ∧ Try.prog.underlying f2.type = some (.int .i64) ∧ Try.prog.stoodInHeld 24 = false :=
    ⟨_, _, _, Try.underlying24, by decide, rfl, by kernel_rfl, by kernel_rfl, by decide, rfl, by kernel_rfl, by kernel_rfl, by decide, rfl, by kernel_rfl, by kernel_rfl, by kernel_rfl⟩
  have hf : Try.prog.fieldsOf 24 = #[f0, f1, f2] := by simp [Program.fieldsOf, ht]
  rw [show (10000 : Nat) = 9998 + 1 + 1 from rfl, run_equalIn_struct w (9998 + 1) _ _ _ (by rw [hf]; exact ht) hp, hf]
  show (Op.eqFields (9998 + 1) _ _ [f0, f1, f2]).run Try.prog w = _
  rw [W.eqf_step n0 (run_part_plain w p0 (by rw [o0]; rfl)) (run_part_plain w p0 (by rw [o0]; rfl)) (run_equalIn_int w _ _ _ _ _ _ u0), W.eqf_step n1 (run_part_plain w p1 (by rw [o1]; rfl)) (run_part_plain w p1 (by rw [o1]; rfl)) (run_equalIn_int w _ _ _ _ _ _ u1), W.eqf_step n2 (run_part_plain w p2 (by rw [o2]; rfl)) (run_part_plain w p2 (by rw [o2]; rfl)) (run_equalIn_int w _ _ _ _ _ _ u2)]
  by_cases e0 : x0 = y0 <;> by_cases e1 : x1 = y1 <;> by_cases e2 : x2 = y2 <;> simp [e0, e1, e2, Op.eqFields]
theorem Q45 (x0 x1 x2 y0 y1 y2 : Int) (w : World) : (binOp .eql 24 (.agg #[.int .i64 x0, .int .i64 x1, .int .i64 x2]) (.agg #[.int .i64 y0, .int .i64 y1, .int .i64 y2])).run Try.prog w = .ok (.bool (decide (x0 = y0 ∧ x1 = y1 ∧ x2 = y2))) w := by rw [run_eql_struct, eqT24]; rfl
abbrev Q04.J1 (ay : Addr) (av : Option Addr) (b1 ax : Addr) (R : RW) (aq : World) : Prop :=
 thenW (aq.drew) fun ae =>
 av.elim False fun az =>
 ∃ (ao : Option Addr), ae.cell? (az.add 0) = some (.pointer ao) ∧
 av.elim False fun b0 =>
 ∃ (ar : Option Addr), ae.cell? (b0.add 2) = some (.pointer ar) ∧
 ∃ (a0 a4 ab ag ah a1 : Int) (a8 : Option Addr) (aa a6 : Nat) (af : Int), cellsAt ae ay [.int .i64 a0, .int .i64 a4, .int .u64 ab, .int .i64 ag, .int .i64 ah, .int .i64 a1, .slice a8 aa a6, .int .u64 af] 0 ∧
 Calls Try.prog 9 #[.pointer ao, .pointer ar, .agg #[.int .i64 a0, .int .i64 a4, .int .u64 ab, .int .i64 ag, .int .i64 ah, .int .i64 a1, .slice a8 aa a6, .int .u64 af]] ae fun aw a3 => ∃ (ai : Option Addr) (aj ak : Nat) (ad : Int), aw = .returned (.tuple #[.slice ai aj ak, .int .i64 ad]) ∧
 ∃ (al a9 a7 : Int), cellsAt a3 b1 [.int .i64 al, .int .i64 a9, .int .i64 a7] 0 ∧
 ∃ (am a2 a5 : Int), cellsAt a3 ax [.int .i64 am, .int .i64 a2, .int .i64 a5] 0 ∧
 ∃ (ap : Bool), (binOp .eql 24 (.agg #[.int .i64 al, .int .i64 a9, .int .i64 a7]) (.agg #[.int .i64 am, .int .i64 a2, .int .i64 a5])).run Try.prog a3 = .ok (.bool ap) a3 ∧
 bif (ad == 0) == ap then (
 Calls Try.prog 6 #[] a3 fun an au => ∃ (ac : Bool), an = .returned (.bool ac) ∧
 R (.bool ac) au) else (
 R (.bool false) a3)

abbrev Q04.J2 (ar : Addr) (am : Option Addr) (ab al : Addr) (R : RW) (a0 : World) : Prop :=
 ∃ (a1 a4 a8 ac af a3 : Int) (a6 : Option Addr) (a5 a2 : Nat) (ae : Int), cellsAt a0 ar [.int .i64 a1, .int .i64 a4, .int .u64 a8, .int .i64 ac, .int .i64 af, .int .i64 a3, .slice a6 a5 a2, .int .u64 ae] 0 ∧
 thenW (a0.alloc (.cells #[.int .i64 0, .int .i64 0, .int .u64 0, .int .i64 0, .int .i64 0, .int .i64 0, .slice none 0 0, .int .u64 0] 42)) fun an =>
 putsK an (blk a0.heap.size) [.int .i64 a1, .int .i64 a4, .int .u64 a8, .int .i64 ac, .int .i64 af, .int .i64 a3, .slice a6 a5 a2, .int .u64 ae] 0 fun ah =>
 ∃ (ao : Int), ah.cell? (ab.add 0) = some (.int .i64 ao) ∧
 Q0d ah (((blk a0.heap.size).add 0).add 0) ∧
 thenW (ah.setCell (((blk a0.heap.size).add 0).add 0) (.int .i64 ao)) fun ag =>
 ∃ (aq : Int), ag.cell? (ab.add 0) = some (.int .i64 aq) ∧
 Q0d ag ((((blk a0.heap.size).add 3).add 1).add 0) ∧
 thenW (ag.setCell ((((blk a0.heap.size).add 3).add 1).add 0) (.int .i64 aq)) fun ai =>
 ∃ (a7 : Int), ai.cell? (ab.add 1) = some (.int .i64 a7) ∧
 Q0d ai (((blk a0.heap.size).add 1).add 0) ∧
 thenW (ai.setCell (((blk a0.heap.size).add 1).add 0) (.int .i64 a7)) fun aj =>
 ∃ (a9 : Int), aj.cell? (ab.add 2) = some (.int .i64 a9) ∧
 Q0d aj (((blk a0.heap.size).add 5).add 0) ∧
 thenW (aj.setCell (((blk a0.heap.size).add 5).add 0) (.int .i64 a9)) fun ak =>
 Q0d ak (((blk a0.heap.size).add 2).add 0) ∧
 thenW (ak.setCell (((blk a0.heap.size).add 2).add 0) (.int .u64 0)) fun ad =>
 ∃ (aa : Int), ad.cell? (ab.add 1) = some (.int .i64 aa) ∧
 bif decide (aa > 0) then (
 Q0d ad (((blk a0.heap.size).add 2).add 0) ∧
 thenW (ad.setCell (((blk a0.heap.size).add 2).add 0) (.int .u64 1)) fun ap =>
 Q04.J1 (blk a0.heap.size) am ab al R ap) else (
 Q04.J1 (blk a0.heap.size) am ab al R ad)

abbrev Q04.J3 (b0 : Addr) (ax : Option Addr) (be ba : Addr) (bd : Option Addr) (bf bh : Nat) (R : RW) (b6 : World) : Prop :=
 thenW (b6.drew) fun an =>
 ax.elim False fun bc =>
 ∃ (b8 : Option Addr), an.cell? (bc.add 0) = some (.pointer b8) ∧
 ax.elim False fun bg =>
 ∃ (b3 : Option Addr), an.cell? (bg.add 2) = some (.pointer b3) ∧
 ∃ (a1 a6 ai aq ak ab : Int) (a7 : Option Addr) (ae aa : Nat) (al : Int), cellsAt an b0 [.int .i64 a1, .int .i64 a6, .int .u64 ai, .int .i64 aq, .int .i64 ak, .int .i64 ab, .slice a7 ae aa, .int .u64 al] 0 ∧
 Calls Try.prog 9 #[.pointer b8, .pointer b3, .agg #[.int .i64 a1, .int .i64 a6, .int .u64 ai, .int .i64 aq, .int .i64 ak, .int .i64 ab, .slice a7 ae aa, .int .u64 al]] an fun b9 b4 => ∃ (ac : Option Addr) (a5 a8 : Nat) (ah : Int), b9 = .returned (.tuple #[.slice ac a5 a8, .int .i64 ah]) ∧
 thenW (b4.drew) fun ar =>
 ax.elim False fun bb =>
 ∃ (b1 : Option Addr), ar.cell? (bb.add 0) = some (.pointer b1) ∧
 ax.elim False fun bi =>
 ∃ (b5 : Option Addr), ar.cell? (bi.add 3) = some (.pointer b5) ∧
 ∃ (a0 ad af ao ap a2 : Int) (a9 : Option Addr) (a4 a3 : Nat) (am : Int), cellsAt ar b0 [.int .i64 a0, .int .i64 ad, .int .u64 af, .int .i64 ao, .int .i64 ap, .int .i64 a2, .slice a9 a4 a3, .int .u64 am] 0 ∧
 Calls Try.prog 9 #[.pointer b1, .pointer b5, .agg #[.int .i64 a0, .int .i64 ad, .int .u64 af, .int .i64 ao, .int .i64 ap, .int .i64 a2, .slice a9 a4 a3, .int .u64 am]] ar fun b2 az => ∃ (au : Option Addr) (av aw : Nat) (ag : Int), b2 = .returned (.tuple #[.slice au av aw, .int .i64 ag]) ∧
 bif ah != 0 then (
 R (.bool false) az) else (
 Calls Try.prog 10 #[.slice ac a5 a8, .slice bd bf bh] az fun b7 ay => ∃ (aj : Bool), b7 = .returned (.bool aj) ∧
 bif !aj then (
 R (.bool false) ay) else (
 bif ag != 11 then (
 R (.bool false) ay) else (
 Q04.J2 b0 ax be ba R ay)))

abbrev Q04.J4 (af : Option Addr) (ah ag : Nat) (a9 : Option Addr) (ac a4 : Addr) (ab : Option Addr) (aa a6 : Nat) (R : RW) (a0 : World) : Prop :=
 ∃ (a8 : Int), a0.cell? (a4.add 0) = some (.int .i64 a8) ∧
 ∃ (a1 : Int), a0.cell? (a4.add 1) = some (.int .i64 a1) ∧
 ∃ (a7 : Int), a0.cell? (a4.add 0) = some (.int .i64 a7) ∧
 ∃ (a3 : Int), a0.cell? (a4.add 2) = some (.int .i64 a3) ∧
 thenW (a0.alloc (.cells #[.int .i64 0, .int .i64 0, .int .u64 0, .int .i64 0, .int .i64 0, .int .i64 0, .slice none 0 0, .int .u64 0] 42)) fun ae =>
 putsK ae (blk a0.heap.size) [.int .i64 a8, .int .i64 a1, .int .u64 0, .int .i64 1, .int .i64 a7, .int .i64 a3, .slice af ah ag, .int .u64 0] 0 fun a5 =>
 ∃ (a2 : Int), a5.cell? (a4.add 1) = some (.int .i64 a2) ∧
 bif decide (a2 > 0) then (
 Q0d a5 (((blk a0.heap.size).add 2).add 0) ∧
 thenW (a5.setCell (((blk a0.heap.size).add 2).add 0) (.int .u64 1)) fun ad =>
 Q04.J3 (blk a0.heap.size) a9 ac a4 ab aa a6 R ad) else (
 Q04.J3 (blk a0.heap.size) a9 ac a4 ab aa a6 R a5)

abbrev Q04.J5 (ai : Option Addr) (an ag : Addr) (am : Option Addr) (al ak : Nat) (R : RW) (ae : World) : Prop :=
 thenW (ae.drew) fun a3 =>
 ai.elim False fun aj =>
 ∃ (aa : Option Addr), a3.cell? (aj.add 0) = some (.pointer aa) ∧
 ai.elim False fun ah =>
 ∃ (af : Option Addr), a3.cell? (ah.add 2) = some (.pointer af) ∧
 ∃ (ac : Int), a3.cell? (ag.add 0) = some (.int .i64 ac) ∧
 ∃ (a7 : Int), a3.cell? (ag.add 1) = some (.int .i64 a7) ∧
 ∃ (a6 : Int), a3.cell? (ag.add 2) = some (.int .i64 a6) ∧
 Calls Try.prog 8 #[.pointer aa, .pointer af, .int .i64 ac, .int .i64 a7, .int .i64 a6, .slice am al ak] a3 fun a9 a8 => ∃ (a1 : Option Addr) (a0 a2 : Nat) (a4 : Int), a9 = .returned (.tuple #[.slice a1 a0 a2, .int .i64 a4]) ∧
 bif a4 != 0 then (
 bif (a0 : Int) == 0 then (
 Calls Try.prog 6 #[] a8 fun ad ab => ∃ (a5 : Bool), ad = .returned (.bool a5) ∧
 R (.bool a5) ab) else (
 R (.bool false) a8)) else (
 Q04.J4 a1 a0 a2 ai an ag am al ak R a8)

abbrev Q04.J6 (a9 a8 : Addr) (a7 : Option Addr) (a6 aa : Nat) (a4 : Option Addr) (a5 ab : Nat) (R : RW) (a2 : World) : Prop :=
 Calls Try.prog 7 #[.slice a7 a6 aa, .int .i64 3] a2 fun a3 a1 => ∃ (a0 : Option Addr), a3 = .returned (.pointer a0) ∧
 bif Option.isNone a0 then (
 R (.bool false) a1) else (
 Q04.J5 a0 a9 a8 a4 a5 ab R a1)

def Q04.M (ad : Option Addr) (a3 ae : Nat) (ar ab a9 : Int) (ag : Option Addr) (a8 af : Nat) (aq aa ac : Int) (R : RW) (w : World) : Prop :=
 thenW (w.alloc (.cells #[.int .i64 ar, .int .i64 ab, .int .i64 a9] 24)) fun ap =>
 thenW (ap.alloc (.cells #[.int .i64 aq, .int .i64 aa, .int .i64 ac] 24)) fun a0 =>
 bif decide ((a3 : Int) > 50) then (
 Calls Try.prog 6 #[] a0 fun ak ah => ∃ (a2 : Bool), ak = .returned (.bool a2) ∧
 R (.bool a2) ah) else (
 bif decide ((a8 : Int) > 1500) then (
 Calls Try.prog 6 #[] a0 fun ao am => ∃ (a6 : Bool), ao = .returned (.bool a6) ∧
 R (.bool a6) am) else (
 ∃ (a7 : Int), a0.cell? ((blk w.heap.size).add 2) = some (.int .i64 a7) ∧
 bif decide (a7 < 0) then (
 Calls Try.prog 6 #[] a0 fun aj ai => ∃ (a4 : Bool), aj = .returned (.bool a4) ∧
 R (.bool a4) ai) else (
 ∃ (a5 : Int), a0.cell? ((blk w.heap.size).add 2) = some (.int .i64 a5) ∧
 bif decide (a5 > 2) then (
 Calls Try.prog 6 #[] a0 fun an al => ∃ (a1 : Bool), an = .returned (.bool a1) ∧
 R (.bool a1) al) else (
 Q04.J6 (blk ap.heap.size) (blk w.heap.size) ad a3 ae ag a8 af R a0))))

theorem Q04.ok (a3 : Option Addr) (a2 a1 : Nat) (ab a5 a0 : Int) (a9 : Option Addr) (a7 a8 : Nat) (aa a4 a6 : Int) {R : RW} {w : World} (h : Q04.M a3 a2 a1 ab a5 a0 a9 a7 a8 aa a4 a6 R w) : Calls Try.prog 3 #[.slice a3 a2 a1, .agg #[.int .i64 ab, .int .i64 a5, .int .i64 a0], .slice a9 a7 a8, .agg #[.int .i64 aa, .int .i64 a4, .int .i64 a6]] w fun e w' => ∃ v, e = .returned v ∧ R v w' :=
  Q0j follows (H := []) (args := [.slice a3 a2 a1, .agg #[.int .i64 ab, .int .i64 a5, .int .i64 a0], .slice a9 a7 a8, .agg #[.int .i64 aa, .int .i64 a4, .int .i64 a6]]) (cast (by kernel_rfl) h)

def Q04.N (ca : Option Addr) (an c9 : Nat) (ay a2 a0 : Int) (b3 : Option Addr) (af b5 : Nat) (b2 a1 a4 : Int) (R : RW) (w : World) : Prop :=
 ((an : Int) > 50 →
 ∀ (a8 : World), Ext no w a8 →
 Calls Try.prog 6 #[] a8 fun dl d8 => ∃ (b7 : Bool), dl = .returned (.bool b7) ∧
 R (.bool b7) d8) ∧
 ((an : Int) ≤ 50 →
 ((af : Int) > 1500 →
 ∀ (a8 : World), Ext no w a8 →
 Calls Try.prog 6 #[] a8 fun da dd => ∃ (bc : Bool), da = .returned (.bool bc) ∧
 R (.bool bc) dd) ∧
 ((af : Int) ≤ 1500 →
 (a0 < 0 →
 ∀ (a8 : World), Ext no w a8 →
 Calls Try.prog 6 #[] a8 fun dk de => ∃ (b9 : Bool), dk = .returned (.bool b9) ∧
 R (.bool b9) de) ∧
 ((0 : Int) ≤ a0 →
 (a0 > 2 →
 ∀ (a8 : World), Ext no w a8 →
 Calls Try.prog 6 #[] a8 fun dg df => ∃ (ba : Bool), dg = .returned (.bool ba) ∧
 R (.bool ba) df) ∧
 (a0 ≤ 2 →
 ∀ (a8 : World) (bu br : Nat), Ext no w a8 → Priv w a8 [bu, br] →
 Calls Try.prog 7 #[.slice ca an c9, .int .i64 3] a8 fun di c2 => ∃ (a7 : Option Addr), di = .returned (.pointer a7) ∧
 Keep [bu, br] a8 c2 ∧
 (a7 = none →
 R (.bool false) c2) ∧
 (a7 ≠ none →
 ∃ al : Addr, a7 = some al ∧
 ∃ (ds : Option Addr), c2.cell? (al.add 0) = some (.pointer ds) ∧
 ∃ (du : Option Addr), c2.cell? (al.add 2) = some (.pointer du) ∧
 ∀ (ce : World), Ext no c2 ce →
 Calls Try.prog 8 #[.pointer ds, .pointer du, .int .i64 ay, .int .i64 a2, .int .i64 a0, .slice b3 af b5] ce fun dj ae => ∃ (a5 : Option Addr) (a3 a6 : Nat) (aq : Int), dj = .returned (.tuple #[.slice a5 a3 a6, .int .i64 aq]) ∧
 Keep [bu, br] ce ae ∧
 (aq ≠ 0 →
 ((a3 : Int) = 0 →
 Calls Try.prog 6 #[] ae fun d9 d7 => ∃ (b8 : Bool), d9 = .returned (.bool b8) ∧
 R (.bool b8) d7) ∧
 ((a3 : Int) ≠ 0 →
 R (.bool false) ae)) ∧
 (aq = 0 →
 (a2 > 0 →
 ∃ (dp : Option Addr), ae.cell? (al.add 0) = some (.pointer dp) ∧
 ∃ (dq : Option Addr), ae.cell? (al.add 2) = some (.pointer dq) ∧
 ∀ (c8 : World) (d6 : Nat), Ext no ae c8 → Priv ae c8 [d6] →
 Calls Try.prog 9 #[.pointer dp, .pointer dq, .agg #[.int .i64 ay, .int .i64 a2, .int .u64 1, .int .i64 1, .int .i64 ay, .int .i64 a0, .slice a5 a3 a6, .int .u64 0]] c8 fun dh cc => ∃ (b1 : Option Addr) (aw ax : Nat) (am : Int), dh = .returned (.tuple #[.slice b1 aw ax, .int .i64 am]) ∧
 Keep [bu, br, d6] c8 cc ∧
 ∃ (dt : Option Addr), cc.cell? (al.add 0) = some (.pointer dt) ∧
 ∃ (dm : Option Addr), cc.cell? (al.add 3) = some (.pointer dm) ∧
 ∀ (cf : World), Ext no cc cf →
 Calls Try.prog 9 #[.pointer dt, .pointer dm, .agg #[.int .i64 ay, .int .i64 a2, .int .u64 1, .int .i64 1, .int .i64 ay, .int .i64 a0, .slice a5 a3 a6, .int .u64 0]] cf fun db cd => ∃ (bw : Option Addr) (bv c1 : Nat) (ap : Int), db = .returned (.tuple #[.slice bw bv c1, .int .i64 ap]) ∧
 Keep [bu, br, d6] cf cd ∧
 (am ≠ 0 →
 R (.bool false) cd) ∧
 (am = 0 →
 Calls Try.prog 10 #[.slice b1 aw ax, .slice b3 af b5] cd fun dc ar => ∃ (b4 : Bool), dc = .returned (.bool b4) ∧
 Keep [bu, br, d6] cd ar ∧
 (b4 = false →
 R (.bool false) ar) ∧
 (b4 = true →
 (ap ≠ 11 →
 R (.bool false) ar) ∧
 (ap = 11 →
 (a1 > 0 →
 ∃ (dn : Option Addr), ar.cell? (al.add 0) = some (.pointer dn) ∧
 ∃ (dr : Option Addr), ar.cell? (al.add 2) = some (.pointer dr) ∧
 ∀ (cg : World), Ext no ar cg →
 Calls Try.prog 9 #[.pointer dn, .pointer dr, .agg #[.int .i64 b2, .int .i64 a1, .int .u64 1, .int .i64 1, .int .i64 b2, .int .i64 a4, .slice a5 a3 a6, .int .u64 0]] cg fun cp c0 => ∃ (bi : Option Addr) (bj bq : Nat) (ab : Int), cp = .returned (.tuple #[.slice bi bj bq, .int .i64 ab]) ∧
 Keep [bu, br] cg c0 ∧
 ((ab == 0) = (decide (b2 = ay ∧ a1 = a2 ∧ a4 = a0)) →
 Calls Try.prog 6 #[] c0 fun ch cw => ∃ (az : Bool), ch = .returned (.bool az) ∧
 R (.bool az) cw) ∧
 ((ab == 0) ≠ (decide (b2 = ay ∧ a1 = a2 ∧ a4 = a0)) →
 R (.bool false) c0)) ∧
 (a1 ≤ 0 →
 ∃ (ct : Option Addr), ar.cell? (al.add 0) = some (.pointer ct) ∧
 ∃ (d5 : Option Addr), ar.cell? (al.add 2) = some (.pointer d5) ∧
 ∀ (c5 : World), Ext no ar c5 →
 Calls Try.prog 9 #[.pointer ct, .pointer d5, .agg #[.int .i64 b2, .int .i64 a1, .int .u64 0, .int .i64 1, .int .i64 b2, .int .i64 a4, .slice a5 a3 a6, .int .u64 0]] c5 fun d3 bz => ∃ (bm : Option Addr) (bf be : Nat) (ah : Int), d3 = .returned (.tuple #[.slice bm bf be, .int .i64 ah]) ∧
 Keep [bu, br] c5 bz ∧
 ((ah == 0) = (decide (b2 = ay ∧ a1 = a2 ∧ a4 = a0)) →
 Calls Try.prog 6 #[] bz fun cq cn => ∃ (b0 : Bool), cq = .returned (.bool b0) ∧
 R (.bool b0) cn) ∧
 ((ah == 0) ≠ (decide (b2 = ay ∧ a1 = a2 ∧ a4 = a0)) →
 R (.bool false) bz)))))) ∧
 (a2 ≤ 0 →
 ∃ (ci : Option Addr), ae.cell? (al.add 0) = some (.pointer ci) ∧
 ∃ (cz : Option Addr), ae.cell? (al.add 2) = some (.pointer cz) ∧
 ∀ (b6 : World) (cb : Nat), Ext no ae b6 → Priv ae b6 [cb] →
 Calls Try.prog 9 #[.pointer ci, .pointer cz, .agg #[.int .i64 ay, .int .i64 a2, .int .u64 0, .int .i64 1, .int .i64 ay, .int .i64 a0, .slice a5 a3 a6, .int .u64 0]] b6 fun cu bd => ∃ (aj : Option Addr) (ak ai : Nat) (ag : Int), cu = .returned (.tuple #[.slice aj ak ai, .int .i64 ag]) ∧
 Keep [bu, br, cb] b6 bd ∧
 ∃ (d4 : Option Addr), bd.cell? (al.add 0) = some (.pointer d4) ∧
 ∃ (cv : Option Addr), bd.cell? (al.add 3) = some (.pointer cv) ∧
 ∀ (bx : World), Ext no bd bx →
 Calls Try.prog 9 #[.pointer d4, .pointer cv, .agg #[.int .i64 ay, .int .i64 a2, .int .u64 0, .int .i64 1, .int .i64 ay, .int .i64 a0, .slice a5 a3 a6, .int .u64 0]] bx fun d2 bb => ∃ (bk : Option Addr) (bg bo : Nat) (ac : Int), d2 = .returned (.tuple #[.slice bk bg bo, .int .i64 ac]) ∧
 Keep [bu, br, cb] bx bb ∧
 (ag ≠ 0 →
 R (.bool false) bb) ∧
 (ag = 0 →
 Calls Try.prog 10 #[.slice aj ak ai, .slice b3 af b5] bb fun co a9 => ∃ (ao : Bool), co = .returned (.bool ao) ∧
 Keep [bu, br, cb] bb a9 ∧
 (ao = false →
 R (.bool false) a9) ∧
 (ao = true →
 (ac ≠ 11 →
 R (.bool false) a9) ∧
 (ac = 11 →
 (a1 > 0 →
 ∃ (d1 : Option Addr), a9.cell? (al.add 0) = some (.pointer d1) ∧
 ∃ (cm : Option Addr), a9.cell? (al.add 2) = some (.pointer cm) ∧
 ∀ (c4 : World), Ext no a9 c4 →
 Calls Try.prog 9 #[.pointer d1, .pointer cm, .agg #[.int .i64 b2, .int .i64 a1, .int .u64 1, .int .i64 1, .int .i64 b2, .int .i64 a4, .slice a5 a3 a6, .int .u64 0]] c4 fun ck c3 => ∃ (bp : Option Addr) (bh bt : Nat) (aa : Int), ck = .returned (.tuple #[.slice bp bh bt, .int .i64 aa]) ∧
 Keep [bu, br] c4 c3 ∧
 ((aa == 0) = (decide (b2 = ay ∧ a1 = a2 ∧ a4 = a0)) →
 Calls Try.prog 6 #[] c3 fun cr cs => ∃ (av : Bool), cr = .returned (.bool av) ∧
 R (.bool av) cs) ∧
 ((aa == 0) ≠ (decide (b2 = ay ∧ a1 = a2 ∧ a4 = a0)) →
 R (.bool false) c3)) ∧
 (a1 ≤ 0 →
 ∃ (d0 : Option Addr), a9.cell? (al.add 0) = some (.pointer d0) ∧
 ∃ (cy : Option Addr), a9.cell? (al.add 2) = some (.pointer cy) ∧
 ∀ (c6 : World), Ext no a9 c6 →
 Calls Try.prog 9 #[.pointer d0, .pointer cy, .agg #[.int .i64 b2, .int .i64 a1, .int .u64 0, .int .i64 1, .int .i64 b2, .int .i64 a4, .slice a5 a3 a6, .int .u64 0]] c6 fun cx c7 => ∃ (bs : Option Addr) (bn bl : Nat) (ad : Int), cx = .returned (.tuple #[.slice bs bn bl, .int .i64 ad]) ∧
 Keep [bu, br] c6 c7 ∧
 ((ad == 0) = (decide (b2 = ay ∧ a1 = a2 ∧ a4 = a0)) →
 Calls Try.prog 6 #[] c7 fun cl cj => ∃ (au : Bool), cl = .returned (.bool au) ∧
 R (.bool au) cj) ∧
 ((ad == 0) ≠ (decide (b2 = ay ∧ a1 = a2 ∧ a4 = a0)) →
 R (.bool false) c7))))))))))))

theorem Q04.up (an : Option Addr) (al am : Nat) (ae a4 a3 : Int) (bg : Option Addr) (bk bs : Nat) (ad a5 a8 : Int) {R : RW} {w : World} (h : Q04.N an al am ae a4 a3 bg bk bs ad a5 a8 R w) : Q04.M an al am ae a4 a3 bg bk bs ad a5 a8 R w := by
  unfold Q04.M
  unfold Q04.N at h
  refine Q01 fun gv e9 => ?_
  have a6 := Blk.of_new e9
  have gy := ((Ext.refl no w)).size
  have g6 := (Ext.refl no w).x_alloc e9
  refine Q01 fun bb en => ?_
  have a7 := Blk.of_new en
  have gj := (g6).size
  have g3 := Nat.ne_of_lt a6.lt
  have a6 := a6.x_alloc en
  have br := g6.x_alloc en
  refine bif_of (fun ez => ?_) (fun ez => ?_)
  ·have h := h.1 (of_decide_eq_true ez)
   have h := h bb br
   refine h.mono fun i3 gc h => ?_
   obtain ⟨bv, he, h⟩ := h
   refine ⟨bv, he, ?_⟩
   exact h
  have h := h.2 (Int.not_lt.1 (of_decide_eq_false ez))
  refine bif_of (fun ey => ?_) (fun ey => ?_)
  ·have h := h.1 (of_decide_eq_true ey)
   have h := h bb br
   refine h.mono fun ge gi h => ?_
   obtain ⟨c8, he, h⟩ := h
   refine ⟨c8, he, ?_⟩
   exact h
  have h := h.2 (Int.not_lt.1 (of_decide_eq_false ey))
  refine ⟨a3, a6.celli 2 rfl rfl, ?_⟩
  refine bif_of (fun eh => ?_) (fun eh => ?_)
  ·have h := h.1 (of_decide_eq_true eh)
   have h := h bb br
   refine h.mono fun i2 gk h => ?_
   obtain ⟨bz, he, h⟩ := h
   refine ⟨bz, he, ?_⟩
   exact h
  have h := h.2 (Int.not_lt.1 (of_decide_eq_false eh))
  refine ⟨a3, a6.celli 2 rfl rfl, ?_⟩
  refine bif_of (fun fo => ?_) (fun fo => ?_)
  ·have h := h.1 (of_decide_eq_true fo)
   have h := h bb br
   refine h.mono fun gq gl h => ?_
   obtain ⟨c3, he, h⟩ := h
   refine ⟨c3, he, ?_⟩
   exact h
  have h := h.2 (Int.not_lt.1 (of_decide_eq_false fo))
  unfold Q04.J6
  have h := h bb (w.heap.size) (gv.heap.size) br (Priv.cons gy a6.lt (Priv.cons gj a7.lt Priv.nil))
  refine h.mono fun gu ev h => ?_
  obtain ⟨aq, he, hk, h⟩ := h
  refine ⟨aq, he, ?_⟩
  have a6 := hk.blk a6 (by simp)
  have a7 := hk.blk a7 (by simp)
  refine bif_of (fun e3 => ?_) (fun e3 => ?_)
  ·have h := h.1 (Q1J e3)
   exact h
  have h := h.2 (Q1F e3)
  unfold Q04.J5
  refine Q01 fun ee ed => ?_
  have ct := (Ext.refl no ev).x_drew ed
  have a6 := a6.x_drew ed
  have a7 := a7.x_drew ed
  obtain ⟨i4, af, h⟩ := h
  refine Q06 af ?_
  obtain ⟨gt, ff, h⟩ := h
  refine ⟨gt, (ct).cell ff id, ?_⟩
  refine Q06 af ?_
  obtain ⟨gx, e5, h⟩ := h
  refine ⟨gx, (ct).cell e5 id, ?_⟩
  refine ⟨ae, a6.celli 0 rfl rfl, ?_⟩
  refine ⟨a4, a6.celli 1 rfl rfl, ?_⟩
  refine ⟨a3, a6.celli 2 rfl rfl, ?_⟩
  have h := h ee ct
  refine h.mono fun i1 ak h => ?_
  obtain ⟨a1, a0, a2, c9, he, hk, h⟩ := h
  refine ⟨a1, a0, a2, c9, he, ?_⟩
  have a6 := hk.blk a6 (by simp)
  have a7 := hk.blk a7 (by simp)
  refine bif_of (fun ec => ?_) (fun ec => ?_)
  ·have h := h.1 (bne_t ec)
   refine bif_fo (fun eb => ?_) (fun eb => ?_)
   ·have h := h.2 (beq_f eb)
    exact h
   have h := h.1 (beq_t eb)
   refine h.mono fun gd ga h => ?_
   obtain ⟨bw, he, h⟩ := h
   refine ⟨bw, he, ?_⟩
   exact h
  have h := h.2 (bne_f ec)
  unfold Q04.J4
  refine ⟨ae, a6.celli 0 rfl rfl, ?_⟩
  refine ⟨a4, a6.celli 1 rfl rfl, ?_⟩
  refine ⟨ae, a6.celli 0 rfl rfl, ?_⟩
  refine ⟨a3, a6.celli 2 rfl rfl, ?_⟩
  refine Q01 fun gs e2 => ?_
  have aa := Blk.of_new e2
  have dr := ((Ext.refl no ak)).size
  have ce := Nat.ne_of_lt a6.lt
  have a6 := a6.x_alloc e2
  have cg := Nat.ne_of_lt a7.lt
  have a7 := a7.x_alloc e2
  have fk := (Ext.refl no ak).x_alloc e2
  refine Q0o (k := 0) (j := 0) aa (Nat.le_of_ble_eq_true rfl) fun fj ek gp => ?_
  have dd := fk.x_puts ek (.inr dr)
  have a6 := a6.x_puts ek ce
  have a7 := a7.x_puts ek cg
  have aa : Blk fj ak.heap.size 42 [.int .i64 ae, .int .i64 a4, .int .u64 0, .int .i64 1, .int .i64 ae, .int .i64 a3, .slice a1 a0 a2, .int .u64 0] := gp
  refine ⟨a4, a6.celli 1 rfl rfl, ?_⟩
  refine bif_of (fun ef => ?_) (fun ef => ?_)
  have h := h.1 (of_decide_eq_true ef)
  refine ⟨aa.cani 2 rfl rfl, Q01 fun f7 dx => ?_⟩
  have fi := dd.x_set (q := ak.heap.size) (i := 2) rfl (.inr dr) dx
  have a6 := a6.oth (q := ak.heap.size) (i := 2) rfl ce dx
  have a7 := a7.oth (q := ak.heap.size) (i := 2) rfl cg dx
  have aa : Blk f7 ak.heap.size 42 [.int .i64 ae, .int .i64 a4, .int .u64 1, .int .i64 1, .int .i64 ae, .int .i64 a3, .slice a1 a0 a2, .int .u64 0] := aa.seti 2 rfl dx
  unfold Q04.J3
  refine Q01 fun eg dt => ?_
  have cl := fi.x_drew dt
  have a6 := a6.x_drew dt
  have a7 := a7.x_drew dt
  have aa := aa.x_drew dt
  refine Q06 af ?_
  obtain ⟨gh, fa, h⟩ := h
  refine ⟨gh, (cl).cell fa id, ?_⟩
  refine Q06 af ?_
  obtain ⟨gm, em, h⟩ := h
  refine ⟨gm, (cl).cell em id, ?_⟩
  refine ⟨ae, a4, 1, 1, ae, a3, a1, a0, a2, 0, ⟨aa.celli 0 rfl rfl, aa.celli 1 rfl rfl, aa.celli 2 rfl rfl, aa.celli 3 rfl rfl, aa.celli 4 rfl rfl, aa.celli 5 rfl rfl, aa.celli 6 rfl rfl, aa.celli 7 rfl rfl, trivial⟩, ?_⟩
  have h := h eg (ak.heap.size) cl (Priv.cons dr aa.lt Priv.nil)
  refine h.mono fun gr fh h => ?_
  obtain ⟨bp, ba, bc, bu, he, hk, h⟩ := h
  refine ⟨bp, ba, bc, bu, he, ?_⟩
  have a6 := hk.blk a6 (by simp)
  have a7 := hk.blk a7 (by simp)
  have aa := hk.blk aa (by simp)
  refine Q01 fun el e0 => ?_
  have cn := (Ext.refl no fh).x_drew e0
  have a6 := a6.x_drew e0
  have a7 := a7.x_drew e0
  have aa := aa.x_drew e0
  refine Q06 af ?_
  obtain ⟨gw, e7, h⟩ := h
  refine ⟨gw, (cn).cell e7 id, ?_⟩
  refine Q06 af ?_
  obtain ⟨g9, e8, h⟩ := h
  refine ⟨g9, (cn).cell e8 id, ?_⟩
  refine ⟨ae, a4, 1, 1, ae, a3, a1, a0, a2, 0, ⟨aa.celli 0 rfl rfl, aa.celli 1 rfl rfl, aa.celli 2 rfl rfl, aa.celli 3 rfl rfl, aa.celli 4 rfl rfl, aa.celli 5 rfl rfl, aa.celli 6 rfl rfl, aa.celli 7 rfl rfl, trivial⟩, ?_⟩
  have h := h el cn
  refine h.mono fun gf i0 h => ?_
  obtain ⟨b7, b6, be, c0, he, hk, h⟩ := h
  refine ⟨b7, b6, be, c0, he, ?_⟩
  have a6 := hk.blk a6 (by simp)
  have a7 := hk.blk a7 (by simp)
  have aa := hk.blk aa (by simp)
  refine bif_of (fun fg => ?_) (fun fg => ?_)
  ·have h := h.1 (bne_t fg)
   exact h
  have h := h.2 (bne_f fg)
  refine h.mono fun gg ac h => ?_
  obtain ⟨cr, he, hk, h⟩ := h
  refine ⟨cr, he, ?_⟩
  have a6 := hk.blk a6 (by simp)
  have a7 := hk.blk a7 (by simp)
  have aa := hk.blk aa (by simp)
  refine bif_of (fun ep => ?_) (fun ep => ?_)
  ·have h := h.1 (not_t ep)
   exact h
  have h := h.2 (not_f ep)
  refine bif_of (fun f3 => ?_) (fun f3 => ?_)
  ·have h := h.1 (bne_t f3)
   exact h
  have h := h.2 (bne_f f3)
  unfold Q04.J2
  refine ⟨ae, a4, 1, 1, ae, a3, a1, a0, a2, 0, ⟨aa.celli 0 rfl rfl, aa.celli 1 rfl rfl, aa.celli 2 rfl rfl, aa.celli 3 rfl rfl, aa.celli 4 rfl rfl, aa.celli 5 rfl rfl, aa.celli 6 rfl rfl, aa.celli 7 rfl rfl, trivial⟩, ?_⟩
  refine Q01 fun gz dz => ?_
  have ab := Blk.of_new dz
  have cm := ((Ext.refl no ac)).size
  have ai := Nat.ne_of_lt a6.lt
  have a6 := a6.x_alloc dz
  have aj := Nat.ne_of_lt a7.lt
  have a7 := a7.x_alloc dz
  have f5 := (Ext.refl no ac).x_alloc dz
  refine Q0o (k := 0) (j := 0) ab (Nat.le_of_ble_eq_true rfl) fun ew fd g8 => ?_
  have f4 := f5.x_puts fd (.inr cm)
  have a6 := a6.x_puts fd ai
  have a7 := a7.x_puts fd aj
  have ab : Blk ew ac.heap.size 42 [.int .i64 ae, .int .i64 a4, .int .u64 1, .int .i64 1, .int .i64 ae, .int .i64 a3, .slice a1 a0 a2, .int .u64 0] := g8
  refine ⟨ad, a7.celli 0 rfl rfl, ?_⟩
  refine ⟨ab.cani 0 rfl rfl, Q01 fun ex ds => ?_⟩
  have fc := f4.x_set (q := ac.heap.size) (i := 0) rfl (.inr cm) ds
  have a6 := a6.oth (q := ac.heap.size) (i := 0) rfl ai ds
  have a7 := a7.oth (q := ac.heap.size) (i := 0) rfl aj ds
  have ab : Blk ex ac.heap.size 42 [.int .i64 ad, .int .i64 a4, .int .u64 1, .int .i64 1, .int .i64 ae, .int .i64 a3, .slice a1 a0 a2, .int .u64 0] := ab.seti 0 rfl ds
  refine ⟨ad, a7.celli 0 rfl rfl, ?_⟩
  refine ⟨ab.cani 4 rfl rfl, Q01 fun ej dv => ?_⟩
  have f9 := fc.x_set (q := ac.heap.size) (i := 4) rfl (.inr cm) dv
  have a6 := a6.oth (q := ac.heap.size) (i := 4) rfl ai dv
  have a7 := a7.oth (q := ac.heap.size) (i := 4) rfl aj dv
  have ab : Blk ej ac.heap.size 42 [.int .i64 ad, .int .i64 a4, .int .u64 1, .int .i64 1, .int .i64 ad, .int .i64 a3, .slice a1 a0 a2, .int .u64 0] := ab.seti 4 rfl dv
  refine ⟨a5, a7.celli 1 rfl rfl, ?_⟩
  refine ⟨ab.cani 1 rfl rfl, Q01 fun eq dq => ?_⟩
  have e4 := f9.x_set (q := ac.heap.size) (i := 1) rfl (.inr cm) dq
  have a6 := a6.oth (q := ac.heap.size) (i := 1) rfl ai dq
  have a7 := a7.oth (q := ac.heap.size) (i := 1) rfl aj dq
  have ab : Blk eq ac.heap.size 42 [.int .i64 ad, .int .i64 a5, .int .u64 1, .int .i64 1, .int .i64 ad, .int .i64 a3, .slice a1 a0 a2, .int .u64 0] := ab.seti 1 rfl dq
  refine ⟨a8, a7.celli 2 rfl rfl, ?_⟩
  refine ⟨ab.cani 5 rfl rfl, Q01 fun eu e1 => ?_⟩
  have ea := e4.x_set (q := ac.heap.size) (i := 5) rfl (.inr cm) e1
  have a6 := a6.oth (q := ac.heap.size) (i := 5) rfl ai e1
  have a7 := a7.oth (q := ac.heap.size) (i := 5) rfl aj e1
  have ab : Blk eu ac.heap.size 42 [.int .i64 ad, .int .i64 a5, .int .u64 1, .int .i64 1, .int .i64 ad, .int .i64 a8, .slice a1 a0 a2, .int .u64 0] := ab.seti 5 rfl e1
  refine ⟨ab.cani 2 rfl rfl, Q01 fun f2 du => ?_⟩
  have d7 := ea.x_set (q := ac.heap.size) (i := 2) rfl (.inr cm) du
  have a6 := a6.oth (q := ac.heap.size) (i := 2) rfl ai du
  have a7 := a7.oth (q := ac.heap.size) (i := 2) rfl aj du
  have ab : Blk f2 ac.heap.size 42 [.int .i64 ad, .int .i64 a5, .int .u64 0, .int .i64 1, .int .i64 ad, .int .i64 a8, .slice a1 a0 a2, .int .u64 0] := ab.seti 2 rfl du
  refine ⟨a5, a7.celli 1 rfl rfl, ?_⟩
  refine bif_fo (fun eo => ?_) (fun eo => ?_)
  ·have h := h.2 (Int.not_lt.1 (of_decide_eq_false eo))
   unfold Q04.J1
   refine Q01 fun dk c2 => ?_
   have b9 := d7.x_drew c2
   have a6 := a6.x_drew c2
   have a7 := a7.x_drew c2
   have ab := ab.x_drew c2
   refine Q06 af ?_
   obtain ⟨es, cz, h⟩ := h
   refine ⟨es, (b9).cell cz id, ?_⟩
   refine Q06 af ?_
   obtain ⟨fl, dg, h⟩ := h
   refine ⟨fl, (b9).cell dg id, ?_⟩
   refine ⟨ad, a5, 0, 1, ad, a8, a1, a0, a2, 0, ⟨ab.celli 0 rfl rfl, ab.celli 1 rfl rfl, ab.celli 2 rfl rfl, ab.celli 3 rfl rfl, ab.celli 4 rfl rfl, ab.celli 5 rfl rfl, ab.celli 6 rfl rfl, ab.celli 7 rfl rfl, trivial⟩, ?_⟩
   have h := h dk b9
   refine h.mono fun g5 fw h => ?_
   obtain ⟨az, ap, ao, bq, he, hk, h⟩ := h
   refine ⟨az, ap, ao, bq, he, ?_⟩
   have a6 := hk.blk a6 (by simp)
   have a7 := hk.blk a7 (by simp)
   refine ⟨ad, a5, a8, ⟨a7.celli 0 rfl rfl, a7.celli 1 rfl rfl, a7.celli 2 rfl rfl, trivial⟩, ?_⟩
   refine ⟨ae, a4, a3, ⟨a6.celli 0 rfl rfl, a6.celli 1 rfl rfl, a6.celli 2 rfl rfl, trivial⟩, ?_⟩
   refine ⟨_, Q45 ad a5 a8 ae a4 a3 _, ?_⟩
   refine bif_fo (fun cs => ?_) (fun cs => ?_)
   ·have h := h.2 (bbeq_f cs)
    exact h
   have h := h.1 (bbeq_t cs)
   refine h.mono fun fv fs h => ?_
   obtain ⟨bn, he, h⟩ := h
   refine ⟨bn, he, ?_⟩
   exact h
  have h := h.1 (of_decide_eq_true eo)
  refine ⟨ab.cani 2 rfl rfl, Q01 fun f1 dy => ?_⟩
  have df := d7.x_set (q := ac.heap.size) (i := 2) rfl (.inr cm) dy
  have a6 := a6.oth (q := ac.heap.size) (i := 2) rfl ai dy
  have a7 := a7.oth (q := ac.heap.size) (i := 2) rfl aj dy
  have ab : Blk f1 ac.heap.size 42 [.int .i64 ad, .int .i64 a5, .int .u64 1, .int .i64 1, .int .i64 ad, .int .i64 a8, .slice a1 a0 a2, .int .u64 0] := ab.seti 2 rfl dy
  rotate_left
  have h := h.2 (Int.not_lt.1 (of_decide_eq_false ef))
  unfold Q04.J3
  refine Q01 fun cw cc => ?_
  have bo := dd.x_drew cc
  have a6 := a6.x_drew cc
  have a7 := a7.x_drew cc
  have aa := aa.x_drew cc
  refine Q06 af ?_
  obtain ⟨e6, d2, h⟩ := h
  refine ⟨e6, (bo).cell d2 id, ?_⟩
  refine Q06 af ?_
  obtain ⟨f6, da, h⟩ := h
  refine ⟨f6, (bo).cell da id, ?_⟩
  refine ⟨ae, a4, 0, 1, ae, a3, a1, a0, a2, 0, ⟨aa.celli 0 rfl rfl, aa.celli 1 rfl rfl, aa.celli 2 rfl rfl, aa.celli 3 rfl rfl, aa.celli 4 rfl rfl, aa.celli 5 rfl rfl, aa.celli 6 rfl rfl, aa.celli 7 rfl rfl, trivial⟩, ?_⟩
  have h := h cw (ak.heap.size) bo (Priv.cons dr aa.lt Priv.nil)
  refine h.mono fun fy di h => ?_
  obtain ⟨b2, b3, ay, bl, he, hk, h⟩ := h
  refine ⟨b2, b3, ay, bl, he, ?_⟩
  have a6 := hk.blk a6 (by simp)
  have a7 := hk.blk a7 (by simp)
  have aa := hk.blk aa (by simp)
  refine Q01 fun cy bt => ?_
  have bm := (Ext.refl no di).x_drew bt
  have a6 := a6.x_drew bt
  have a7 := a7.x_drew bt
  have aa := aa.x_drew bt
  refine Q06 af ?_
  obtain ⟨fm, d3, h⟩ := h
  refine ⟨fm, (bm).cell d3 id, ?_⟩
  refine Q06 af ?_
  obtain ⟨et, d4, h⟩ := h
  refine ⟨et, (bm).cell d4 id, ?_⟩
  refine ⟨ae, a4, 0, 1, ae, a3, a1, a0, a2, 0, ⟨aa.celli 0 rfl rfl, aa.celli 1 rfl rfl, aa.celli 2 rfl rfl, aa.celli 3 rfl rfl, aa.celli 4 rfl rfl, aa.celli 5 rfl rfl, aa.celli 6 rfl rfl, aa.celli 7 rfl rfl, trivial⟩, ?_⟩
  have h := h cy bm
  refine h.mono fun g4 fz h => ?_
  obtain ⟨aw, ar, b1, bf, he, hk, h⟩ := h
  refine ⟨aw, ar, b1, bf, he, ?_⟩
  have a6 := hk.blk a6 (by simp)
  have a7 := hk.blk a7 (by simp)
  have aa := hk.blk aa (by simp)
  refine bif_of (fun ci => ?_) (fun ci => ?_)
  ·have h := h.1 (bne_t ci)
   exact h
  have h := h.2 (bne_f ci)
  refine h.mono fun ft a9 h => ?_
  obtain ⟨bx, he, hk, h⟩ := h
  refine ⟨bx, he, ?_⟩
  have a6 := hk.blk a6 (by simp)
  have a7 := hk.blk a7 (by simp)
  have aa := hk.blk aa (by simp)
  refine bif_of (fun cv => ?_) (fun cv => ?_)
  ·have h := h.1 (not_t cv)
   exact h
  have h := h.2 (not_f cv)
  refine bif_of (fun cj => ?_) (fun cj => ?_)
  ·have h := h.1 (bne_t cj)
   exact h
  have h := h.2 (bne_f cj)
  unfold Q04.J2
  refine ⟨ae, a4, 0, 1, ae, a3, a1, a0, a2, 0, ⟨aa.celli 0 rfl rfl, aa.celli 1 rfl rfl, aa.celli 2 rfl rfl, aa.celli 3 rfl rfl, aa.celli 4 rfl rfl, aa.celli 5 rfl rfl, aa.celli 6 rfl rfl, aa.celli 7 rfl rfl, trivial⟩, ?_⟩
  refine Q01 fun fx ca => ?_
  have ab := Blk.of_new ca
  have cp := ((Ext.refl no a9)).size
  have ag := Nat.ne_of_lt a6.lt
  have a6 := a6.x_alloc ca
  have ah := Nat.ne_of_lt a7.lt
  have a7 := a7.x_alloc ca
  have d0 := (Ext.refl no a9).x_alloc ca
  refine Q0o (k := 0) (j := 0) ab (Nat.le_of_ble_eq_true rfl) fun cx co er => ?_
  have dh := d0.x_puts co (.inr cp)
  have a6 := a6.x_puts co ag
  have a7 := a7.x_puts co ah
  have ab : Blk cx a9.heap.size 42 [.int .i64 ae, .int .i64 a4, .int .u64 0, .int .i64 1, .int .i64 ae, .int .i64 a3, .slice a1 a0 a2, .int .u64 0] := er
  refine ⟨ad, a7.celli 0 rfl rfl, ?_⟩
  refine ⟨ab.cani 0 rfl rfl, Q01 fun db cb => ?_⟩
  have dl := dh.x_set (q := a9.heap.size) (i := 0) rfl (.inr cp) cb
  have a6 := a6.oth (q := a9.heap.size) (i := 0) rfl ag cb
  have a7 := a7.oth (q := a9.heap.size) (i := 0) rfl ah cb
  have ab : Blk db a9.heap.size 42 [.int .i64 ad, .int .i64 a4, .int .u64 0, .int .i64 1, .int .i64 ae, .int .i64 a3, .slice a1 a0 a2, .int .u64 0] := ab.seti 0 rfl cb
  refine ⟨ad, a7.celli 0 rfl rfl, ?_⟩
  refine ⟨ab.cani 4 rfl rfl, Q01 fun dp c7 => ?_⟩
  have d8 := dl.x_set (q := a9.heap.size) (i := 4) rfl (.inr cp) c7
  have a6 := a6.oth (q := a9.heap.size) (i := 4) rfl ag c7
  have a7 := a7.oth (q := a9.heap.size) (i := 4) rfl ah c7
  have ab : Blk dp a9.heap.size 42 [.int .i64 ad, .int .i64 a4, .int .u64 0, .int .i64 1, .int .i64 ad, .int .i64 a3, .slice a1 a0 a2, .int .u64 0] := ab.seti 4 rfl c7
  refine ⟨a5, a7.celli 1 rfl rfl, ?_⟩
  refine ⟨ab.cani 1 rfl rfl, Q01 fun d9 c6 => ?_⟩
  have dc := d8.x_set (q := a9.heap.size) (i := 1) rfl (.inr cp) c6
  have a6 := a6.oth (q := a9.heap.size) (i := 1) rfl ag c6
  have a7 := a7.oth (q := a9.heap.size) (i := 1) rfl ah c6
  have ab : Blk d9 a9.heap.size 42 [.int .i64 ad, .int .i64 a5, .int .u64 0, .int .i64 1, .int .i64 ad, .int .i64 a3, .slice a1 a0 a2, .int .u64 0] := ab.seti 1 rfl c6
  refine ⟨a8, a7.celli 2 rfl rfl, ?_⟩
  refine ⟨ab.cani 5 rfl rfl, Q01 fun de c4 => ?_⟩
  have dj := dc.x_set (q := a9.heap.size) (i := 5) rfl (.inr cp) c4
  have a6 := a6.oth (q := a9.heap.size) (i := 5) rfl ag c4
  have a7 := a7.oth (q := a9.heap.size) (i := 5) rfl ah c4
  have ab : Blk de a9.heap.size 42 [.int .i64 ad, .int .i64 a5, .int .u64 0, .int .i64 1, .int .i64 ad, .int .i64 a8, .slice a1 a0 a2, .int .u64 0] := ab.seti 5 rfl c4
  refine ⟨ab.cani 2 rfl rfl, Q01 fun d5 c1 => ?_⟩
  have cf := dj.x_set (q := a9.heap.size) (i := 2) rfl (.inr cp) c1
  have a6 := a6.oth (q := a9.heap.size) (i := 2) rfl ag c1
  have a7 := a7.oth (q := a9.heap.size) (i := 2) rfl ah c1
  have ab : Blk d5 a9.heap.size 42 [.int .i64 ad, .int .i64 a5, .int .u64 0, .int .i64 1, .int .i64 ad, .int .i64 a8, .slice a1 a0 a2, .int .u64 0] := ab.seti 2 rfl c1
  refine ⟨a5, a7.celli 1 rfl rfl, ?_⟩
  refine bif_fo (fun ck => ?_) (fun ck => ?_)
  ·have h := h.2 (Int.not_lt.1 (of_decide_eq_false ck))
   unfold Q04.J1
   refine Q01 fun dm c5 => ?_
   have bh := cf.x_drew c5
   have a6 := a6.x_drew c5
   have a7 := a7.x_drew c5
   have ab := ab.x_drew c5
   refine Q06 af ?_
   obtain ⟨f8, d6, h⟩ := h
   refine ⟨f8, (bh).cell d6 id, ?_⟩
   refine Q06 af ?_
   obtain ⟨f0, d1, h⟩ := h
   refine ⟨f0, (bh).cell d1 id, ?_⟩
   refine ⟨ad, a5, 0, 1, ad, a8, a1, a0, a2, 0, ⟨ab.celli 0 rfl rfl, ab.celli 1 rfl rfl, ab.celli 2 rfl rfl, ab.celli 3 rfl rfl, ab.celli 4 rfl rfl, ab.celli 5 rfl rfl, ab.celli 6 rfl rfl, ab.celli 7 rfl rfl, trivial⟩, ?_⟩
   have h := h dm bh
   refine h.mono fun g2 g7 h => ?_
   obtain ⟨b5, b0, ax, bj, he, hk, h⟩ := h
   refine ⟨b5, b0, ax, bj, he, ?_⟩
   have a6 := hk.blk a6 (by simp)
   have a7 := hk.blk a7 (by simp)
   refine ⟨ad, a5, a8, ⟨a7.celli 0 rfl rfl, a7.celli 1 rfl rfl, a7.celli 2 rfl rfl, trivial⟩, ?_⟩
   refine ⟨ae, a4, a3, ⟨a6.celli 0 rfl rfl, a6.celli 1 rfl rfl, a6.celli 2 rfl rfl, trivial⟩, ?_⟩
   refine ⟨_, Q45 ad a5 a8 ae a4 a3 _, ?_⟩
   refine bif_fo (fun ch => ?_) (fun ch => ?_)
   ·have h := h.2 (bbeq_f ch)
    exact h
   have h := h.1 (bbeq_t ch)
   refine h.mono fun fr fq h => ?_
   obtain ⟨b8, he, h⟩ := h
   refine ⟨b8, he, ?_⟩
   exact h
  have h := h.1 (of_decide_eq_true ck)
  refine ⟨ab.cani 2 rfl rfl, Q01 fun dn cd => ?_⟩
  have df := cf.x_set (q := a9.heap.size) (i := 2) rfl (.inr cp) cd
  have a6 := a6.oth (q := a9.heap.size) (i := 2) rfl ag cd
  have a7 := a7.oth (q := a9.heap.size) (i := 2) rfl ah cd
  have ab : Blk dn a9.heap.size 42 [.int .i64 ad, .int .i64 a5, .int .u64 1, .int .i64 1, .int .i64 ad, .int .i64 a8, .slice a1 a0 a2, .int .u64 0] := ab.seti 2 rfl cd
  rotate_left
  all_goals
   unfold Q04.J1
   refine Q01 fun fe dw => ?_
   have cq := df.x_drew dw
   have a6 := a6.x_drew dw
   have a7 := a7.x_drew dw
   have ab := ab.x_drew dw
   refine Q06 af ?_
   obtain ⟨gb, ei, h⟩ := h
   refine ⟨gb, (cq).cell ei id, ?_⟩
   refine Q06 af ?_
   obtain ⟨gn, fb, h⟩ := h
   refine ⟨gn, (cq).cell fb id, ?_⟩
   refine ⟨ad, a5, 1, 1, ad, a8, a1, a0, a2, 0, ⟨ab.celli 0 rfl rfl, ab.celli 1 rfl rfl, ab.celli 2 rfl rfl, ab.celli 3 rfl rfl, ab.celli 4 rfl rfl, ab.celli 5 rfl rfl, ab.celli 6 rfl rfl, ab.celli 7 rfl rfl, trivial⟩, ?_⟩
   have h := h fe cq
   refine h.mono fun fu g0 h => ?_
   obtain ⟨au, av, b4, bd, he, hk, h⟩ := h
   refine ⟨au, av, b4, bd, he, ?_⟩
   have a6 := hk.blk a6 (by simp)
   have a7 := hk.blk a7 (by simp)
   refine ⟨ad, a5, a8, ⟨a7.celli 0 rfl rfl, a7.celli 1 rfl rfl, a7.celli 2 rfl rfl, trivial⟩, ?_⟩
   refine ⟨ae, a4, a3, ⟨a6.celli 0 rfl rfl, a6.celli 1 rfl rfl, a6.celli 2 rfl rfl, trivial⟩, ?_⟩
   refine ⟨_, Q45 ad a5 a8 ae a4 a3 _, ?_⟩
   refine bif_fo (fun cu => ?_) (fun cu => ?_)
   ·have h := h.2 (bbeq_f cu)
    exact h
   have h := h.1 (bbeq_t cu)
   refine h.mono fun fp g1 h => ?_
   obtain ⟨bi, he, h⟩ := h
   refine ⟨bi, he, ?_⟩
   exact h

theorem Q04.go (a3 : Option Addr) (a2 a1 : Nat) (ab a5 a0 : Int) (a9 : Option Addr) (a7 a8 : Nat) (aa a4 a6 : Int) {R : RW} {w : World} (h : Q04.N a3 a2 a1 ab a5 a0 a9 a7 a8 aa a4 a6 R w) : Calls Try.prog 3 #[.slice a3 a2 a1, .agg #[.int .i64 ab, .int .i64 a5, .int .i64 a0], .slice a9 a7 a8, .agg #[.int .i64 aa, .int .i64 a4, .int .i64 a6]] w fun e w' => ∃ v, e = .returned v ∧ R v w' := Q04.ok a3 a2 a1 ab a5 a0 a9 a7 a8 aa a4 a6 (Q04.up a3 a2 a1 ab a5 a0 a9 a7 a8 aa a4 a6 h)
end Go.Proofs.Ytgeakpldocfccaa