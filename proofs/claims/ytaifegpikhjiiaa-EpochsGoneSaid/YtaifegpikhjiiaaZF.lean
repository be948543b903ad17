/- Epochs, plainly: what Begin tells, and what a ring learns of it. -/
import Derived.Test.YtaifegpikhjiiaaZE
import Derived.Test.YtaifegpikhjiiaaZA
import Derived.Test.YtaifegpikhjiiaaZC
set_option linter.unusedVariables false
set_option linter.unusedSimpArgs false
set_option maxRecDepth 20000
set_option maxHeartbeats 4000000
namespace Go.Proofs.Ytaifegpikhjiiaa
open Go Go.Mx Go.Proofs
structure KI (S : OS) : Prop where
  inv : OInv S
  su : ∀ x s, alook S.sealed x = some s → x ∈ S.used
  wu : ∀ x s, alook S.wrapped x = some s → x ∈ S.used
  sh : Short S
structure KLe (S S' : OS) : Prop where
  pb : S'.publics = S.publics
  sl : ∀ x s, alook S.sealed x = some s → alook S'.sealed x = some s
  wr : ∀ x s, alook S.wrapped x = some s → alook S'.wrapped x = some s
  us : ∀ x ∈ S.used, x ∈ S'.used
theorem KLe.refl (S : OS) : KLe S S := ⟨rfl, fun _ _ h => h, fun _ _ h => h, fun _ h => h⟩
theorem KLe.trans {S T U : OS} (a : KLe S T) (b : KLe T U) : KLe S U := ⟨b.pb.trans a.pb, fun x s h => b.sl x s (a.sl x s h), fun x s h => b.wr x s (a.wr x s h), fun x h => b.us x (a.us x h)⟩
theorem KLe.open {S S' : OS} (h : KLe S S') {k : Int} {b x p : List UInt8} (ho : openOf S k b x = (p, 0)) : openOf S' k b x = (p, 0) := by
  unfold openOf at ho ⊢
  cases hs : alook S.sealed (handL x) with
  | none => rw [hs] at ho; cases ho
  | some s => rw [hs] at ho; rw [h.sl _ _ hs]; exact ho
theorem Q2z {S : OS} (h : S.ok) : (freshOf S).2.used.length = S.used.length + 1 := by
  obtain ⟨_, _, a3, _⟩ := Q1a h
  rw [a3]; simp
theorem KI.key {S : OS} (h : KI S) : KI (keyOf S).2 ∧ KLe S (keyOf S).2 ∧ (keyOf S).1 ∉ S.used ∧ (keyOf S).1 ≠ 0 ∧ (keyOf S).1 ∈ (keyOf S).2.used ∧ (keyOf S).2.used.length = S.used.length + 1 := by
  obtain ⟨c1, c2, c3, c4, c5, c6, c7, c8⟩ := Q0S S
  obtain ⟨f1, f2, f3, f4, f5⟩ := Q1G h.inv
  have e7 : (keyOf S).2.sealed = S.sealed := c7
  have e8 : (keyOf S).2.wrapped = S.wrapped := c8
  exact ⟨⟨keyInv h.inv, fun x s e => f2.used _ (h.su x s (by rw [← e7]; exact e)), fun x s e => f2.used _ (h.wu x s (by rw [← e8]; exact e)), fun x s e => h.sh x s (by rw [← e7]; exact e)⟩,
    ⟨c4, fun x s e => by rw [e7]; exact e, fun x s e => by rw [e8]; exact e, f2.used⟩, f3, f5, f4, Q2z h.inv.ok⟩
theorem KI.wrap {S : OS} (h : KI S) {p key : Int} (hp : (alook S.publics p).isSome) (hk : key ∈ S.keys) (hl : S.used.length < 100000000) :
    KI (wrapOf S p key).2 ∧ KLe S (wrapOf S p key).2 ∧ (wrapOf S p key).1.1.length = 16 ∧ alook (wrapOf S p key).2.wrapped (handL (wrapOf S p key).1.1) = some (p, key) ∧ (wrapOf S p key).2.keys = S.keys ∧ (wrapOf S p key).2.used.length = S.used.length + 1 := by
  obtain ⟨c1, c2, c3, c4, c5, c6, c7, c8⟩ := Q0S S
  obtain ⟨f1, f2, f3, f4, f5⟩ := Q1G h.inv
  have hsz := Q2z h.inv.ok
  have hfit := f1.fit (by omega) f4
  have hi := wrapInv h.inv p key
  rw [Q3m hp hk] at hi ⊢
  have hle : ∀ x v, alook S.wrapped x = some v → alook (aput S.wrapped (freshOf S).1 (p, key)) x = some v := fun x v e => by
    rw [Q1i, if_neg (fun e' => f3 (by rw [e']; exact h.wu x v e))]; exact e
  refine ⟨⟨hi, fun x s e => f2.used _ (h.su x s (by rw [← c7]; exact e)), fun x s e => ?_, fun x s e => h.sh x s (by rw [← c7]; exact e)⟩, ⟨c4, fun x s e => by show alook (freshOf S).2.sealed x = _; rw [c7]; exact e, hle, f2.used⟩, by rw [Q16], ?_, c2, hsz⟩
  · have e : alook (aput S.wrapped (freshOf S).1 (p, key)) x = some s := e
    rw [Q1i] at e
    split at e
    · rename_i hx; subst hx; exact f4
    · exact f2.used _ (h.wu x s e)
  · show alook (aput S.wrapped (freshOf S).1 (p, key)) ((handL (boxL (freshOf S).1.toNat 8) : Nat) : Int) = _
    rw [Q34 (by omega), Q1i, if_pos (by omega)]
theorem KI.sealK {S : OS} (h : KI S) {key : Int} {b p : List UInt8} (hk : key ∈ S.keys) (hp : p.length = 8) (hl : S.used.length < 100000000) :
    KI (sealOf S key b p).2 ∧ KLe S (sealOf S key b p).2 ∧ (sealOf S key b p).1.1.length = 24 ∧ openOf (sealOf S key b p).2 key b (sealOf S key b p).1.1 = (p, 0) ∧ (sealOf S key b p).2.used.length = S.used.length + 1 := by
  obtain ⟨c1, c2, c3, c4, c5, c6, c7, c8⟩ := Q0S S
  obtain ⟨f1, f2, f3, f4, f5⟩ := Q1G h.inv
  have hsz := Q2z h.inv.ok
  have hfit := f1.fit (by omega) f4
  have hi := sealInv h.inv key b p
  have hc : classOf p.length = 0 := by rw [hp]; decide
  have hE : sealOf S key b p = ((boxL (freshOf S).1.toNat (sizeN (classOf p.length)), 0), { (freshOf S).2 with sealed := aput S.sealed (freshOf S).1 ⟨key, b, p⟩ }) := by
    unfold sealOf; rw [if_pos hk, if_neg (by omega)]
  rw [hE] at hi ⊢
  have hz : sizeN (classOf p.length) = 16 := by rw [hc]; decide
  have hle : ∀ x v, alook S.sealed x = some v → alook (aput S.sealed (freshOf S).1 (⟨key, b, p⟩ : Sealed)) x = some v := fun x v e => by
    rw [Q1i, if_neg (fun e' => f3 (by rw [e']; exact h.su x v e))]; exact e
  refine ⟨⟨hi, fun x s e => ?_, fun x s e => f2.used _ (h.wu x s (by rw [← c8]; exact e)), fun x s e => ?_⟩, ⟨c4, hle, fun x s e => by show alook (freshOf S).2.wrapped x = _; rw [c8]; exact e, f2.used⟩, by rw [Q16, hz], ?_, hsz⟩
  · have e : alook (aput S.sealed (freshOf S).1 (⟨key, b, p⟩ : Sealed)) x = some s := e
    rw [Q1i] at e
    split at e
    · rename_i hx; subst hx; exact f4
    · exact f2.used _ (h.su x s e)
  · have e : alook (aput S.sealed (freshOf S).1 (⟨key, b, p⟩ : Sealed)) x = some s := e
    rw [Q1i] at e
    split at e
    · cases e; show p.length ≤ _; omega
    · exact h.sh x s e
  · have hL : alook (aput S.sealed (freshOf S).1 (⟨key, b, p⟩ : Sealed)) ((handL (boxL (freshOf S).1.toNat (sizeN (classOf p.length))) : Nat) : Int) = some ⟨key, b, p⟩ := by
      rw [Q34 (by omega), Q1i, if_pos (by omega)]
    unfold openOf
    rw [hL]
    show (if _ then _ else if _ then _ else if _ then _ else _) = _
    rw [if_neg (by rw [Q16]; exact fun h => h rfl), if_neg (fun h => h rfl), if_neg (fun h => h rfl)]
theorem Q2L (key : Int) : ∀ (l : List Mem) (S : OS), KI S → key ∈ S.keys → (∀ m ∈ l, (alook S.publics m.pub).isSome) → S.used.length + l.length < 100000000 →
    KI (wrapsL S key l).1 ∧ KLe S (wrapsL S key l).1 ∧ (wrapsL S key l).2.map Prod.fst = l.map Mem.who ∧ (wrapsL S key l).1.keys = S.keys ∧ (wrapsL S key l).1.used.length = S.used.length + l.length ∧
    ∀ p ∈ (wrapsL S key l).2, ∃ m ∈ l, p.1 = m.who ∧ p.2.length = 16 ∧ alook (wrapsL S key l).1.wrapped (handL p.2) = some (m.pub, key)
  | [], S, h, hk, hp, hl => ⟨h, KLe.refl _, rfl, rfl, rfl, fun p hp => by cases hp⟩
  | m :: r, S, h, hk, hp, hl => by
    simp only [List.length_cons] at hl
    obtain ⟨a1, a2, a3, a4, a5, a6⟩ := h.wrap (hp m (by simp)) hk (by omega)
    obtain ⟨b1, b2, b3, b4, b5, b6⟩ := Q2L key r (wrapOf S m.pub key).2 a1 (by rw [a5]; exact hk) (fun x hx => by rw [a2.pb]; exact hp x (by simp [hx])) (by omega)
    refine ⟨b1, a2.trans b2, ?_, b4.trans a5, ?_, ?_⟩
    · show m.who :: (wrapsL (wrapOf S m.pub key).2 key r).2.map Prod.fst = _
      rw [b3]; rfl
    · show (wrapsL (wrapOf S m.pub key).2 key r).1.used.length = S.used.length + (r.length + 1); omega
    · intro p hp'
      rcases List.mem_cons.1 (show p ∈ (m.who, (wrapOf S m.pub key).1.1) :: (wrapsL (wrapOf S m.pub key).2 key r).2 from hp') with rfl | hp'
      · exact ⟨m, by simp, rfl, a3, b2.wr _ _ a4⟩
      · obtain ⟨m', hm, e1, e2, e3⟩ := b6 p hp'
        exact ⟨m', by simp [hm], e1, e2, e3⟩
structure BK (S : OS) (s : MS) (last : Int) : Prop where
  ki : KI (beginK S s last).2.2
  le : KLe S (beginK S s last).2.2
  len : (beginK S s last).2.2.used.length ≤ S.used.length + 10
  nz : (beginK S s last).2.1 ≠ 0
  new : (beginK S s last).2.1 ∉ S.used
  us : (beginK S s last).2.1 ∈ (beginK S s last).2.2.used
  kd : (beginK S s last).1.kd = 3
  right : rightM (beginK S s last).1 = true
  app : applyM s (beginK S s last).1 = if s.ep + 1 ≥ 20 then (MS.z, 2) else (⟨s.ml, s.ep + 1⟩, 0)
  opens : 0 ≤ s.ep → openOf (beginK S s last).2.2 (beginK S s last).2.1 (boundL (s.ep + 1)) (beginK S s last).1.old = (boxL last.toNat 0, 0)
  box : ∀ p ∈ (beginK S s last).1.ws, ∃ m ∈ nowM s.ml, p.1 = m.who ∧ p.2.length = 16 ∧ alook (beginK S s last).2.2.wrapped (handL p.2) = some (m.pub, (beginK S s last).2.1)
  whos : (beginK S s last).1.ws.map Prod.fst = (nowM s.ml).map Mem.who
theorem Q3M : ∀ {l : List (Int × List UInt8)} {last : Int}, l.Pairwise (fun a b => a.1 < b.1) → (∀ x ∈ l, last < x.1) → (∀ x ∈ l, x.2.length = 16 ∧ 0 ≤ x.1 ∧ x.1 < 8) → boxesGo last l = true
  | [], last, _, _, _ => rfl
  | x :: r, last, hp, h1, h2 => by
    have h3 := List.pairwise_cons.1 hp
    have hx := h2 x (by simp)
    have := Q3M h3.2 (last := x.1) h3.1 fun y hy => h2 y (by simp [hy])
    unfold boxesGo
    rw [this]
    simp [hx, h1 x (by simp)]
theorem Q28 {l : List Mem} {m : Mem} (h : m ∈ nowM l) : m ∈ l ∧ m.to_ = -1 := by
  unfold nowM at h
  simpa using h
theorem Q2J {S : OS} {s : MS} {last : Int} (h : KI S) (hs : s.ok) (hp : ∀ m ∈ nowM s.ml, (alook S.publics m.pub).isSome) (hne : nowM s.ml ≠ []) (hl : S.used.length < 10000000) : BK S s last := by
  obtain ⟨a1, a2, a3, a4, a5, a6⟩ := h.key
  have h8 := hs.le
  have hnl : (nowM s.ml).length ≤ 8 := Nat.le_trans (List.length_filter_le _ _) h8
  have hki := key_in S
  obtain ⟨b1, b2, b3, b4, b5, b6⟩ := Q2L (keyOf S).1 (nowM s.ml) (keyOf S).2 a1 hki (fun m hm => by rw [a2.pb]; exact hp m hm) (by omega)
  obtain ⟨d1, d2, d3, d4, d5⟩ := b1.sealK (key := (keyOf S).1) (b := boundL (s.ep + 1)) (p := boxL last.toNat 0) (by rw [b4]; exact hki) (by rw [Q16]) (by omega)
  have hpw : ((wrapsL (keyOf S).2 (keyOf S).1 (nowM s.ml)).2.map Prod.fst).Pairwise (· < ·) := by
    rw [b3, List.pairwise_map]
    exact hs.sorted.filter _
  have hws : boxesP (wrapsL (keyOf S).2 (keyOf S).1 (nowM s.ml)).2 = true := by
    unfold boxesP
    have hne2 : (wrapsL (keyOf S).2 (keyOf S).1 (nowM s.ml)).2 ≠ [] := fun e => by
      rw [e] at b3
      exact hne (List.map_eq_nil_iff.1 b3.symm)
    have hr : ∀ x ∈ (wrapsL (keyOf S).2 (keyOf S).1 (nowM s.ml)).2, x.2.length = 16 ∧ 0 ≤ x.1 ∧ x.1 < 8 := fun x hx => by
      obtain ⟨m, hm, e1, e2, _⟩ := b6 x hx
      have := hs.who m (Q28 hm).1
      rw [e1]; exact ⟨e2, this⟩
    rw [Q3M (List.pairwise_map.1 hpw) (fun x hx => by have := (hr x hx).2; omega) hr]
    simp [hne2]
  have hright : ∀ old : List UInt8, old.length = 0 ∨ old.length = 24 → rightM ⟨3, 0, 0, 0, (wrapsL (keyOf S).2 (keyOf S).1 (nowM s.ml)).2, old⟩ = true := fun old ho => by
    unfold rightM
    show (if (0 : Int) ≤ 0 ∧ (0 : Int) < 8 then (if ((3 : Int) == 3) = boxesP (wrapsL (keyOf S).2 (keyOf S).1 (nowM s.ml)).2 then _ else false) else false) = true
    rw [if_pos (by decide), hws, if_pos rfl]
    show (if (3 : Int) ≠ 3 ∧ ¬ ((wrapsL (keyOf S).2 (keyOf S).1 (nowM s.ml)).2 = [] ∧ old = []) then false else if (3 : Int) = 1 then decide ((0 : Int) ≠ 0 ∧ (0 : Int) = 0) else if (3 : Int) = 2 then decide ((0 : Int) ≠ 0 ∧ (0 : Int) = 0 ∧ 0 ≤ (0 : Int) ∧ (0 : Int) ≤ 200) else if (3 : Int) = 3 then decide ((0 : Int) = 0 ∧ (0 : Int) = 0 ∧ (0 : Int) = 0 ∧ (old.length = 0 ∨ old.length = 24)) else false) = true
    rw [if_neg (fun h => h.1 rfl), if_neg (by decide), if_neg (by decide), if_pos rfl]
    exact decide_eq_true ⟨rfl, rfl, rfl, ho⟩
  have happ : ∀ old : List UInt8, (old.length = 0 ∨ old.length = 24) → ((old.length : Int) == 0) = decide (s.ep < 0) → applyM s ⟨3, 0, 0, 0, (wrapsL (keyOf S).2 (keyOf S).1 (nowM s.ml)).2, old⟩ = if s.ep + 1 ≥ 20 then (MS.z, 2) else (⟨s.ml, s.ep + 1⟩, 0) := fun old ho he => by
    unfold applyM
    rw [if_pos (hright old ho)]
    show (if (3 : Int) = 1 then _ else if (3 : Int) = 2 then _ else beginM s ⟨3, 0, 0, 0, (wrapsL (keyOf S).2 (keyOf S).1 (nowM s.ml)).2, old⟩) = _
    rw [if_neg (by decide), if_neg (by decide)]
    unfold beginM
    by_cases h20 : s.ep + 1 ≥ 20
    · rw [if_pos h20, if_pos h20]
    · rw [if_neg h20, if_neg h20]
      show (if ((old.length : Int) == 0) = decide (s.ep < 0) then (if (nowM s.ml).map Mem.who = (wrapsL (keyOf S).2 (keyOf S).1 (nowM s.ml)).2.map Prod.fst then _ else _) else _) = _
      rw [if_pos he, if_pos b3.symm]
  by_cases hep : 0 ≤ s.ep
  · have hE : beginK S s last = (⟨3, 0, 0, 0, (wrapsL (keyOf S).2 (keyOf S).1 (nowM s.ml)).2, (sealOf (wrapsL (keyOf S).2 (keyOf S).1 (nowM s.ml)).1 (keyOf S).1 (boundL (s.ep + 1)) (boxL last.toNat 0)).1.1⟩, (keyOf S).1, (sealOf (wrapsL (keyOf S).2 (keyOf S).1 (nowM s.ml)).1 (keyOf S).1 (boundL (s.ep + 1)) (boxL last.toNat 0)).2) := by
      unfold beginK; exact if_pos hep
    have hold : ((((sealOf (wrapsL (keyOf S).2 (keyOf S).1 (nowM s.ml)).1 (keyOf S).1 (boundL (s.ep + 1)) (boxL last.toNat 0)).1.1.length : Nat) : Int) == 0) = decide (s.ep < 0) := by
      rw [d3, decide_eq_false (by omega)]; rfl
    constructor <;> rw [hE]
    · exact d1
    · exact (a2.trans b2).trans d2
    · show (sealOf _ _ _ _).2.used.length ≤ _; omega
    · exact a4
    · exact a3
    · exact d2.us _ (b2.us _ a5)
    · exact hright _ (.inr d3)
    · exact happ _ (.inr d3) hold
    · exact fun _ => d4
    · intro p hp'
      obtain ⟨m, hm, e1, e2, e3⟩ := b6 p hp'
      exact ⟨m, hm, e1, e2, d2.wr _ _ e3⟩
    · exact b3
  · have hE : beginK S s last = (⟨3, 0, 0, 0, (wrapsL (keyOf S).2 (keyOf S).1 (nowM s.ml)).2, []⟩, (keyOf S).1, (wrapsL (keyOf S).2 (keyOf S).1 (nowM s.ml)).1) := by
      unfold beginK; exact if_neg hep
    have hold : (((([] : List UInt8).length : Nat) : Int) == 0) = decide (s.ep < 0) := by
      rw [decide_eq_true (by omega)]; rfl
    constructor <;> rw [hE]
    · exact b1
    · exact a2.trans b2
    · show (wrapsL _ _ _).1.used.length ≤ _; omega
    · exact a4
    · exact a3
    · exact b2.us _ a5
    · exact hright _ (.inl rfl)
    · exact happ _ (.inl rfl) hold
    · exact fun h => absurd h hep
    · exact b6
    · exact b3
theorem BK.told {S : OS} {s : MS} {last : Int} (h : BK S s last) {R : RS} (h1 : ∃ m ∈ nowM s.ml, m.who = R.who) (h2 : ∀ m ∈ nowM s.ml, m.who = R.who → alook S.publics m.pub = some R.secret) : toldBy (beginK S s last).2.2 R (beginK S s last).1 = ((beginK S s last).2.1, 0) := by
  obtain ⟨m, hm, hw⟩ := h1
  unfold toldBy
  cases hf : (beginK S s last).1.ws.find? (fun p => p.1 == R.who) with
  | none =>
    have hmem : m.who ∈ (beginK S s last).1.ws.map Prod.fst := by rw [h.whos]; exact List.mem_map_of_mem hm
    obtain ⟨p, hp, e⟩ := List.mem_map.1 hmem
    have := List.find?_eq_none.1 hf p hp
    simp [e, hw] at this
  | some p =>
    have hp := List.mem_of_find?_eq_some hf
    have he : p.1 = R.who := by have := List.find?_some hf; simpa using this
    obtain ⟨m', hm', e1, e2, e3⟩ := h.box p hp
    show Q11 _ _ _ = _
    unfold Q11
    rw [e3]
    show (if _ then _ else if _ then _ else _) = _
    rw [if_neg (by rw [e2]; exact fun h => h rfl), if_neg (by
      rw [h.le.pb]
      show ¬ (alook S.publics m'.pub).getD 0 ≠ _
      rw [h2 m' hm' (by rw [← e1]; exact he)]
      exact fun h => h rfl)]
theorem BK.other {S : OS} {s : MS} {last : Int} (h : BK S s last) {R : RS} (h1 : ∀ m ∈ nowM s.ml, m.who ≠ R.who) : toldBy (beginK S s last).2.2 R (beginK S s last).1 = (0, 11) := by
  unfold toldBy
  cases hf : (beginK S s last).1.ws.find? (fun p => p.1 == R.who) with
  | none => rfl
  | some p =>
    have hp := List.mem_of_find?_eq_some hf
    have he : p.1 = R.who := by have := List.find?_some hf; simpa using this
    obtain ⟨m', hm', e1, _⟩ := h.box p hp
    exact absurd (by rw [← e1]; exact he) (h1 m' hm')
def mkK (K : List Int) (m e : Nat) : List Int := (List.range K.length).map fun d => if d < m ∨ e ≤ d then K[d]?.getD 0 else 0
theorem Q1r (K : List Int) (m e : Nat) : (mkK K m e).length = K.length := by simp [mkK]
theorem mkK_get {K : List Int} {m e d : Nat} (hd : d < K.length) : (mkK K m e)[d]?.getD 0 = if d < m ∨ e ≤ d then K[d]?.getD 0 else 0 := by
  unfold mkK
  rw [List.getElem?_map, List.getElem?_range hd]; rfl
theorem Q4b {K : List Int} {m e : Nat} (h : e ≤ m) : mkK K m e = K := by
  refine List.ext_getElem? fun d => ?_
  unfold mkK
  rw [List.getElem?_map]
  by_cases hd : d < K.length
  · rw [List.getElem?_range hd]
    show some (if d < m ∨ e ≤ d then K[d]?.getD 0 else 0) = _
    rw [if_pos (by omega), List.getElem?_eq_getElem hd]; rfl
  · rw [List.getElem?_eq_none (by simp; omega), List.getElem?_eq_none (by omega)]; rfl
theorem Q6m (K : List Int) (m : Nat) (hm : m ≤ K.length) (x : Int) : mkK K m K.length ++ [x] = mkK (K ++ [x]) m K.length := by
  unfold mkK
  rw [List.length_append, List.length_singleton, List.range_succ, List.map_append]
  congr 1
  · refine List.map_congr_left fun d hd => ?_
    have hd := List.mem_range.1 hd
    rw [List.getElem?_append_left hd]
  · show [x] = [if K.length < m ∨ K.length ≤ K.length then (K ++ [x])[K.length]?.getD 0 else 0]
    rw [if_pos (.inr (Nat.le_refl _))]; simp
theorem Q5c (K : List Int) (m : Nat) (hm : m ≤ K.length) (x : Int) : mkK K m K.length ++ [0] = mkK (K ++ [x]) m (K.length + 1) := by
  unfold mkK
  rw [List.length_append, List.length_singleton, List.range_succ, List.map_append]
  congr 1
  · refine List.map_congr_left fun d hd => ?_
    have hd := List.mem_range.1 hd
    rw [List.getElem?_append_left hd]
    by_cases h : d < m
    · rw [if_pos (.inl h), if_pos (.inl h)]
    · rw [if_neg (by omega), if_neg (by omega)]
  · show [(0 : Int)] = [if K.length < m ∨ K.length + 1 ≤ K.length then (K ++ [x])[K.length]?.getD 0 else 0]
    rw [if_neg (by omega)]
structure Chain (S : OS) (K : List Int) (O : List (List UInt8)) : Prop where
  len : O.length = K.length
  nz : ∀ x ∈ K, 0 < x ∧ x < 18446744073709551616
  link : ∀ e, e + 1 < K.length → openOf S (K[e + 1]?.getD 0) (boundL ((e + 1 : Nat) : Int)) (O[e + 1]?.getD []) = (boxL (K[e]?.getD 0).toNat 0, 0)
  short : ∀ b ∈ O, b.length < 1000000
theorem Chain.pos {S : OS} {K : List Int} {O : List (List UInt8)} (h : Chain S K O) {d : Nat} (hd : d < K.length) : 0 < K[d]?.getD 0 ∧ K[d]?.getD 0 < 18446744073709551616 := by
  rw [List.getElem?_eq_getElem hd]; exact h.nz _ (List.getElem_mem hd)
theorem Q63 {h : Nat} (hh : h < 18446744073709551616) : valOf (boxL h 0) = h := by
  have := Q34 hh 0
  unfold handL at this
  rw [if_neg (by rw [Q16]; omega), boxL_eq, List.drop_left' (by rfl), List.take_left' (by rfl), if_neg (by simp)] at this
  rw [boxL_eq, List.replicate_zero, List.append_nil]; exact this
theorem Q4m {S : OS} {K : List Int} {O : List (List UInt8)} (h : Chain S K O) (m : Nat) : ∀ (e : Nat), e < K.length → backK S O e (mkK K m e) = K
  | 0, _ => Q4b (Nat.zero_le _)
  | e + 1, he => by
    unfold backK
    by_cases hem : e < m
    · rw [if_neg, Q4b hem]
      rintro ⟨⟨_, h2⟩, _⟩
      rw [mkK_get (by omega), if_pos (.inl hem)] at h2
      have := (h.pos (d := e) (by omega)).1
      omega
    · have h1 : (mkK K m (e + 1))[e + 1]?.getD 0 = K[e + 1]?.getD 0 := by rw [mkK_get he, if_pos (.inr (Nat.le_refl _))]
      have h0 : (mkK K m (e + 1))[e]?.getD 0 = 0 := by rw [mkK_get (by omega), if_neg (by omega)]
      have hp := h.pos (d := e + 1) he
      have hp0 := h.pos (d := e) (by omega)
      have hl := h.link e he
      rw [if_pos]
      · rw [h1, hl]
        have : ((valOf (boxL (K[e]?.getD 0).toNat 0) : Nat) : Int) = K[e]?.getD 0 := by rw [Q63 (by omega)]; omega
        show backK S O e ((mkK K m (e + 1)).set e ((valOf (boxL (K[e]?.getD 0).toNat 0) : Nat) : Int)) = K
        rw [this]
        have hset : (mkK K m (e + 1)).set e (K[e]?.getD 0) = mkK K m e := by
          refine List.ext_getElem? fun d => ?_
          rw [List.getElem?_set]
          split
          · rename_i hde; subst hde
            rw [if_pos (by rw [Q1r]; omega)]
            unfold mkK
            rw [List.getElem?_map, List.getElem?_range (by omega)]
            show _ = some (if _ then _ else _)
            rw [if_pos (.inr (Nat.le_refl _))]
          · rename_i hde
            unfold mkK
            rw [List.getElem?_map, List.getElem?_map]
            by_cases hd : d < K.length
            · rw [List.getElem?_range hd]
              show some (if d < m ∨ e + 1 ≤ d then _ else _) = some (if d < m ∨ e ≤ d then _ else _)
              have hiff : (d < m ∨ e + 1 ≤ d) ↔ (d < m ∨ e ≤ d) := by omega
              simp only [hiff]
            · rw [List.getElem?_eq_none (by simp; omega)]; rfl
        rw [hset]
        exact Q4m h m e (by omega)
      · unfold tells
        rw [h1, h0, hl]
        exact ⟨⟨by omega, rfl⟩, rfl, by rw [Q16]⟩
set_option maxRecDepth 100000
abbrev Q0o.J1 (a8 : Option Addr) (a7 a0 : Int) (I0 : Nat → List Value → World → Prop) (m9 : Nat) (a4 : World) (R : RW) (a1 : World) : Prop :=
 0 ≤ (a0 : Int) ∧ (a0 : Int) < (4 : Int) ∧
 Q07 a1 ((((blk a4.heap.size).add 6).add (Int.toNat a0 * 1)).add 0) ∧
 thenW (a1.setCell ((((blk a4.heap.size).add 6).add (Int.toNat a0 * 1)).add 0) (.pointer a8)) fun a3 =>
 thenW (a3.alloc (.cells #[.int .i64 a0, .int .u64 a7, .slice none 0 0, .slice none 0 0] 85)) fun a2 =>
 0 ≤ (a0 : Int) ∧ (a0 : Int) < (4 : Int) ∧
 Q07 a2 ((((blk a4.heap.size).add 10).add (Int.toNat a0 * 1)).add 0) ∧
 thenW (a2.setCell ((((blk a4.heap.size).add 10).add (Int.toNat a0 * 1)).add 0) (.pointer (some (blk a3.heap.size)))) fun a5 =>
 ∃ a6, a6 < m9 ∧ I0 a6 [.int .i64 (IntKind.i64.wrap (a0 + 1))] a5

abbrev Q0o.J2 (a3 : Int) (I0 : Nat → List Value → World → Prop) (m9 : Nat) (a4 : World) (R : RW) (aa : World) : Prop :=
 ∃ (ah : Option Addr), aa.cell? ((blk a4.heap.size).add 0) = some (.pointer ah) ∧
 Calls Try.prog 18 #[.pointer ah] aa fun ag ad => ∃ (a0 a2 : Int), ag = .returned (.tuple #[.int .u64 a0, .int .u64 a2]) ∧
 ∃ (ai : Option Addr), ad.cell? ((blk a4.heap.size).add 1) = some (.pointer ai) ∧
 Calls Try.prog 22 #[.pointer ai] ad fun ae a9 => ∃ (a7 a8 : Int), ae = .returned (.tuple #[.int .u64 a7, .int .u64 a8]) ∧
 0 ≤ (a3 : Int) ∧ (a3 : Int) < (4 : Int) ∧
 Q07 a9 ((((blk a4.heap.size).add 2).add (Int.toNat a3 * 1)).add 0) ∧
 thenW (a9.setCell ((((blk a4.heap.size).add 2).add (Int.toNat a3 * 1)).add 0) (.int .u64 a2)) fun ab =>
 0 ≤ (a3 : Int) ∧ (a3 : Int) < (4 : Int) ∧
 Q07 ab ((((blk a4.heap.size).add 18).add (Int.toNat a3 * 1)).add 0) ∧
 thenW (ab.setCell ((((blk a4.heap.size).add 18).add (Int.toNat a3 * 1)).add 0) (.int .u64 a0)) fun ac =>
 ∃ (aj : Option Addr), ac.cell? ((blk a4.heap.size).add 0) = some (.pointer aj) ∧
 Calls Try.prog 19 #[.pointer aj, .int .i64 a3, .int .u64 a0] ac fun af a6 => ∃ (a1 : Option Addr) (a5 : Int), af = .returned (.tuple #[.pointer a1, .int .i64 a5]) ∧
 bif a5 != 0 then (
 R (.pointer none) a6) else (
 bif Option.isNone a1 then (
 R (.pointer none) a6) else (
 Q0o.J1 a1 a0 a3 I0 m9 a4 R a6))

def Q0o.M (a3 : Option Addr) (a0 a1 : Nat) (R : RW) (w : World) : Prop :=
 Calls Try.prog 17 #[.slice a3 a0 a1] w fun aq am => ∃ (aa : Option Addr), aq = .returned (.pointer aa) ∧
 thenW (am.alloc (.cells #[.slice a3 a0 a1, .slice none 0 0] 82)) fun a5 =>
 thenW (a5.alloc (.cells #[.pointer aa, .pointer (some (blk am.heap.size)), .int .u64 0, .int .u64 0, .int .u64 0, .int .u64 0, .pointer none, .pointer none, .pointer none, .pointer none, .pointer none, .pointer none, .pointer none, .pointer none, .slice none 0 0, .int .i64 0, .slice none 0 0, .int .i64 0, .int .u64 0, .int .u64 0, .int .u64 0, .int .u64 0, .int .u64 0] 48)) fun ap =>
 ∃ (I0 : Nat → List Value → World → Prop) (m8 : Nat), I0 m8 [.int .i64 0] ap ∧ ∀ (m9 : Nat) (a6 : World) (i7 : Int), I0 m9 [.int .i64 i7] a6 →
 bif decide (i7 < 4) then (
 Q0o.J2 i7 I0 m9 a5 R a6) else (
 0 ≤ (0 : Int) ∧ (0 : Int) < (4 : Int) ∧
 ∃ (ao : Int), a6.cell? (((blk a5.heap.size).add 2).add (Int.toNat 0 * 1)) = some (.int .u64 ao) ∧
 Calls Try.prog 20 #[.int .u64 ao] a6 fun ak ae => ∃ (ai : Option Addr) (ac ah : Nat) (a2 : Int), ak = .returned (.agg #[.slice ai ac ah, .int .i64 a2]) ∧
 Q07 ae (((blk a5.heap.size).add 14).add 0) ∧
 thenW (ae.setCell (((blk a5.heap.size).add 14).add 0) (.slice ai ac ah)) fun a9 =>
 Q07 a9 (((blk a5.heap.size).add 14).add 1) ∧
 thenW (a9.setCell (((blk a5.heap.size).add 14).add 1) (.int .i64 a2)) fun af =>
 0 ≤ (0 : Int) ∧ (0 : Int) < (4 : Int) ∧
 ∃ (an : Int), af.cell? (((blk a5.heap.size).add 2).add (Int.toNat 0 * 1)) = some (.int .u64 an) ∧
 Calls Try.prog 23 #[.int .u64 an] af fun al a8 => ∃ (aj : Option Addr) (ad ab : Nat) (a4 : Int), al = .returned (.agg #[.slice aj ad ab, .int .i64 a4]) ∧
 Q07 a8 (((blk a5.heap.size).add 16).add 0) ∧
 thenW (a8.setCell (((blk a5.heap.size).add 16).add 0) (.slice aj ad ab)) fun a7 =>
 Q07 a7 (((blk a5.heap.size).add 16).add 1) ∧
 thenW (a7.setCell (((blk a5.heap.size).add 16).add 1) (.int .i64 a4)) fun ag =>
 R (.pointer (some (blk a5.heap.size))) ag)

theorem Q0o.ok (a1 : Option Addr) (a2 a0 : Nat) {R : RW} {w : World} (h : Q0o.M a1 a2 a0 R w) : Calls Try.prog 6 #[.slice a1 a2 a0] w fun e w' => ∃ v, e = .returned v ∧ R v w' :=
  Q0l follows (H := [(0, [3], [(4, (.one (.int .i64)))])]) (args := [.slice a1 a2 a0]) (cast (by kernel_rfl) h)

def Q0o.N (a6 : Option Addr) (a2 a5 : Nat) (R : RW) (w : World) : Prop :=
 Calls Try.prog 17 #[.slice a6 a2 a5] w fun bg ba => ∃ (ag : Option Addr), bg = .returned (.pointer ag) ∧
 ∀ (ae : World) (q6 : Nat), Ext no ba ae → Blk ae q6 82 [.slice a6 a2 a5, .slice none 0 0] → ba.heap.size ≤ q6 → q6 < ae.heap.size →
 ∀ (ay : World) (q8 : Nat), Ext no ae ay → Blk ay q8 48 [.pointer ag, .pointer (some (blk q6)), .int .u64 0, .int .u64 0, .int .u64 0, .int .u64 0, .pointer none, .pointer none, .pointer none, .pointer none, .pointer none, .pointer none, .pointer none, .pointer none, .slice none 0 0, .int .i64 0, .slice none 0 0, .int .i64 0, .int .u64 0, .int .u64 0, .int .u64 0, .int .u64 0, .int .u64 0] → ae.heap.size ≤ q8 → q8 < ay.heap.size →
 ∃ (I0 : Nat → List Value → World → Prop) (bf : Nat), I0 bf [.int .i64 0] ay ∧ ∀ (bd : Nat) (a9 : World) (i9 : Int), I0 bd [.int .i64 i9] a9 →
 (i9 < 4 →
 ∃ (b8 : Option Addr), a9.cell? ((blk q8).add 0) = some (.pointer b8) ∧
 Calls Try.prog 18 #[.pointer b8] a9 fun b6 ax => ∃ (a0 aa : Int), b6 = .returned (.tuple #[.int .u64 a0, .int .u64 aa]) ∧
 ∃ (bc : Option Addr), ax.cell? ((blk q8).add 1) = some (.pointer bc) ∧
 Calls Try.prog 22 #[.pointer bc] ax fun b4 an => ∃ (ad ac : Int), b4 = .returned (.tuple #[.int .u64 ad, .int .u64 ac]) ∧
 0 ≤ (i9 : Int) ∧ (i9 : Int) < (4 : Int) ∧
 Q07 an ((((blk q8).add 2).add (Int.toNat i9 * 1)).add 0) ∧
 thenW (an.setCell ((((blk q8).add 2).add (Int.toNat i9 * 1)).add 0) (.int .u64 aa)) fun ao =>
 0 ≤ (i9 : Int) ∧ (i9 : Int) < (4 : Int) ∧
 Q07 ao ((((blk q8).add 18).add (Int.toNat i9 * 1)).add 0) ∧
 thenW (ao.setCell ((((blk q8).add 18).add (Int.toNat i9 * 1)).add 0) (.int .u64 a0)) fun ak =>
 ∃ (be : Option Addr), ak.cell? ((blk q8).add 0) = some (.pointer be) ∧
 Calls Try.prog 19 #[.pointer be, .int .i64 i9, .int .u64 a0] ak fun b2 ab => ∃ (a3 : Option Addr) (a7 : Int), b2 = .returned (.tuple #[.pointer a3, .int .i64 a7]) ∧
 (a7 ≠ 0 →
 R (.pointer none) ab) ∧
 (a7 = 0 →
 (a3 = none →
 R (.pointer none) ab) ∧
 (a3 ≠ none →
 0 ≤ (i9 : Int) ∧ (i9 : Int) < (4 : Int) ∧
 Q07 ab ((((blk q8).add 6).add (Int.toNat i9 * 1)).add 0) ∧
 thenW (ab.setCell ((((blk q8).add 6).add (Int.toNat i9 * 1)).add 0) (.pointer a3)) fun ai =>
 ∀ (a8 : World) (az : Nat), Ext no ai a8 → Blk a8 az 85 [.int .i64 i9, .int .u64 a0, .slice none 0 0, .slice none 0 0] → ai.heap.size ≤ az → az < a8.heap.size →
 0 ≤ (i9 : Int) ∧ (i9 : Int) < (4 : Int) ∧
 Q07 a8 ((((blk q8).add 10).add (Int.toNat i9 * 1)).add 0) ∧
 thenW (a8.setCell ((((blk q8).add 10).add (Int.toNat i9 * 1)).add 0) (.pointer (some (blk az)))) fun b1 =>
 (-9223372036854775808 : Int) ≤ (i9 + 1) ∧ (i9 + 1) < 9223372036854775808 ∧
 ∃ bb, bb < bd ∧ I0 bb [.int .i64 (i9 + 1)] b1))) ∧
 ((4 : Int) ≤ i9 →
 ∃ (b7 : Int), a9.cell? (((blk q8).add 2).add (Int.toNat 0 * 1)) = some (.int .u64 b7) ∧
 Calls Try.prog 20 #[.int .u64 b7] a9 fun b3 ah => ∃ (aw : Option Addr) (af aq : Nat) (a4 : Int), b3 = .returned (.agg #[.slice aw af aq, .int .i64 a4]) ∧
 Q07 ah (((blk q8).add 14).add 0) ∧
 thenW (ah.setCell (((blk q8).add 14).add 0) (.slice aw af aq)) fun au =>
 Q07 au (((blk q8).add 14).add 1) ∧
 thenW (au.setCell (((blk q8).add 14).add 1) (.int .i64 a4)) fun ar =>
 ∃ (b9 : Int), ar.cell? (((blk q8).add 2).add (Int.toNat 0 * 1)) = some (.int .u64 b9) ∧
 Calls Try.prog 23 #[.int .u64 b9] ar fun b5 av => ∃ (aj : Option Addr) (ap am : Nat) (a1 : Int), b5 = .returned (.agg #[.slice aj ap am, .int .i64 a1]) ∧
 Q07 av (((blk q8).add 16).add 0) ∧
 thenW (av.setCell (((blk q8).add 16).add 0) (.slice aj ap am)) fun al =>
 Q07 al (((blk q8).add 16).add 1) ∧
 thenW (al.setCell (((blk q8).add 16).add 1) (.int .i64 a1)) fun b0 =>
 R (.pointer (some (blk q8))) b0)

theorem Q0o.up (a2 : Option Addr) (a0 a1 : Nat) {R : RW} {w : World} (h : Q0o.N a2 a0 a1 R w) : Q0o.M a2 a0 a1 R w := by
  unfold Q0o.M
  unfold Q0o.N at h
  refine h.mono fun c1 ah h => ?_
  obtain ⟨ag, he, h⟩ := h
  refine ⟨ag, he, ?_⟩
  refine Q01 fun ae e5 => ?_
  have h := h ae ah.heap.size ((Ext.refl no ah).x_alloc e5) (Blk.of_new e5) ((Ext.refl no ah)).size (Q0w e5)
  refine Q01 fun bi e7 => ?_
  have h := h bi ae.heap.size ((Ext.refl no ae).x_alloc e7) (Blk.of_new e7) ((Ext.refl no ae)).size (Q0w e7)
  obtain ⟨I0, be, h0, h⟩ := h
  refine ⟨I0, be, h0, fun bz aw i9 hI => ?_⟩
  have h := h bz aw i9 hI
  refine bif_fo (fun az => ?_) (fun az => ?_)
  ·have h := h.2 (Int.not_lt.1 (of_decide_eq_false az))
   refine ⟨by decide, by decide, ?_⟩
   obtain ⟨b1, ax, h⟩ := h
   refine ⟨b1, ax, ?_⟩
   refine h.mono fun bb b8 h => ?_
   obtain ⟨ay, af, aq, a4, he, h⟩ := h
   refine ⟨ay, af, aq, a4, he, ?_⟩
   obtain ⟨hcs, h⟩ := h
   refine ⟨hcs, Q01 fun c0 b2 => ?_⟩
   replace h := Q0f h b2
   obtain ⟨hcs, h⟩ := h
   refine ⟨hcs, Q01 fun bo b7 => ?_⟩
   replace h := Q0f h b7
   refine ⟨by decide, by decide, ?_⟩
   obtain ⟨b6, ar, h⟩ := h
   refine ⟨b6, ar, ?_⟩
   refine h.mono fun br bs h => ?_
   obtain ⟨ak, ap, an, a3, he, h⟩ := h
   refine ⟨ak, ap, an, a3, he, ?_⟩
   obtain ⟨hcs, h⟩ := h
   refine ⟨hcs, Q01 fun bg bw => ?_⟩
   replace h := Q0f h bw
   obtain ⟨hcs, h⟩ := h
   refine ⟨hcs, Q01 fun b3 b0 => ?_⟩
   replace h := Q0f h b0
   exact h
  have h := h.1 (of_decide_eq_true az)
  unfold Q0o.J2
  obtain ⟨b4, ao, h⟩ := h
  refine ⟨b4, ao, ?_⟩
  refine h.mono fun bv bt h => ?_
  obtain ⟨a5, ab, he, h⟩ := h
  refine ⟨a5, ab, he, ?_⟩
  obtain ⟨bk, au, h⟩ := h
  refine ⟨bk, au, ?_⟩
  refine h.mono fun bp bh h => ?_
  obtain ⟨aa, a6, he, h⟩ := h
  refine ⟨aa, a6, he, ?_⟩
  obtain ⟨a7, a9, h⟩ := h
  refine ⟨a7, a9, ?_⟩
  obtain ⟨hcs, h⟩ := h
  refine ⟨hcs, Q01 fun bl bj => ?_⟩
  replace h := Q0f h bj
  obtain ⟨a7, a9, h⟩ := h
  refine ⟨a7, a9, ?_⟩
  obtain ⟨hcs, h⟩ := h
  refine ⟨hcs, Q01 fun bf bd => ?_⟩
  replace h := Q0f h bd
  obtain ⟨bx, al, h⟩ := h
  refine ⟨bx, al, ?_⟩
  refine h.mono fun bc bm h => ?_
  obtain ⟨ac, ad, he, h⟩ := h
  refine ⟨ac, ad, he, ?_⟩
  refine bif_of (fun am => ?_) (fun am => ?_)
  ·have h := h.1 (bne_t am)
   exact h
  have h := h.2 (bne_f am)
  refine bif_of (fun aj => ?_) (fun aj => ?_)
  ·have h := h.1 (Q1z aj)
   exact h
  have h := h.2 (Q1A aj)
  unfold Q0o.J1
  obtain ⟨a7, a9, h⟩ := h
  refine ⟨a7, a9, ?_⟩
  obtain ⟨hcs, h⟩ := h
  refine ⟨hcs, Q01 fun a8 bu => ?_⟩
  replace h := Q0f h bu
  refine Q01 fun av ai => ?_
  have h := h av a8.heap.size ((Ext.refl no a8).x_alloc ai) (Blk.of_new ai) ((Ext.refl no a8)).size (Q0w ai)
  obtain ⟨a7, a9, h⟩ := h
  refine ⟨a7, a9, ?_⟩
  obtain ⟨hcs, h⟩ := h
  refine ⟨hcs, Q01 fun b9 b5 => ?_⟩
  replace h := Q0f h b5
  obtain ⟨bn, bq, h⟩ := h
  try rw [w64 bn bq]
  obtain ⟨ba, hk, h⟩ := h
  exact ⟨ba, hk, h⟩

theorem Q0o.go (a1 : Option Addr) (a2 a0 : Nat) {R : RW} {w : World} (h : Q0o.N a1 a2 a0 R w) : Calls Try.prog 6 #[.slice a1 a2 a0] w fun e w' => ∃ v, e = .returned v ∧ R v w' := Q0o.ok a1 a2 a0 (Q0o.up a1 a2 a0 h)
abbrev Q00.J1 (ae : Int) (I1 : Nat → List Value → World → Prop) (b3 : Addr) (b6 : Option Addr) (bg : Nat) (R : RW) (ba : World) : Prop :=
 thenW (ba.drew) fun ak =>
 b6.elim False fun bb =>
 0 ≤ (ae : Int) ∧ (ae : Int) < (4 : Int) ∧
 ∃ (b7 : Option Addr), ak.cell? ((bb.add 6).add (Int.toNat ae * 1)) = some (.pointer b7) ∧
 ∃ (ao ax ab af : Int) (ad : Option Addr) (aa ac : Nat) (ap : Option Addr) (am al : Nat), cellsAt ak b3 [.int .i64 ao, .int .i64 ax, .int .u64 ab, .int .i64 af, .slice ad aa ac, .slice ap am al] 0 ∧
 b6.elim False fun b8 =>
 0 ≤ (ae : Int) ∧ (ae : Int) < (4 : Int) ∧
 ∃ (b2 : Option Addr), ak.cell? ((b8.add 10).add (Int.toNat ae * 1)) = some (.pointer b2) ∧
 b6.elim False fun b9 =>
 ∃ (b4 : Option Addr), ak.cell? (b9.add 1) = some (.pointer b4) ∧
 ∃ (a5 a9 a0 a4 : Int) (a2 : Option Addr) (a3 a1 : Nat) (a6 : Option Addr) (a7 a8 : Nat), cellsAt ak b3 [.int .i64 a5, .int .i64 a9, .int .u64 a0, .int .i64 a4, .slice a2 a3 a1, .slice a6 a7 a8] 0 ∧
 Calls Try.prog 26 #[.agg #[.int .i64 ao, .int .i64 ax, .int .u64 ab, .int .i64 af, .slice ad aa ac, .slice ap am al]] ak fun be an => ∃ (b0 b1 ai au : Int) (ag : Option Addr) (ah aj : Nat) (av : Option Addr) (az aw : Nat), be = .returned (.agg #[.int .i64 b0, .int .i64 b1, .int .u64 ai, .int .i64 au, .slice ag ah aj, .slice av az aw]) ∧
 cellsAt an b3 [.int .i64 a5, .int .i64 a9, .int .u64 a0, .int .i64 a4, .slice a2 a3 a1, .slice a6 a7 a8] 0 ∧
 an.cell? (b9.add 1) = some (.pointer b4) ∧
 an.cell? ((b8.add 10).add (Int.toNat ae * 1)) = some (.pointer b2) ∧
 an.cell? ((bb.add 6).add (Int.toNat ae * 1)) = some (.pointer b7) ∧
 Calls Try.prog 11 #[.pointer b7, .agg #[.int .i64 b0, .int .i64 b1, .int .u64 ai, .int .i64 au, .slice ag ah aj, .slice av az aw]] an fun bc ay => ∃ (ar : Int), bc = .returned (.int .i64 ar) ∧
 cellsAt ay b3 [.int .i64 a5, .int .i64 a9, .int .u64 a0, .int .i64 a4, .slice a2 a3 a1, .slice a6 a7 a8] 0 ∧
 ay.cell? (b9.add 1) = some (.pointer b4) ∧
 ay.cell? ((b8.add 10).add (Int.toNat ae * 1)) = some (.pointer b2) ∧
 Calls Try.prog 27 #[.pointer b2, .pointer b4, .agg #[.int .i64 a5, .int .i64 a9, .int .u64 a0, .int .i64 a4, .slice a2 a3 a1, .slice a6 a7 a8]] ay fun bd b5 => ∃ (aq : Int), bd = .returned (.int .i64 aq) ∧
 bif ar != aq then (
 R (.bool false) b5) else (
 ∃ bf, bf < bg ∧ I1 bf [.int .i64 (IntKind.i64.wrap (ae + 1))] b5)

abbrev Q00.J2 (a6 : Addr) (a5 : Option Addr) (R : RW) (a3 : World) : Prop :=
 ∃ (I1 : Nat → List Value → World → Prop) (a4 : Nat), I1 a4 [.int .i64 0] a3 ∧ ∀ (a2 : Nat) (a0 : World) (a1 : Int), I1 a2 [.int .i64 a1] a0 →
 bif decide (a1 < 4) then (
 Q00.J1 a1 I1 a6 a5 a2 R a0) else (
 R (.bool true) a0)

abbrev Q00.J3 (a6 : Int) (a3 a5 : Addr) (a4 : Option Addr) (R : RW) (a0 : World) : Prop :=
 ∃ (a2 : Int), a0.cell? (a3.add 0) = some (.int .i64 a2) ∧
 bif a2 != 3 then (
 R (.bool true) a0) else (
 bif a6 != 0 then (
 ∃ (a1 : Int), a0.cell? (a5.add 0) = some (.int .i64 a1) ∧
 bif a1 != 4 then (
 R (.bool true) a0) else (
 Q00.J2 a3 a4 R a0)) else (
 Q00.J2 a3 a4 R a0))

abbrev Q00.J4 (af : Int) (aj ak ag ai : Addr) (ac : Option Addr) (R : RW) (a2 : World) : Prop :=
 bif af == 0 then (
 ∃ (a7 : Option Addr) (a4 a6 : Nat) (a1 : Int), cellsAt a2 ak [.slice a7 a4 a6, .int .i64 a1] 0 ∧
 ac.elim False fun aa =>
 Q07 a2 ((aa.add 14).add 0) ∧
 thenW (a2.setCell ((aa.add 14).add 0) (.slice a7 a4 a6)) fun ad =>
 Q07 ad ((aa.add 14).add 1) ∧
 thenW (ad.setCell ((aa.add 14).add 1) (.int .i64 a1)) fun a5 =>
 ∃ (a3 : Option Addr) (a8 a9 : Nat) (a0 : Int), cellsAt a5 aj [.slice a3 a8 a9, .int .i64 a0] 0 ∧
 ac.elim False fun ab =>
 Q07 a5 ((ab.add 16).add 0) ∧
 thenW (a5.setCell ((ab.add 16).add 0) (.slice a3 a8 a9)) fun ae =>
 Q07 ae ((ab.add 16).add 1) ∧
 thenW (ae.setCell ((ab.add 16).add 1) (.int .i64 a0)) fun ah =>
 Q00.J3 af ag ai ac R ah) else (
 Q00.J3 af ag ai ac R a2)

abbrev Q00.J5 (a1 : Int) (a3 : Addr) (a4 : Int) (a2 a7 a6 : Addr) (a5 : Option Addr) (R : RW) (a0 : World) : Prop :=
 bif a4 != a1 then (
 R (.bool false) a0) else (
 Q00.J4 a1 a3 a2 a7 a6 a5 R a0)

abbrev Q00.J6 (b4 : Int) (b5 al av : Addr) (au : Option Addr) (R : RW) (ay : World) : Prop :=
 thenW (ay.drew) fun ab =>
 au.elim False fun az =>
 ∃ (ac : Option Addr) (ae ad : Nat) (a5 : Int), cellsAt ab (az.add 16) [.slice ac ae ad, .int .i64 a5] 0 ∧
 ∃ (a9 aa a1 a4 : Int) (a2 : Option Addr) (a3 a0 : Nat) (a8 : Option Addr) (a6 a7 : Nat), cellsAt ab al [.int .i64 a9, .int .i64 aa, .int .u64 a1, .int .i64 a4, .slice a2 a3 a0, .slice a8 a6 a7] 0 ∧
 (Calls Try.prog 14 #[.agg #[.slice ac ae ad, .int .i64 a5], .agg #[.int .i64 a9, .int .i64 aa, .int .u64 a1, .int .i64 a4, .slice a2 a3 a0, .slice a8 a6 a7]] ab fun aw aj => ∃ (ar : Option Addr) (ao am : Nat) (af ag : Int), aw = .returned (.tuple #[.agg #[.slice ar ao am, .int .i64 af], .int .i64 ag]) ∧
 thenW (aj.alloc (.cells #[.slice none 0 0, .int .i64 0] 46)) fun b3 =>
 putsK b3 (blk aj.heap.size) [.slice ar ao am, .int .i64 af] 0 fun ax =>
 Q00.J5 ag (blk aj.heap.size) b4 b5 al av au R ax) ∧
 (thenW (ab.alloc (.cells #[.slice none 0 0, .int .i64 0] 46)) fun ak =>
 cellsAt ak al [.int .i64 a9, .int .i64 aa, .int .u64 a1, .int .i64 a4, .slice a2 a3 a0, .slice a8 a6 a7] 0 ∧
 cellsAt ak (az.add 16) [.slice ac ae ad, .int .i64 a5] 0 ∧
 Calls Try.prog 14 #[.agg #[.slice ac ae ad, .int .i64 a5], .agg #[.int .i64 a9, .int .i64 aa, .int .u64 a1, .int .i64 a4, .slice a2 a3 a0, .slice a8 a6 a7]] ak fun b0 b2 => ∃ (aq : Option Addr) (ap an : Nat) (ai ah : Int), b0 = .returned (.tuple #[.agg #[.slice aq ap an, .int .i64 ai], .int .i64 ah]) ∧
 putsK b2 (blk ab.heap.size) [.slice aq ap an, .int .i64 ai] 0 fun b1 =>
 Q00.J5 ah (blk ab.heap.size) b4 b5 al av au R b1)

abbrev Q00.J7 (bj bz : Addr) (bu : Option Addr) (R : RW) (c0 : World) : Prop :=
 thenW (c0.drew) fun b4 =>
 bu.elim False fun bi =>
 ∃ (a6 : Option Addr) (a8 a7 : Nat) (a0 : Int), cellsAt b4 (bi.add 14) [.slice a6 a8 a7, .int .i64 a0] 0 ∧
 ∃ (aa al a3 a5 : Int) (a4 : Option Addr) (a2 a1 : Nat) (ac : Option Addr) (a9 ab : Nat), cellsAt b4 bj [.int .i64 aa, .int .i64 al, .int .u64 a3, .int .i64 a5, .slice a4 a2 a1, .slice ac a9 ab] 0 ∧
 (Calls Try.prog 26 #[.agg #[.int .i64 aa, .int .i64 al, .int .u64 a3, .int .i64 a5, .slice a4 a2 a1, .slice ac a9 ab]] b4 fun bv b8 => ∃ (aw b6 ad am : Int) (ae : Option Addr) (ag af : Nat) (au : Option Addr) (ax av : Nat), bv = .returned (.agg #[.int .i64 aw, .int .i64 b6, .int .u64 ad, .int .i64 am, .slice ae ag af, .slice au ax av]) ∧
 cellsAt b8 (bi.add 14) [.slice a6 a8 a7, .int .i64 a0] 0 ∧
 (Calls Try.prog 10 #[.agg #[.slice a6 a8 a7, .int .i64 a0], .agg #[.int .i64 aw, .int .i64 b6, .int .u64 ad, .int .i64 am, .slice ae ag af, .slice au ax av]] b8 fun c1 bh => ∃ (bl : Option Addr) (bn bo : Nat) (ay b0 : Int), c1 = .returned (.tuple #[.agg #[.slice bl bn bo, .int .i64 ay], .int .i64 b0]) ∧
 thenW (bh.alloc (.cells #[.slice none 0 0, .int .i64 0] 43)) fun bx =>
 putsK bx (blk bh.heap.size) [.slice bl bn bo, .int .i64 ay] 0 fun bw =>
 Q00.J6 b0 (blk bh.heap.size) bj bz bu R bw) ∧
 (thenW (b8.alloc (.cells #[.slice none 0 0, .int .i64 0] 43)) fun bg =>
 cellsAt bg (bi.add 14) [.slice a6 a8 a7, .int .i64 a0] 0 ∧
 Calls Try.prog 10 #[.agg #[.slice a6 a8 a7, .int .i64 a0], .agg #[.int .i64 aw, .int .i64 b6, .int .u64 ad, .int .i64 am, .slice ae ag af, .slice au ax av]] bg fun bk bm => ∃ (ba : Option Addr) (bf bc : Nat) (ar ao : Int), bk = .returned (.tuple #[.agg #[.slice ba bf bc, .int .i64 ar], .int .i64 ao]) ∧
 putsK bm (blk b8.heap.size) [.slice ba bf bc, .int .i64 ar] 0 fun br =>
 Q00.J6 ao (blk b8.heap.size) bj bz bu R br)) ∧
 (thenW (b4.alloc (.cells #[.slice none 0 0, .int .i64 0] 43)) fun b7 =>
 cellsAt b7 bj [.int .i64 aa, .int .i64 al, .int .u64 a3, .int .i64 a5, .slice a4 a2 a1, .slice ac a9 ab] 0 ∧
 cellsAt b7 (bi.add 14) [.slice a6 a8 a7, .int .i64 a0] 0 ∧
 Calls Try.prog 26 #[.agg #[.int .i64 aa, .int .i64 al, .int .u64 a3, .int .i64 a5, .slice a4 a2 a1, .slice ac a9 ab]] b7 fun bt be => ∃ (az b5 ai aq : Int) (ah : Option Addr) (ak aj : Nat) (b3 : Option Addr) (b1 b2 : Nat), bt = .returned (.agg #[.int .i64 az, .int .i64 b5, .int .u64 ai, .int .i64 aq, .slice ah ak aj, .slice b3 b1 b2]) ∧
 cellsAt be (bi.add 14) [.slice a6 a8 a7, .int .i64 a0] 0 ∧
 Calls Try.prog 10 #[.agg #[.slice a6 a8 a7, .int .i64 a0], .agg #[.int .i64 az, .int .i64 b5, .int .u64 ai, .int .i64 aq, .slice ah ak aj, .slice b3 b1 b2]] be fun bs bq => ∃ (bd : Option Addr) (bb b9 : Nat) (ap an : Int), bs = .returned (.tuple #[.agg #[.slice bd bb b9, .int .i64 ap], .int .i64 an]) ∧
 putsK bq (blk b4.heap.size) [.slice bd bb b9, .int .i64 ap] 0 fun bp =>
 Q00.J6 an (blk b4.heap.size) bj bz bu R bp)

abbrev Q00.J8 (ah : Int) (ag ad ai : Addr) (ac : Option Addr) (R : RW) (aa : World) : Prop :=
 ∃ (a7 a9 a3 a4 : Int) (a1 : Option Addr) (a0 a2 : Nat) (a5 : Option Addr) (a8 a6 : Nat), cellsAt aa ag [.int .i64 a7, .int .i64 a9, .int .u64 a3, .int .i64 a4, .slice a1 a0 a2, .slice a5 a8 a6] 0 ∧
 putsK aa ad [.int .i64 a7, .int .i64 a9, .int .u64 a3, .int .i64 a4, .slice a1 a0 a2, .slice a5 a8 a6] 0 fun ab =>
 ac.elim False fun ae =>
 Q07 ab ((ae.add 22).add 0) ∧
 thenW (ab.setCell ((ae.add 22).add 0) (.int .u64 ah)) fun af =>
 Q00.J7 ad ai ac R af

abbrev Q00.J9 (a2 a4 : Int) (a1 a3 a5 : Addr) (a6 : Option Addr) (R : RW) (a0 : World) : Prop :=
 bif a2 != 0 then (
 R (.bool true) a0) else (
 Q00.J8 a4 a1 a3 a5 a6 R a0)

abbrev Q00.J10 (ba b9 : Int) (b1 : Addr) (bb b8 : Int) (b4 b7 b5 : Addr) (b6 : Option Addr) (R : RW) (b2 : World) : Prop :=
 thenW (b2.drew) fun ae =>
 bif b8 != b9 then (
 R (.bool false) ae) else (
 bif bb != ba then (
 R (.bool false) ae) else (
 ∃ (ap ar ac ai : Int) (a9 : Option Addr) (ad aa : Nat) (ao : Option Addr) (an al : Nat), cellsAt ae b4 [.int .i64 ap, .int .i64 ar, .int .u64 ac, .int .i64 ai, .slice a9 ad aa, .slice ao an al] 0 ∧
 ∃ (a5 ah a3 a4 : Int) (a0 : Option Addr) (a1 a2 : Nat) (a8 : Option Addr) (a6 a7 : Nat), cellsAt ae b1 [.int .i64 a5, .int .i64 ah, .int .u64 a3, .int .i64 a4, .slice a0 a1 a2, .slice a8 a6 a7] 0 ∧
 Calls Try.prog 15 #[.agg #[.int .i64 ap, .int .i64 ar, .int .u64 ac, .int .i64 ai, .slice a9 ad aa, .slice ao an al]] ae fun b0 az => ∃ (av ax af am : Int) (ag : Option Addr) (ak aj : Nat) (aq : Option Addr) (aw au : Nat), b0 = .returned (.agg #[.int .i64 av, .int .i64 ax, .int .u64 af, .int .i64 am, .slice ag ak aj, .slice aq aw au]) ∧
 cellsAt az b1 [.int .i64 a5, .int .i64 ah, .int .u64 a3, .int .i64 a4, .slice a0 a1 a2, .slice a8 a6 a7] 0 ∧
 Calls Try.prog 25 #[.agg #[.int .i64 av, .int .i64 ax, .int .u64 af, .int .i64 am, .slice ag ak aj, .slice aq aw au], .agg #[.int .i64 a5, .int .i64 ah, .int .u64 a3, .int .i64 a4, .slice a0 a1 a2, .slice a8 a6 a7]] az fun b3 ay => ∃ (ab : Bool), b3 = .returned (.bool ab) ∧
 bif !ab then (
 R (.bool false) ay) else (
 Q00.J9 ba b9 b1 b7 b5 b6 R ay)))

abbrev Q00.J11 (b4 b9 : Int) (bb b3 ba : Addr) (ax : Option Addr) (R : RW) (b5 : World) : Prop :=
 thenW (b5.drew) fun a6 =>
 ax.elim False fun b7 =>
 ∃ (az : Option Addr), a6.cell? (b7.add 1) = some (.pointer az) ∧
 ax.elim False fun b8 =>
 ∃ (ah : Option Addr) (ai aj : Nat) (a0 : Int), cellsAt a6 (b8.add 16) [.slice ah ai aj, .int .i64 a0] 0 ∧
 ax.elim False fun bc =>
 ∃ (a1 : Int), a6.cell? (bc.add 22) = some (.int .u64 a1) ∧
 (Calls Try.prog 24 #[.pointer az, .agg #[.slice ah ai aj, .int .i64 a0], .int .u64 a1] a6 fun be ay => ∃ (aq aw a9 am : Int) (ad : Option Addr) (ae aa : Nat) (ar : Option Addr) (av au : Nat) (af ab : Int), be = .returned (.tuple #[.agg #[.int .i64 aq, .int .i64 aw, .int .u64 a9, .int .i64 am, .slice ad ae aa, .slice ar av au], .int .u64 af, .int .i64 ab]) ∧
 thenW (ay.alloc (.cells #[.int .i64 0, .int .i64 0, .int .u64 0, .int .i64 0, .slice none 0 0, .slice none 0 0] 67)) fun b6 =>
 putsK b6 (blk ay.heap.size) [.int .i64 aq, .int .i64 aw, .int .u64 a9, .int .i64 am, .slice ad ae aa, .slice ar av au] 0 fun bd =>
 Q00.J10 ab af (blk ay.heap.size) b4 b9 bb b3 ba ax R bd) ∧
 (thenW (a6.alloc (.cells #[.int .i64 0, .int .i64 0, .int .u64 0, .int .i64 0, .slice none 0 0, .slice none 0 0] 67)) fun ag =>
 ag.cell? (bc.add 22) = some (.int .u64 a1) ∧
 cellsAt ag (b8.add 16) [.slice ah ai aj, .int .i64 a0] 0 ∧
 ag.cell? (b7.add 1) = some (.pointer az) ∧
 Calls Try.prog 24 #[.pointer az, .agg #[.slice ah ai aj, .int .i64 a0], .int .u64 a1] ag fun b2 b1 => ∃ (an ap a3 ac : Int) (a4 : Option Addr) (a7 a2 : Nat) (ak : Option Addr) (ao al : Nat) (a8 a5 : Int), b2 = .returned (.tuple #[.agg #[.int .i64 an, .int .i64 ap, .int .u64 a3, .int .i64 ac, .slice a4 a7 a2, .slice ak ao al], .int .u64 a8, .int .i64 a5]) ∧
 putsK b1 (blk a6.heap.size) [.int .i64 an, .int .i64 ap, .int .u64 a3, .int .i64 ac, .slice a4 a7 a2, .slice ak ao al] 0 fun b0 =>
 Q00.J10 a5 a8 (blk a6.heap.size) b4 b9 bb b3 ba ax R b0)

def Q00.M (b7 : Option Addr) (bq bw bd : Int) (bc : Option Addr) (b9 be : Nat) (bm : Option Addr) (bn bp : Nat) (R : RW) (w : World) : Prop :=
 thenW (w.alloc (.cells #[.int .i64 bq, .int .i64 bw, .int .u64 bd, .slice bc b9 be, .slice bm bn bp] 31)) fun az =>
 ∃ (bz : Int), az.cell? ((blk w.heap.size).add 1) = some (.int .i64 bz) ∧
 ∃ (b4 : Int), az.cell? ((blk w.heap.size).add 2) = some (.int .u64 b4) ∧
 thenW (az.alloc (.cells #[.int .i64 0, .int .i64 0, .int .u64 0, .int .i64 0, .slice none 0 0, .slice none 0 0] 67)) fun c1 =>
 putsK c1 (blk az.heap.size) [.int .i64 1, .int .i64 bz, .int .u64 b4, .int .i64 0, .slice none 0 0, .slice none 0 0] 0 fun a1 =>
 ∃ (a5 : Int), a1.cell? ((blk w.heap.size).add 0) = some (.int .i64 a5) ∧
 bif a5 == 0 then (
 ∃ (bi : Int), a1.cell? ((blk w.heap.size).add 1) = some (.int .i64 bi) ∧
 bif decide (bi ≥ 0) then (
 ∃ (bh : Int), a1.cell? ((blk w.heap.size).add 1) = some (.int .i64 bh) ∧
 bif decide (bh < 4) then (
 thenW (a1.drew) fun bf =>
 ∃ (b5 : Int), bf.cell? ((blk w.heap.size).add 1) = some (.int .i64 b5) ∧
 b7.elim False fun c4 =>
 0 ≤ (b5 : Int) ∧ (b5 : Int) < (4 : Int) ∧
 ∃ (c3 : Int), bf.cell? ((c4.add 2).add (Int.toNat b5 * 1)) = some (.int .u64 c3) ∧
 Q07 bf (((blk az.heap.size).add 2).add 0) ∧
 thenW (bf.setCell (((blk az.heap.size).add 2).add 0) (.int .u64 c3)) fun c2 =>
 Q00.J7 (blk az.heap.size) (blk w.heap.size) b7 R c2) else (
 Q00.J7 (blk az.heap.size) (blk w.heap.size) b7 R a1)) else (
 Q00.J7 (blk az.heap.size) (blk w.heap.size) b7 R a1)) else (
 bif a5 == 2 then (
 ∃ (ba : Int), a1.cell? ((blk w.heap.size).add 1) = some (.int .i64 ba) ∧
 putsK a1 (blk az.heap.size) [.int .i64 2, .int .i64 ba, .int .u64 0, .int .i64 0, .slice none 0 0, .slice none 0 0] 0 fun bu =>
 Q00.J7 (blk az.heap.size) (blk w.heap.size) b7 R bu) else (
 bif a5 == 3 then (
 thenW (a1.drew) fun ac =>
 b7.elim False fun bt =>
 ∃ (bg : Option Addr), ac.cell? (bt.add 0) = some (.pointer bg) ∧
 b7.elim False fun bs =>
 ∃ (al : Option Addr) (am an : Nat) (a0 : Int), cellsAt ac (bs.add 14) [.slice al am an, .int .i64 a0] 0 ∧
 b7.elim False fun bx =>
 ∃ (a2 : Int), ac.cell? (bx.add 22) = some (.int .u64 a2) ∧
 (Calls Try.prog 9 #[.pointer bg, .agg #[.slice al am an, .int .i64 a0], .int .u64 a2] ac fun bv bb => ∃ (b1 b8 ak ar : Int) (ag : Option Addr) (aj af : Nat) (b2 : Option Addr) (b6 b0 : Nat) (ai ae : Int), bv = .returned (.tuple #[.agg #[.int .i64 b1, .int .i64 b8, .int .u64 ak, .int .i64 ar, .slice ag aj af, .slice b2 b6 b0], .int .u64 ai, .int .i64 ae]) ∧
 thenW (bb.alloc (.cells #[.int .i64 0, .int .i64 0, .int .u64 0, .int .i64 0, .slice none 0 0, .slice none 0 0] 52)) fun c0 =>
 putsK c0 (blk bb.heap.size) [.int .i64 b1, .int .i64 b8, .int .u64 ak, .int .i64 ar, .slice ag aj af, .slice b2 b6 b0] 0 fun br =>
 Q00.J11 ae ai (blk bb.heap.size) (blk az.heap.size) (blk w.heap.size) b7 R br) ∧
 (thenW (ac.alloc (.cells #[.int .i64 0, .int .i64 0, .int .u64 0, .int .i64 0, .slice none 0 0, .slice none 0 0] 52)) fun ao =>
 ao.cell? (bx.add 22) = some (.int .u64 a2) ∧
 cellsAt ao (bs.add 14) [.slice al am an, .int .i64 a0] 0 ∧
 ao.cell? (bt.add 0) = some (.pointer bg) ∧
 Calls Try.prog 9 #[.pointer bg, .agg #[.slice al am an, .int .i64 a0], .int .u64 a2] ao fun bj bk => ∃ (ap b3 ab ah : Int) (aa : Option Addr) (a7 a8 : Nat) (au : Option Addr) (av ax : Nat) (ad a3 : Int), bj = .returned (.tuple #[.agg #[.int .i64 ap, .int .i64 b3, .int .u64 ab, .int .i64 ah, .slice aa a7 a8, .slice au av ax], .int .u64 ad, .int .i64 a3]) ∧
 putsK bk (blk ac.heap.size) [.int .i64 ap, .int .i64 b3, .int .u64 ab, .int .i64 ah, .slice aa a7 a8, .slice au av ax] 0 fun bl =>
 Q00.J11 a3 ad (blk ac.heap.size) (blk az.heap.size) (blk w.heap.size) b7 R bl)) else (
 bif a5 == 4 then (
 ∃ (a6 : Option Addr) (a4 a9 : Nat), a1.cell? ((blk w.heap.size).add 3) = some (.slice a6 a4 a9) ∧
 ∃ (ay : Option Addr) (aw aq : Nat), a1.cell? ((blk w.heap.size).add 4) = some (.slice ay aw aq) ∧
 putsK a1 (blk az.heap.size) [.int .i64 3, .int .i64 0, .int .u64 0, .int .i64 0, .slice a6 a4 a9, .slice ay aw aq] 0 fun bo =>
 Q00.J7 (blk az.heap.size) (blk w.heap.size) b7 R bo) else (
 Q00.J7 (blk az.heap.size) (blk w.heap.size) b7 R a1))))

theorem Q00.ok (a9 : Option Addr) (a7 a8 a1 : Int) (a0 : Option Addr) (a3 a2 : Nat) (a4 : Option Addr) (a5 a6 : Nat) {R : RW} {w : World} (h : Q00.M a9 a7 a8 a1 a0 a3 a2 a4 a5 a6 R w) : Calls Try.prog 7 #[.pointer a9, .agg #[.int .i64 a7, .int .i64 a8, .int .u64 a1, .slice a0 a3 a2, .slice a4 a5 a6]] w fun e w' => ∃ v, e = .returned v ∧ R v w' :=
  Q0l follows (H := [(1, [0, 5], [(16, (.one (.int .i64)))])]) (args := [.pointer a9, .agg #[.int .i64 a7, .int .i64 a8, .int .u64 a1, .slice a0 a3 a2, .slice a4 a5 a6]]) (cast (by kernel_rfl) h)

def do0.N (d8 : Option Addr) (a8 cn : Int) (cc : Option Addr) (cb cs : Nat) (d2 : Option Addr) (d3 cy : Nat) (R : RW) (w : World) : Prop :=
 ∃ a2 : Addr, d8 = some a2 ∧
 0 ≤ (a8 : Int) ∧ (a8 : Int) < (4 : Int) ∧
 ∃ (c6 : Int), w.cell? ((a2.add 2).add (Int.toNat a8 * 1)) = some (.int .u64 c6) ∧
 ∃ (ag : Option Addr) (aa ac : Nat) (a1 : Int), cellsAt w (a2.add 14) [.slice ag aa ac, .int .i64 a1] 0 ∧
 (∀ (br : World) (c5 : List Nat), Ext no w br → Priv w br c5 →
 Calls Try.prog 26 #[.agg #[.int .i64 1, .int .i64 a8, .int .u64 c6, .int .i64 0, .slice none 0 0, .slice none 0 0]] br fun d5 ba => ∃ (az bj ad ai : Int) (a9 : Option Addr) (ab ae : Nat) (b2 : Option Addr) (b1 b0 : Nat), d5 = .returned (.agg #[.int .i64 az, .int .i64 bj, .int .u64 ad, .int .i64 ai, .slice a9 ab ae, .slice b2 b1 b0]) ∧
 Keep c5 br ba ∧
 cellsAt ba (a2.add 14) [.slice ag aa ac, .int .i64 a1] 0 ∧
 (∀ (bt : World) (cw : List Nat), Ext (fun b => b ∈ c5) ba bt → PrivJ c5 ba bt cw →
 Calls Try.prog 10 #[.agg #[.slice ag aa ac, .int .i64 a1], .agg #[.int .i64 az, .int .i64 bj, .int .u64 ad, .int .i64 ai, .slice a9 ab ae, .slice b2 b1 b0]] bt fun d0 aj => ∃ (ci : Option Addr) (cg c8 : Nat) (b4 am : Int), d0 = .returned (.tuple #[.agg #[.slice ci cg c8, .int .i64 b4], .int .i64 am]) ∧
 Keep cw bt aj ∧
 ∀ (a5 : World) (bw c9 : Nat), Ext (fun b => b ∈ cw) aj a5 → PrivJ cw aj a5 [bw, c9] →
 ∃ (av : Option Addr) (ap ay : Nat) (a3 : Int), cellsAt a5 (a2.add 16) [.slice av ap ay, .int .i64 a3] 0 ∧
 ∀ (af : World) (b9 : List Nat), Ext no a5 af → Priv a5 af b9 →
 Calls Try.prog 14 #[.agg #[.slice av ap ay, .int .i64 a3], .agg #[.int .i64 1, .int .i64 a8, .int .u64 c6, .int .i64 0, .slice none 0 0, .slice none 0 0]] af fun c2 a7 => ∃ (be : Option Addr) (bc bh : Nat) (a4 a0 : Int), c2 = .returned (.tuple #[.agg #[.slice be bc bh, .int .i64 a4], .int .i64 a0]) ∧
 Keep b9 af a7 ∧
 Keep [bw, c9] af a7 ∧
 (am ≠ a0 →
 ∀ (bd : World), Ext (fun b => b ∈ b9) a7 bd →
 R (.bool false) bd) ∧
 (am = a0 →
 (a0 = 0 →
 ∀ (ah : World) (cf : Nat), Ext (fun b => b ∈ b9) a7 ah → PrivJ b9 a7 ah [cf] →
 Q07 ah ((a2.add 14).add 0) ∧
 (∀ p ∈ [bw, cf], p ≠ Addr.block (a2.add 14)) ∧
 thenW (ah.setCell ((a2.add 14).add 0) (.slice ci cg c8)) fun bl =>
 Q07 bl ((a2.add 14).add 1) ∧
 thenW (bl.setCell ((a2.add 14).add 1) (.int .i64 b4)) fun ao =>
 Q07 ao ((a2.add 16).add 0) ∧
 (∀ p ∈ [bw], p ≠ Addr.block (a2.add 16)) ∧
 thenW (ao.setCell ((a2.add 16).add 0) (.slice be bc bh)) fun ax =>
 Q07 ax ((a2.add 16).add 1) ∧
 thenW (ax.setCell ((a2.add 16).add 1) (.int .i64 a4)) fun bb =>
 R (.bool true) bb) ∧
 (a0 ≠ 0 →
 ∀ (bg : World), Ext (fun b => b ∈ b9) a7 bg →
 R (.bool true) bg))) ∧
 (∀ (bn : World) (cj ct : Nat), Ext (fun b => b ∈ c5) ba bn → PrivJ c5 ba bn [cj, ct] →
 cellsAt bn (a2.add 14) [.slice ag aa ac, .int .i64 a1] 0 ∧
 ∀ (aj : World) (cz : List Nat), Ext no bn aj → Priv bn aj cz →
 Calls Try.prog 10 #[.agg #[.slice ag aa ac, .int .i64 a1], .agg #[.int .i64 az, .int .i64 bj, .int .u64 ad, .int .i64 ai, .slice a9 ab ae, .slice b2 b1 b0]] aj fun d4 c3 => ∃ (cq : Option Addr) (cm ce : Nat) (b3 al : Int), d4 = .returned (.tuple #[.agg #[.slice cq cm ce, .int .i64 b3], .int .i64 al]) ∧
 Keep cz aj c3 ∧
 Keep [cj, ct] aj c3 ∧
 ∀ (cd : World), Ext (fun b => b ∈ cz) c3 cd →
 ∀ (bu : World), Ext (fun b => b = ct) cd bu →
 ∃ (bz : Option Addr) (c0 bx : Nat) (aq : Int), cellsAt bu (a2.add 16) [.slice bz c0 bx, .int .i64 aq] 0 ∧
 ∀ (bi : World) (c7 : List Nat), Ext no bu bi → Priv bu bi c7 →
 Calls Try.prog 14 #[.agg #[.slice bz c0 bx, .int .i64 aq], .agg #[.int .i64 1, .int .i64 a8, .int .u64 c6, .int .i64 0, .slice none 0 0, .slice none 0 0]] bi fun d6 b8 => ∃ (cl : Option Addr) (co ca : Nat) (b5 a6 : Int), d6 = .returned (.tuple #[.agg #[.slice cl co ca, .int .i64 b5], .int .i64 a6]) ∧
 Keep c7 bi b8 ∧
 Keep [cj, ct] bi b8 ∧
 (al ≠ a6 →
 ∀ (ck : World), Ext (fun b => b ∈ c7) b8 ck →
 R (.bool false) ck) ∧
 (al = a6 →
 (a6 = 0 →
 ∀ (bp : World) (d7 : Nat), Ext (fun b => b ∈ c7) b8 bp → PrivJ c7 b8 bp [d7] →
 Q07 bp ((a2.add 14).add 0) ∧
 (∀ p ∈ [cj, d7], p ≠ Addr.block (a2.add 14)) ∧
 thenW (bp.setCell ((a2.add 14).add 0) (.slice cq cm ce)) fun ao =>
 Q07 ao ((a2.add 14).add 1) ∧
 thenW (ao.setCell ((a2.add 14).add 1) (.int .i64 b3)) fun ax =>
 Q07 ax ((a2.add 16).add 0) ∧
 (∀ p ∈ [cj], p ≠ Addr.block (a2.add 16)) ∧
 thenW (ax.setCell ((a2.add 16).add 0) (.slice cl co ca)) fun bb =>
 Q07 bb ((a2.add 16).add 1) ∧
 thenW (bb.setCell ((a2.add 16).add 1) (.int .i64 b5)) fun ah =>
 R (.bool true) ah) ∧
 (a6 ≠ 0 →
 ∀ (a5 : World), Ext (fun b => b ∈ c7) b8 a5 →
 R (.bool true) a5)))) ∧
 (∀ (bq : World) (cu : List Nat), Ext no w bq → Priv w bq cu →
 Calls Try.prog 26 #[.agg #[.int .i64 1, .int .i64 a8, .int .u64 c6, .int .i64 0, .slice none 0 0, .slice none 0 0]] bq fun cx bs => ∃ (bm c1 an b6 : Int) (au : Option Addr) (aw ar : Nat) (bk : Option Addr) (bf bo : Nat), cx = .returned (.agg #[.int .i64 bm, .int .i64 c1, .int .u64 an, .int .i64 b6, .slice au aw ar, .slice bk bf bo]) ∧
 Keep cu bq bs ∧
 cellsAt bs (a2.add 14) [.slice ag aa ac, .int .i64 a1] 0 ∧
 ∀ (bv : World) (cv : List Nat), Ext (fun b => b ∈ cu) bs bv → PrivJ cu bs bv cv →
 Calls Try.prog 10 #[.agg #[.slice ag aa ac, .int .i64 a1], .agg #[.int .i64 bm, .int .i64 c1, .int .u64 an, .int .i64 b6, .slice au aw ar, .slice bk bf bo]] bv fun d1 c4 => ∃ (cp : Option Addr) (ch cr : Nat) (b7 ak : Int), d1 = .returned (.tuple #[.agg #[.slice cp ch cr, .int .i64 b7], .int .i64 ak]) ∧
 Keep cv bv c4 ∧
 ∀ (a5 : World) (bw c9 : Nat), Ext (fun b => b ∈ cv) c4 a5 → PrivJ cv c4 a5 [bw, c9] →
 ∃ (av : Option Addr) (ap ay : Nat) (a3 : Int), cellsAt a5 (a2.add 16) [.slice av ap ay, .int .i64 a3] 0 ∧
 ∀ (af : World) (b9 : List Nat), Ext no a5 af → Priv a5 af b9 →
 Calls Try.prog 14 #[.agg #[.slice av ap ay, .int .i64 a3], .agg #[.int .i64 1, .int .i64 a8, .int .u64 c6, .int .i64 0, .slice none 0 0, .slice none 0 0]] af fun c2 a7 => ∃ (be : Option Addr) (bc bh : Nat) (a4 a0 : Int), c2 = .returned (.tuple #[.agg #[.slice be bc bh, .int .i64 a4], .int .i64 a0]) ∧
 Keep b9 af a7 ∧
 Keep [bw, c9] af a7 ∧
 (ak ≠ a0 →
 ∀ (bd : World), Ext (fun b => b ∈ b9) a7 bd →
 R (.bool false) bd) ∧
 (ak = a0 →
 (a0 = 0 →
 ∀ (ah : World) (cf : Nat), Ext (fun b => b ∈ b9) a7 ah → PrivJ b9 a7 ah [cf] →
 Q07 ah ((a2.add 14).add 0) ∧
 (∀ p ∈ [bw, cf], p ≠ Addr.block (a2.add 14)) ∧
 thenW (ah.setCell ((a2.add 14).add 0) (.slice cp ch cr)) fun bl =>
 Q07 bl ((a2.add 14).add 1) ∧
 thenW (bl.setCell ((a2.add 14).add 1) (.int .i64 b7)) fun ao =>
 Q07 ao ((a2.add 16).add 0) ∧
 (∀ p ∈ [bw], p ≠ Addr.block (a2.add 16)) ∧
 thenW (ao.setCell ((a2.add 16).add 0) (.slice be bc bh)) fun ax =>
 Q07 ax ((a2.add 16).add 1) ∧
 thenW (ax.setCell ((a2.add 16).add 1) (.int .i64 a4)) fun bb =>
 R (.bool true) bb) ∧
 (a0 ≠ 0 →
 ∀ (bg : World), Ext (fun b => b ∈ b9) a7 bg →
 R (.bool true) bg)))

theorem do0.up (eb : Option Addr) (a7 ad : Int) (av : Option Addr) (au ax : Nat) (bp : Option Addr) (br bd : Nat) (ek : decide (a7 ≥ 0) = true) (en : decide (a7 < 4) = true) {R : RW} {w : World} (h : do0.N eb a7 ad av au ax bp br bd R w) : Q00.M eb 0 a7 ad av au ax bp br bd R w := by
  unfold Q00.M
  unfold do0.N at h
  refine Q01 fun ar e7 => ?_
  have ac := Blk.of_new e7
  have ec := ((Ext.refl no w)).size
  have ee := (Ext.refl no w).x_alloc e7
  refine ⟨a7, ac.celli 1 rfl rfl, ?_⟩
  refine ⟨ad, ac.celli 2 rfl rfl, ?_⟩
  refine Q01 fun eu e8 => ?_
  have a0 := Blk.of_new e8
  have dh := (ee).size
  have ca := Nat.ne_of_lt ac.lt
  have ac := ac.x_alloc e8
  have eo := ee.x_alloc e8
  refine Q0g (k := 0) (j := 0) a0 (Nat.le_of_ble_eq_true rfl) fun eq X9 b9 => ?_
  have eg := eo.x_puts X9 (.inr dh)
  have ac := ac.x_puts X9 ca
  have a0 : Blk eq ar.heap.size 67 [.int .i64 1, .int .i64 a7, .int .u64 ad, .int .i64 0, .slice none 0 0, .slice none 0 0] := b9
  refine ⟨0, ac.celli 0 rfl rfl, ?_⟩
  refine bif_tt (by decide) ?_
  refine ⟨a7, ac.celli 1 rfl rfl, ?_⟩
  refine bif_tt ek ?_
  refine ⟨a7, ac.celli 1 rfl rfl, ?_⟩
  refine bif_tt en ?_
  refine Q01 fun ef dq => ?_
  have df := eg.x_drew dq
  have ac := ac.x_drew dq
  have a0 := a0.x_drew dq
  refine ⟨a7, ac.celli 1 rfl rfl, ?_⟩
  obtain ⟨ev, af, h⟩ := h
  refine Q03 af ?_
  obtain ⟨em, es, h⟩ := h
  refine ⟨em, es, ?_⟩
  obtain ⟨cx, e3, h⟩ := h
  refine ⟨cx, (df).cell e3 id, ?_⟩
  refine ⟨a0.cani 2 rfl rfl, Q01 fun dk dv => ?_⟩
  have e0 := df.x_set (q := ar.heap.size) (i := 2) rfl (.inr dh) dv
  have ac := ac.oth (q := ar.heap.size) (i := 2) rfl ca dv
  have a0 : Blk dk ar.heap.size 67 [.int .i64 1, .int .i64 a7, .int .u64 cx, .int .i64 0, .slice none 0 0, .slice none 0 0] := a0.seti 2 rfl dv
  unfold Q00.J7
  refine Q01 fun b1 dt => ?_
  have c7 := e0.x_drew dt
  have ac := ac.x_drew dt
  have a0 := a0.x_drew dt
  refine Q03 af ?_
  obtain ⟨db, cz, d1, bq, d0, h⟩ := h
  refine ⟨db, cz, d1, bq, Q0Z (c7) d0, ?_⟩
  refine ⟨1, a7, cx, 0, none, 0, 0, none, 0, 0, ⟨a0.celli 0 rfl rfl, a0.celli 1 rfl rfl, a0.celli 2 rfl rfl, a0.celli 3 rfl rfl, a0.celli 4 rfl rfl, a0.celli 5 rfl rfl, trivial⟩, ?_⟩
  obtain ⟨h0', h1'⟩ := h
  refine ⟨?_, ?_⟩
  focus
   have h := h0'
   have h := h b1 [w.heap.size, ar.heap.size] c7 (Priv.cons ec ac.lt (Priv.cons dh a0.lt Priv.nil))
   refine h.mono fun er b6 h => ?_
   obtain ⟨ce, d7, bk, bz, ba, bg, bv, cv, ci, cg, he, hkL, h⟩ := h
   refine ⟨ce, d7, bk, bz, ba, bg, bv, cv, ci, cg, he, ?_⟩
   have ac := hkL.blk ac (by simp)
   have a0 := hkL.blk a0 (by simp)
   obtain ⟨e2, h⟩ := h
   refine ⟨e2, ?_⟩
   obtain ⟨h0', h1'⟩ := h
   refine ⟨?_, ?_⟩
   have h := h0'
   have h := h b6 [w.heap.size, ar.heap.size] (Ext.refl (fun b => b ∈ ([w.heap.size, ar.heap.size] : List Nat)) b6) (PrivJ.cons (.inl (by simp)) ac.lt (PrivJ.cons (.inl (by simp)) a0.lt PrivJ.nil))
   refine h.mono fun ej c1 h => ?_
   obtain ⟨ai, ah, ag, a2, c8, he, hkL, h⟩ := h
   refine ⟨ai, ah, ag, a2, c8, he, ?_⟩
   have ac := hkL.blk ac (by simp)
   have a0 := hkL.blk a0 (by simp)
   refine Q01 fun dd dp => ?_
   have a1 := Blk.of_new dp
   have cw := ((Ext.refl (fun b => b ∈ ([w.heap.size, ar.heap.size] : List Nat)) c1)).size
   have aw := Nat.ne_of_lt a0.lt
   have a0 := a0.x_alloc dp
   have e5 := (Ext.refl (fun b => b ∈ ([w.heap.size, ar.heap.size] : List Nat)) c1).x_alloc dp
   refine Q0g (k := 0) (j := 0) a1 (Nat.le_of_ble_eq_true rfl) fun co d6 dw => ?_
   have cb := e5.x_puts d6 (.inr cw)
   have a0 := a0.x_puts d6 aw
   have a1 : Blk co c1.heap.size 43 [.slice ai ah ag, .int .i64 a2] := dw
   unfold Q00.J6
   refine Q01 fun a3 ch => ?_
   have cc := cb.x_drew ch
   have a0 := a0.x_drew ch
   have a1 := a1.x_drew ch
   refine Q03 af ?_
   have h := h a3 (ar.heap.size) (c1.heap.size) cc (PrivJ.cons (.inl (by simp)) a0.lt (PrivJ.cons (.inr cw) a1.lt PrivJ.nil))
   obtain ⟨bt, bi, bx, ak, bf, h⟩ := h
   refine ⟨bt, bi, bx, ak, bf, ?_⟩
   refine ⟨1, a7, cx, 0, none, 0, 0, none, 0, 0, ⟨a0.celli 0 rfl rfl, a0.celli 1 rfl rfl, a0.celli 2 rfl rfl, a0.celli 3 rfl rfl, a0.celli 4 rfl rfl, a0.celli 5 rfl rfl, trivial⟩, ?_⟩
   refine ⟨?_, ?_⟩
   ·have h := h a3 [] (Ext.refl no a3) Priv.nil
    refine h.mono fun dl am h => ?_
    obtain ⟨b2, az, b3, a8, ap, he, hkL, hk, h⟩ := h
    refine ⟨b2, az, b3, a8, ap, he, ?_⟩
    have a0 := hk.blk a0 (by simp)
    have a1 := hk.blk a1 (by simp)
    refine Q01 fun al c5 => ?_
    have a4 := Blk.of_new c5
    have b8 := ((Ext.refl (fun b => b ∈ ([] : List Nat)) am)).size
    have aa := Nat.ne_of_lt a0.lt
    have a0 := a0.x_alloc c5
    have a9 := Nat.ne_of_lt a1.lt
    have a1 := a1.x_alloc c5
    have cl := (Ext.refl (fun b => b ∈ ([] : List Nat)) am).x_alloc c5
    refine Q0g (k := 0) (j := 0) a4 (Nat.le_of_ble_eq_true rfl) fun a6 b7 cd => ?_
    have ab := cl.x_puts b7 (.inr b8)
    have a0 := a0.x_puts b7 aa
    have a1 := a1.x_puts b7 a9
    have a4 : Blk a6 am.heap.size 46 [.slice b2 az b3, .int .i64 a8] := cd
    unfold Q00.J5
    refine bif_of (fun b0 => ?_) (fun b0 => ?_)
    ·have h := h.1 (bne_t b0)
     have h := h a6 ab
     exact h
    have h := h.2 (bne_f b0)
    unfold Q00.J4
    refine bif_fo (fun b5 => ?_) (fun b5 => ?_)
    ·have h := h.2 (beq_f b5)
     unfold Q00.J3
     refine ⟨1, a0.celli 0 rfl rfl, ?_⟩
     refine bif_tt (by decide) ?_
     have h := h a6 ab
     exact h
    have h := h.1 (beq_t b5)
    refine ⟨ai, ah, ag, a2, ⟨a1.celli 0 rfl rfl, a1.celli 1 rfl rfl, trivial⟩, ?_⟩
    refine Q03 af ?_
    have h := h a6 (am.heap.size) ab (PrivJ.cons (.inr b8) a4.lt PrivJ.nil)
    obtain ⟨hcs, hof, h⟩ := h
    refine ⟨hcs, Q01 fun cn b4 => ?_⟩
    replace h := Q0f h b4
    have a0 := a0.off (by rw [Q0a]; exact hof _ (by simp)) b4
    have a4 := a4.off (by rw [Q0a]; exact hof _ (by simp)) b4
    obtain ⟨hcs, h⟩ := h
    refine ⟨hcs, Q01 fun cf ay => ?_⟩
    replace h := Q0f h ay
    have a0 := a0.off (by rw [Q0a]; exact hof _ (by simp)) ay
    have a4 := a4.off (by rw [Q0a]; exact hof _ (by simp)) ay
    refine ⟨b2, az, b3, a8, ⟨a4.celli 0 rfl rfl, a4.celli 1 rfl rfl, trivial⟩, ?_⟩
    refine Q03 af ?_
    obtain ⟨hcs, hof, h⟩ := h
    refine ⟨hcs, Q01 fun cr be => ?_⟩
    replace h := Q0f h be
    have a0 := a0.off (by rw [Q0a]; exact hof _ (by simp)) be
    obtain ⟨hcs, h⟩ := h
    refine ⟨hcs, Q01 fun ct bl => ?_⟩
    replace h := Q0f h bl
    have a0 := a0.off (by rw [Q0a]; exact hof _ (by simp)) bl
    unfold Q00.J3
    refine ⟨1, a0.celli 0 rfl rfl, ?_⟩
    refine bif_tt (by decide) ?_
    exact h
   refine Q01 fun ck c4 => ?_
   have a4 := Blk.of_new c4
   have b8 := ((Ext.refl no a3)).size
   have aa := Nat.ne_of_lt a0.lt
   have a0 := a0.x_alloc c4
   have a9 := Nat.ne_of_lt a1.lt
   have a1 := a1.x_alloc c4
   have bs := (Ext.refl no a3).x_alloc c4
   refine ⟨⟨a0.celli 0 rfl rfl, a0.celli 1 rfl rfl, a0.celli 2 rfl rfl, a0.celli 3 rfl rfl, a0.celli 4 rfl rfl, a0.celli 5 rfl rfl, trivial⟩, Q0Z (bs) bf, ?_⟩
   have h := h ck [a3.heap.size] bs (Priv.cons b8 a4.lt Priv.nil)
   refine h.mono fun de al h => ?_
   obtain ⟨ao, aq, an, a5, ae, he, hkL, hk, h⟩ := h
   refine ⟨ao, aq, an, a5, ae, he, ?_⟩
   have a4 := hkL.blk a4 (by simp)
   have a0 := hk.blk a0 (by simp)
   have a1 := hk.blk a1 (by simp)
   refine Q0g (k := 0) (j := 0) a4 (Nat.le_of_ble_eq_true rfl) fun a6 b7 cd => ?_
   have ab := (Ext.refl (fun b => b ∈ ([a3.heap.size] : List Nat)) al).x_puts b7 (.inl (by simp))
   have a0 := a0.x_puts b7 aa
   have a1 := a1.x_puts b7 a9
   have a4 : Blk a6 a3.heap.size 46 [.slice ao aq an, .int .i64 a5] := cd
   rotate_left
   have h := h1'
   refine Q01 fun cq e4 => ?_
   have a1 := Blk.of_new e4
   have cw := ((Ext.refl (fun b => b ∈ ([w.heap.size, ar.heap.size] : List Nat)) b6)).size
   have aw := Nat.ne_of_lt a0.lt
   have a0 := a0.x_alloc e4
   have dy := (Ext.refl (fun b => b ∈ ([w.heap.size, ar.heap.size] : List Nat)) b6).x_alloc e4
   have h := h cq (ar.heap.size) (b6.heap.size) dy (PrivJ.cons (.inl (by simp)) a0.lt (PrivJ.cons (.inr cw) a1.lt PrivJ.nil))
   obtain ⟨du, h⟩ := h
   refine ⟨du, ?_⟩
   have h := h cq [] (Ext.refl no cq) Priv.nil
   refine h.mono fun ep bo h => ?_
   obtain ⟨ai, ah, ag, a2, c6, he, hkL, hk, h⟩ := h
   refine ⟨ai, ah, ag, a2, c6, he, ?_⟩
   have a0 := hk.blk a0 (by simp)
   have a1 := hk.blk a1 (by simp)
   have h := h bo (Ext.refl (fun b => b ∈ ([] : List Nat)) bo)
   have dz : Ext (fun b => b = b6.heap.size) bo bo := ((Ext.refl no bo)).none
   refine Q0g (k := 0) (j := 0) a1 (Nat.le_of_ble_eq_true rfl) fun dn ed eh => ?_
   have e6 := dz.x_puts ed (.inl rfl)
   have a0 := a0.x_puts ed aw
   have a1 : Blk dn b6.heap.size 43 [.slice ai ah ag, .int .i64 a2] := eh
   unfold Q00.J6
   refine Q01 fun a3 dm => ?_
   have dr := e6.x_drew dm
   have a0 := a0.x_drew dm
   have a1 := a1.x_drew dm
   refine Q03 af ?_
   have h := h a3 dr
   obtain ⟨d2, d4, cy, bj, d8, h⟩ := h
   refine ⟨d2, d4, cy, bj, d8, ?_⟩
   refine ⟨1, a7, cx, 0, none, 0, 0, none, 0, 0, ⟨a0.celli 0 rfl rfl, a0.celli 1 rfl rfl, a0.celli 2 rfl rfl, a0.celli 3 rfl rfl, a0.celli 4 rfl rfl, a0.celli 5 rfl rfl, trivial⟩, ?_⟩
   refine ⟨?_, ?_⟩
   ·have h := h a3 [] (Ext.refl no a3) Priv.nil
    refine h.mono fun de al h => ?_
    obtain ⟨bc, bh, bw, aj, ae, he, hkL, hk, h⟩ := h
    refine ⟨bc, bh, bw, aj, ae, he, ?_⟩
    have a0 := hk.blk a0 (by simp)
    have a1 := hk.blk a1 (by simp)
    refine Q01 fun c9 di => ?_
    have a4 := Blk.of_new di
    have b8 := ((Ext.refl (fun b => b ∈ ([] : List Nat)) al)).size
    have aa := Nat.ne_of_lt a0.lt
    have a0 := a0.x_alloc di
    have a9 := Nat.ne_of_lt a1.lt
    have a1 := a1.x_alloc di
    have d9 := (Ext.refl (fun b => b ∈ ([] : List Nat)) al).x_alloc di
    refine Q0g (k := 0) (j := 0) a4 (Nat.le_of_ble_eq_true rfl) fun a6 cs e9 => ?_
    have ab := d9.x_puts cs (.inr b8)
    have a0 := a0.x_puts cs aa
    have a1 := a1.x_puts cs a9
    have a4 : Blk a6 al.heap.size 46 [.slice bc bh bw, .int .i64 aj] := e9
    unfold Q00.J5
    refine bif_of (fun b0 => ?_) (fun b0 => ?_)
    ·have h := h.1 (bne_t b0)
     have h := h a6 ab
     exact h
    have h := h.2 (bne_f b0)
    unfold Q00.J4
    refine bif_fo (fun b5 => ?_) (fun b5 => ?_)
    ·have h := h.2 (beq_f b5)
     unfold Q00.J3
     refine ⟨1, a0.celli 0 rfl rfl, ?_⟩
     refine bif_tt (by decide) ?_
     have h := h a6 ab
     exact h
    have h := h.1 (beq_t b5)
    refine ⟨ai, ah, ag, a2, ⟨a1.celli 0 rfl rfl, a1.celli 1 rfl rfl, trivial⟩, ?_⟩
    refine Q03 af ?_
    have h := h a6 (al.heap.size) ab (PrivJ.cons (.inr b8) a4.lt PrivJ.nil)
    obtain ⟨hcs, hof, h⟩ := h
    refine ⟨hcs, Q01 fun cn b4 => ?_⟩
    replace h := Q0f h b4
    have a0 := a0.off (by rw [Q0a]; exact hof _ (by simp)) b4
    have a4 := a4.off (by rw [Q0a]; exact hof _ (by simp)) b4
    obtain ⟨hcs, h⟩ := h
    refine ⟨hcs, Q01 fun cf ay => ?_⟩
    replace h := Q0f h ay
    have a0 := a0.off (by rw [Q0a]; exact hof _ (by simp)) ay
    have a4 := a4.off (by rw [Q0a]; exact hof _ (by simp)) ay
    refine ⟨bc, bh, bw, aj, ⟨a4.celli 0 rfl rfl, a4.celli 1 rfl rfl, trivial⟩, ?_⟩
    refine Q03 af ?_
    obtain ⟨hcs, hof, h⟩ := h
    refine ⟨hcs, Q01 fun cr be => ?_⟩
    replace h := Q0f h be
    have a0 := a0.off (by rw [Q0a]; exact hof _ (by simp)) be
    obtain ⟨hcs, h⟩ := h
    refine ⟨hcs, Q01 fun ct bl => ?_⟩
    replace h := Q0f h bl
    have a0 := a0.off (by rw [Q0a]; exact hof _ (by simp)) bl
    unfold Q00.J3
    refine ⟨1, a0.celli 0 rfl rfl, ?_⟩
    refine bif_tt (by decide) ?_
    exact h
   refine Q01 fun e1 dg => ?_
   have a4 := Blk.of_new dg
   have b8 := ((Ext.refl no a3)).size
   have aa := Nat.ne_of_lt a0.lt
   have a0 := a0.x_alloc dg
   have a9 := Nat.ne_of_lt a1.lt
   have a1 := a1.x_alloc dg
   have d3 := (Ext.refl no a3).x_alloc dg
   refine ⟨⟨a0.celli 0 rfl rfl, a0.celli 1 rfl rfl, a0.celli 2 rfl rfl, a0.celli 3 rfl rfl, a0.celli 4 rfl rfl, a0.celli 5 rfl rfl, trivial⟩, Q0Z (d3) d8, ?_⟩
   have h := h e1 [a3.heap.size] d3 (Priv.cons b8 a4.lt Priv.nil)
   refine h.mono fun et c9 h => ?_
   obtain ⟨ao, aq, an, a5, c3, he, hkL, hk, h⟩ := h
   refine ⟨ao, aq, an, a5, c3, he, ?_⟩
   have a4 := hkL.blk a4 (by simp)
   have a0 := hk.blk a0 (by simp)
   have a1 := hk.blk a1 (by simp)
   refine Q0g (k := 0) (j := 0) a4 (Nat.le_of_ble_eq_true rfl) fun a6 cs e9 => ?_
   have ab := (Ext.refl (fun b => b ∈ ([a3.heap.size] : List Nat)) c9).x_puts cs (.inl (by simp))
   have a0 := a0.x_puts cs aa
   have a1 := a1.x_puts cs a9
   have a4 : Blk a6 a3.heap.size 46 [.slice ao aq an, .int .i64 a5] := e9
   rotate_left
  rotate_left 2
  have h := h1'
  refine Q01 fun ds dj => ?_
  have a1 := Blk.of_new dj
  have cw := (c7).size
  have ea := Nat.ne_of_lt ac.lt
  have ac := ac.x_alloc dj
  have aw := Nat.ne_of_lt a0.lt
  have a0 := a0.x_alloc dj
  have dc := c7.x_alloc dj
  refine ⟨⟨a0.celli 0 rfl rfl, a0.celli 1 rfl rfl, a0.celli 2 rfl rfl, a0.celli 3 rfl rfl, a0.celli 4 rfl rfl, a0.celli 5 rfl rfl, trivial⟩, Q0Z (dc) d0, ?_⟩
  have h := h ds [w.heap.size, ar.heap.size, b1.heap.size] dc (Priv.cons ec ac.lt (Priv.cons dh a0.lt (Priv.cons cw a1.lt Priv.nil)))
  refine h.mono fun ei d5 h => ?_
  obtain ⟨cp, da, bb, c0, bn, bu, bm, cm, cj, cu, he, hkL, h⟩ := h
  refine ⟨cp, da, bb, c0, bn, bu, bm, cm, cj, cu, he, ?_⟩
  have ac := hkL.blk ac (by simp)
  have a0 := hkL.blk a0 (by simp)
  have a1 := hkL.blk a1 (by simp)
  obtain ⟨dx, h⟩ := h
  refine ⟨dx, ?_⟩
  have h := h d5 [w.heap.size, ar.heap.size, b1.heap.size] (Ext.refl (fun b => b ∈ ([w.heap.size, ar.heap.size, b1.heap.size] : List Nat)) d5) (PrivJ.cons (.inl (by simp)) ac.lt (PrivJ.cons (.inl (by simp)) a0.lt (PrivJ.cons (.inl (by simp)) a1.lt PrivJ.nil)))
  refine h.mono fun el dd h => ?_
  obtain ⟨ai, ah, ag, a2, c2, he, hkL, h⟩ := h
  refine ⟨ai, ah, ag, a2, c2, he, ?_⟩
  have ac := hkL.blk ac (by simp)
  have a0 := hkL.blk a0 (by simp)
  have a1 := hkL.blk a1 (by simp)
  refine Q0g (k := 0) (j := 0) a1 (Nat.le_of_ble_eq_true rfl) fun co d6 dw => ?_
  have cb := (Ext.refl (fun b => b ∈ ([w.heap.size, ar.heap.size, b1.heap.size] : List Nat)) dd).x_puts d6 (.inl (by simp))
  have a0 := a0.x_puts d6 aw
  have a1 : Blk co b1.heap.size 43 [.slice ai ah ag, .int .i64 a2] := dw
  unfold Q00.J6
  refine Q01 fun a3 ch => ?_
  have cc := cb.x_drew ch
  have a0 := a0.x_drew ch
  have a1 := a1.x_drew ch
  refine Q03 af ?_
  have h := h a3 (ar.heap.size) (b1.heap.size) cc (PrivJ.cons (.inl (by simp)) a0.lt (PrivJ.cons (.inl (by simp)) a1.lt PrivJ.nil))
  obtain ⟨bt, bi, bx, ak, bf, h⟩ := h
  refine ⟨bt, bi, bx, ak, bf, ?_⟩
  refine ⟨1, a7, cx, 0, none, 0, 0, none, 0, 0, ⟨a0.celli 0 rfl rfl, a0.celli 1 rfl rfl, a0.celli 2 rfl rfl, a0.celli 3 rfl rfl, a0.celli 4 rfl rfl, a0.celli 5 rfl rfl, trivial⟩, ?_⟩
  refine ⟨?_, ?_⟩
  ·have h := h a3 [] (Ext.refl no a3) Priv.nil
   refine h.mono fun dl am h => ?_
   obtain ⟨b2, az, b3, a8, ap, he, hkL, hk, h⟩ := h
   refine ⟨b2, az, b3, a8, ap, he, ?_⟩
   have a0 := hk.blk a0 (by simp)
   have a1 := hk.blk a1 (by simp)
   refine Q01 fun al c5 => ?_
   have a4 := Blk.of_new c5
   have b8 := ((Ext.refl (fun b => b ∈ ([] : List Nat)) am)).size
   have aa := Nat.ne_of_lt a0.lt
   have a0 := a0.x_alloc c5
   have a9 := Nat.ne_of_lt a1.lt
   have a1 := a1.x_alloc c5
   have cl := (Ext.refl (fun b => b ∈ ([] : List Nat)) am).x_alloc c5
   refine Q0g (k := 0) (j := 0) a4 (Nat.le_of_ble_eq_true rfl) fun a6 b7 cd => ?_
   have ab := cl.x_puts b7 (.inr b8)
   have a0 := a0.x_puts b7 aa
   have a1 := a1.x_puts b7 a9
   have a4 : Blk a6 am.heap.size 46 [.slice b2 az b3, .int .i64 a8] := cd
   unfold Q00.J5
   refine bif_of (fun b0 => ?_) (fun b0 => ?_)
   ·have h := h.1 (bne_t b0)
    have h := h a6 ab
    exact h
   have h := h.2 (bne_f b0)
   unfold Q00.J4
   refine bif_fo (fun b5 => ?_) (fun b5 => ?_)
   ·have h := h.2 (beq_f b5)
    unfold Q00.J3
    refine ⟨1, a0.celli 0 rfl rfl, ?_⟩
    refine bif_tt (by decide) ?_
    have h := h a6 ab
    exact h
   have h := h.1 (beq_t b5)
   refine ⟨ai, ah, ag, a2, ⟨a1.celli 0 rfl rfl, a1.celli 1 rfl rfl, trivial⟩, ?_⟩
   refine Q03 af ?_
   have h := h a6 (am.heap.size) ab (PrivJ.cons (.inr b8) a4.lt PrivJ.nil)
   obtain ⟨hcs, hof, h⟩ := h
   refine ⟨hcs, Q01 fun cn b4 => ?_⟩
   replace h := Q0f h b4
   have a0 := a0.off (by rw [Q0a]; exact hof _ (by simp)) b4
   have a4 := a4.off (by rw [Q0a]; exact hof _ (by simp)) b4
   obtain ⟨hcs, h⟩ := h
   refine ⟨hcs, Q01 fun cf ay => ?_⟩
   replace h := Q0f h ay
   have a0 := a0.off (by rw [Q0a]; exact hof _ (by simp)) ay
   have a4 := a4.off (by rw [Q0a]; exact hof _ (by simp)) ay
   refine ⟨b2, az, b3, a8, ⟨a4.celli 0 rfl rfl, a4.celli 1 rfl rfl, trivial⟩, ?_⟩
   refine Q03 af ?_
   obtain ⟨hcs, hof, h⟩ := h
   refine ⟨hcs, Q01 fun cr be => ?_⟩
   replace h := Q0f h be
   have a0 := a0.off (by rw [Q0a]; exact hof _ (by simp)) be
   obtain ⟨hcs, h⟩ := h
   refine ⟨hcs, Q01 fun ct bl => ?_⟩
   replace h := Q0f h bl
   have a0 := a0.off (by rw [Q0a]; exact hof _ (by simp)) bl
   unfold Q00.J3
   refine ⟨1, a0.celli 0 rfl rfl, ?_⟩
   refine bif_tt (by decide) ?_
   exact h
  refine Q01 fun ck c4 => ?_
  have a4 := Blk.of_new c4
  have b8 := ((Ext.refl no a3)).size
  have aa := Nat.ne_of_lt a0.lt
  have a0 := a0.x_alloc c4
  have a9 := Nat.ne_of_lt a1.lt
  have a1 := a1.x_alloc c4
  have bs := (Ext.refl no a3).x_alloc c4
  refine ⟨⟨a0.celli 0 rfl rfl, a0.celli 1 rfl rfl, a0.celli 2 rfl rfl, a0.celli 3 rfl rfl, a0.celli 4 rfl rfl, a0.celli 5 rfl rfl, trivial⟩, Q0Z (bs) bf, ?_⟩
  have h := h ck [a3.heap.size] bs (Priv.cons b8 a4.lt Priv.nil)
  refine h.mono fun de al h => ?_
  obtain ⟨ao, aq, an, a5, ae, he, hkL, hk, h⟩ := h
  refine ⟨ao, aq, an, a5, ae, he, ?_⟩
  have a4 := hkL.blk a4 (by simp)
  have a0 := hk.blk a0 (by simp)
  have a1 := hk.blk a1 (by simp)
  refine Q0g (k := 0) (j := 0) a4 (Nat.le_of_ble_eq_true rfl) fun a6 b7 cd => ?_
  have ab := (Ext.refl (fun b => b ∈ ([a3.heap.size] : List Nat)) al).x_puts b7 (.inl (by simp))
  have a0 := a0.x_puts b7 aa
  have a1 := a1.x_puts b7 a9
  have a4 : Blk a6 a3.heap.size 46 [.slice ao aq an, .int .i64 a5] := cd
  rotate_left
  all_goals
   unfold Q00.J5
   refine bif_of (fun b0 => ?_) (fun b0 => ?_)
   ·have h := h.1 (bne_t b0)
    have h := h a6 ab
    exact h
   have h := h.2 (bne_f b0)
   unfold Q00.J4
   refine bif_fo (fun b5 => ?_) (fun b5 => ?_)
   ·have h := h.2 (beq_f b5)
    unfold Q00.J3
    refine ⟨1, a0.celli 0 rfl rfl, ?_⟩
    refine bif_tt (by decide) ?_
    have h := h a6 ab
    exact h
   have h := h.1 (beq_t b5)
   refine ⟨ai, ah, ag, a2, ⟨a1.celli 0 rfl rfl, a1.celli 1 rfl rfl, trivial⟩, ?_⟩
   refine Q03 af ?_
   have h := h a6 (a3.heap.size) ab (PrivJ.cons (.inl (by simp)) a4.lt PrivJ.nil)
   obtain ⟨hcs, hof, h⟩ := h
   refine ⟨hcs, Q01 fun cn b4 => ?_⟩
   replace h := Q0f h b4
   have a0 := a0.off (by rw [Q0a]; exact hof _ (by simp)) b4
   have a4 := a4.off (by rw [Q0a]; exact hof _ (by simp)) b4
   obtain ⟨hcs, h⟩ := h
   refine ⟨hcs, Q01 fun cf ay => ?_⟩
   replace h := Q0f h ay
   have a0 := a0.off (by rw [Q0a]; exact hof _ (by simp)) ay
   have a4 := a4.off (by rw [Q0a]; exact hof _ (by simp)) ay
   refine ⟨ao, aq, an, a5, ⟨a4.celli 0 rfl rfl, a4.celli 1 rfl rfl, trivial⟩, ?_⟩
   refine Q03 af ?_
   obtain ⟨hcs, hof, h⟩ := h
   refine ⟨hcs, Q01 fun cr be => ?_⟩
   replace h := Q0f h be
   have a0 := a0.off (by rw [Q0a]; exact hof _ (by simp)) be
   obtain ⟨hcs, h⟩ := h
   refine ⟨hcs, Q01 fun ct bl => ?_⟩
   replace h := Q0f h bl
   have a0 := a0.off (by rw [Q0a]; exact hof _ (by simp)) bl
   unfold Q00.J3
   refine ⟨1, a0.celli 0 rfl rfl, ?_⟩
   refine bif_tt (by decide) ?_
   exact h

theorem do0.go (a8 : Option Addr) (a4 a1 : Int) (a0 : Option Addr) (a3 a2 : Nat) (a5 : Option Addr) (a6 a7 : Nat) (aa : decide (a4 ≥ 0) = true) (a9 : decide (a4 < 4) = true) {R : RW} {w : World} (h : do0.N a8 a4 a1 a0 a3 a2 a5 a6 a7 R w) : Calls Try.prog 7 #[.pointer a8, .agg #[.int .i64 0, .int .i64 a4, .int .u64 a1, .slice a0 a3 a2, .slice a5 a6 a7]] w fun e w' => ∃ v, e = .returned v ∧ R v w' := Q00.ok a8 0 a4 a1 a0 a3 a2 a5 a6 a7 (do0.up a8 a4 a1 a0 a3 a2 a5 a6 a7 aa a9 h)
def do2.N (d7 : Option Addr) (au ck : Int) (cb : Option Addr) (c9 cr : Nat) (d3 : Option Addr) (d4 d0 : Nat) (R : RW) (w : World) : Prop :=
 ∃ a2 : Addr, d7 = some a2 ∧
 ∃ (ad : Option Addr) (a9 ae : Nat) (a1 : Int), cellsAt w (a2.add 14) [.slice ad a9 ae, .int .i64 a1] 0 ∧
 (∀ (bv : World) (c5 : List Nat), Ext no w bv → Priv w bv c5 →
 Calls Try.prog 26 #[.agg #[.int .i64 2, .int .i64 au, .int .u64 0, .int .i64 0, .slice none 0 0, .slice none 0 0]] bv fun cz b8 => ∃ (az bl a8 ak : Int) (af : Option Addr) (ac ab : Nat) (b0 : Option Addr) (b1 b2 : Nat), cz = .returned (.agg #[.int .i64 az, .int .i64 bl, .int .u64 a8, .int .i64 ak, .slice af ac ab, .slice b0 b1 b2]) ∧
 Keep c5 bv b8 ∧
 cellsAt b8 (a2.add 14) [.slice ad a9 ae, .int .i64 a1] 0 ∧
 (∀ (bt : World) (ct : List Nat), Ext (fun b => b ∈ c5) b8 bt → PrivJ c5 b8 bt ct →
 Calls Try.prog 10 #[.agg #[.slice ad a9 ae, .int .i64 a1], .agg #[.int .i64 az, .int .i64 bl, .int .u64 a8, .int .i64 ak, .slice af ac ab, .slice b0 b1 b2]] bt fun cw ai => ∃ (co : Option Addr) (cj cd : Nat) (b6 aj : Int), cw = .returned (.tuple #[.agg #[.slice co cj cd, .int .i64 b6], .int .i64 aj]) ∧
 Keep ct bt ai ∧
 ∀ (a6 : World) (bs cl : Nat), Ext (fun b => b ∈ ct) ai a6 → PrivJ ct ai a6 [bs, cl] →
 ∃ (ap : Option Addr) (ax av : Nat) (a3 : Int), cellsAt a6 (a2.add 16) [.slice ap ax av, .int .i64 a3] 0 ∧
 ∀ (ag : World) (bb : List Nat), Ext no a6 ag → Priv a6 ag bb →
 Calls Try.prog 14 #[.agg #[.slice ap ax av, .int .i64 a3], .agg #[.int .i64 2, .int .i64 au, .int .u64 0, .int .i64 0, .slice none 0 0, .slice none 0 0]] ag fun c2 a7 => ∃ (bi : Option Addr) (bn bj : Nat) (a4 a0 : Int), c2 = .returned (.tuple #[.agg #[.slice bi bn bj, .int .i64 a4], .int .i64 a0]) ∧
 Keep bb ag a7 ∧
 Keep [bs, cl] ag a7 ∧
 (aj ≠ a0 →
 ∀ (bk : World), Ext (fun b => b ∈ bb) a7 bk →
 R (.bool false) bk) ∧
 (aj = a0 →
 (a0 = 0 →
 ∀ (aa : World) (c7 : Nat), Ext (fun b => b ∈ bb) a7 aa → PrivJ bb a7 aa [c7] →
 Q07 aa ((a2.add 14).add 0) ∧
 (∀ p ∈ [bs, c7], p ≠ Addr.block (a2.add 14)) ∧
 thenW (aa.setCell ((a2.add 14).add 0) (.slice co cj cd)) fun be =>
 Q07 be ((a2.add 14).add 1) ∧
 thenW (be.setCell ((a2.add 14).add 1) (.int .i64 b6)) fun aq =>
 Q07 aq ((a2.add 16).add 0) ∧
 (∀ p ∈ [bs], p ≠ Addr.block (a2.add 16)) ∧
 thenW (aq.setCell ((a2.add 16).add 0) (.slice bi bn bj)) fun ay =>
 Q07 ay ((a2.add 16).add 1) ∧
 thenW (ay.setCell ((a2.add 16).add 1) (.int .i64 a4)) fun ba =>
 R (.bool true) ba) ∧
 (a0 ≠ 0 →
 ∀ (bm : World), Ext (fun b => b ∈ bb) a7 bm →
 R (.bool true) bm))) ∧
 (∀ (bh : World) (ci cv : Nat), Ext (fun b => b ∈ c5) b8 bh → PrivJ c5 b8 bh [ci, cv] →
 cellsAt bh (a2.add 14) [.slice ad a9 ae, .int .i64 a1] 0 ∧
 ∀ (ai : World) (cx : List Nat), Ext no bh ai → Priv bh ai cx →
 Calls Try.prog 10 #[.agg #[.slice ad a9 ae, .int .i64 a1], .agg #[.int .i64 az, .int .i64 bl, .int .u64 a8, .int .i64 ak, .slice af ac ab, .slice b0 b1 b2]] ai fun d1 c3 => ∃ (cq : Option Addr) (cn ce : Nat) (b3 al : Int), d1 = .returned (.tuple #[.agg #[.slice cq cn ce, .int .i64 b3], .int .i64 al]) ∧
 Keep cx ai c3 ∧
 Keep [ci, cv] ai c3 ∧
 ∀ (cc : World), Ext (fun b => b ∈ cx) c3 cc →
 ∀ (bq : World), Ext (fun b => b = cv) cc bq →
 ∃ (c0 : Option Addr) (c1 bz : Nat) (am : Int), cellsAt bq (a2.add 16) [.slice c0 c1 bz, .int .i64 am] 0 ∧
 ∀ (bd : World) (c6 : List Nat), Ext no bq bd → Priv bq bd c6 →
 Calls Try.prog 14 #[.agg #[.slice c0 c1 bz, .int .i64 am], .agg #[.int .i64 2, .int .i64 au, .int .u64 0, .int .i64 0, .slice none 0 0, .slice none 0 0]] bd fun cy b9 => ∃ (c8 : Option Addr) (ca cm : Nat) (b7 a5 : Int), cy = .returned (.tuple #[.agg #[.slice c8 ca cm, .int .i64 b7], .int .i64 a5]) ∧
 Keep c6 bd b9 ∧
 Keep [ci, cv] bd b9 ∧
 (al ≠ a5 →
 ∀ (cg : World), Ext (fun b => b ∈ c6) b9 cg →
 R (.bool false) cg) ∧
 (al = a5 →
 (a5 = 0 →
 ∀ (bu : World) (d6 : Nat), Ext (fun b => b ∈ c6) b9 bu → PrivJ c6 b9 bu [d6] →
 Q07 bu ((a2.add 14).add 0) ∧
 (∀ p ∈ [ci, d6], p ≠ Addr.block (a2.add 14)) ∧
 thenW (bu.setCell ((a2.add 14).add 0) (.slice cq cn ce)) fun aq =>
 Q07 aq ((a2.add 14).add 1) ∧
 thenW (aq.setCell ((a2.add 14).add 1) (.int .i64 b3)) fun ay =>
 Q07 ay ((a2.add 16).add 0) ∧
 (∀ p ∈ [ci], p ≠ Addr.block (a2.add 16)) ∧
 thenW (ay.setCell ((a2.add 16).add 0) (.slice c8 ca cm)) fun ba =>
 Q07 ba ((a2.add 16).add 1) ∧
 thenW (ba.setCell ((a2.add 16).add 1) (.int .i64 b7)) fun aa =>
 R (.bool true) aa) ∧
 (a5 ≠ 0 →
 ∀ (a6 : World), Ext (fun b => b ∈ c6) b9 a6 →
 R (.bool true) a6)))) ∧
 (∀ (bp : World) (cs : List Nat), Ext no w bp → Priv w bp cs →
 Calls Try.prog 26 #[.agg #[.int .i64 2, .int .i64 au, .int .u64 0, .int .i64 0, .slice none 0 0, .slice none 0 0]] bp fun d5 bw => ∃ (bo bx ao b4 : Int) (aw : Option Addr) (ar an : Nat) (bc : Option Addr) (bf bg : Nat), d5 = .returned (.agg #[.int .i64 bo, .int .i64 bx, .int .u64 ao, .int .i64 b4, .slice aw ar an, .slice bc bf bg]) ∧
 Keep cs bp bw ∧
 cellsAt bw (a2.add 14) [.slice ad a9 ae, .int .i64 a1] 0 ∧
 ∀ (br : World) (cu : List Nat), Ext (fun b => b ∈ cs) bw br → PrivJ cs bw br cu →
 Calls Try.prog 10 #[.agg #[.slice ad a9 ae, .int .i64 a1], .agg #[.int .i64 bo, .int .i64 bx, .int .u64 ao, .int .i64 b4, .slice aw ar an, .slice bc bf bg]] br fun d2 c4 => ∃ (cp : Option Addr) (ch cf : Nat) (b5 ah : Int), d2 = .returned (.tuple #[.agg #[.slice cp ch cf, .int .i64 b5], .int .i64 ah]) ∧
 Keep cu br c4 ∧
 ∀ (a6 : World) (bs cl : Nat), Ext (fun b => b ∈ cu) c4 a6 → PrivJ cu c4 a6 [bs, cl] →
 ∃ (ap : Option Addr) (ax av : Nat) (a3 : Int), cellsAt a6 (a2.add 16) [.slice ap ax av, .int .i64 a3] 0 ∧
 ∀ (ag : World) (bb : List Nat), Ext no a6 ag → Priv a6 ag bb →
 Calls Try.prog 14 #[.agg #[.slice ap ax av, .int .i64 a3], .agg #[.int .i64 2, .int .i64 au, .int .u64 0, .int .i64 0, .slice none 0 0, .slice none 0 0]] ag fun c2 a7 => ∃ (bi : Option Addr) (bn bj : Nat) (a4 a0 : Int), c2 = .returned (.tuple #[.agg #[.slice bi bn bj, .int .i64 a4], .int .i64 a0]) ∧
 Keep bb ag a7 ∧
 Keep [bs, cl] ag a7 ∧
 (ah ≠ a0 →
 ∀ (bk : World), Ext (fun b => b ∈ bb) a7 bk →
 R (.bool false) bk) ∧
 (ah = a0 →
 (a0 = 0 →
 ∀ (aa : World) (c7 : Nat), Ext (fun b => b ∈ bb) a7 aa → PrivJ bb a7 aa [c7] →
 Q07 aa ((a2.add 14).add 0) ∧
 (∀ p ∈ [bs, c7], p ≠ Addr.block (a2.add 14)) ∧
 thenW (aa.setCell ((a2.add 14).add 0) (.slice cp ch cf)) fun be =>
 Q07 be ((a2.add 14).add 1) ∧
 thenW (be.setCell ((a2.add 14).add 1) (.int .i64 b5)) fun aq =>
 Q07 aq ((a2.add 16).add 0) ∧
 (∀ p ∈ [bs], p ≠ Addr.block (a2.add 16)) ∧
 thenW (aq.setCell ((a2.add 16).add 0) (.slice bi bn bj)) fun ay =>
 Q07 ay ((a2.add 16).add 1) ∧
 thenW (ay.setCell ((a2.add 16).add 1) (.int .i64 a4)) fun ba =>
 R (.bool true) ba) ∧
 (a0 ≠ 0 →
 ∀ (bm : World), Ext (fun b => b ∈ bb) a7 bm →
 R (.bool true) bm)))

theorem do2.up (e5 : Option Addr) (ab ac : Int) (au : Option Addr) (ar aw : Nat) (bp : Option Addr) (bq bf : Nat) {R : RW} {w : World} (h : do2.N e5 ab ac au ar aw bp bq bf R w) : Q00.M e5 2 ab ac au ar aw bp bq bf R w := by
  unfold Q00.M
  unfold do2.N at h
  refine Q01 fun ax e7 => ?_
  have ae := Blk.of_new e7
  have e6 := ((Ext.refl no w)).size
  have ea := (Ext.refl no w).x_alloc e7
  refine ⟨ab, ae.celli 1 rfl rfl, ?_⟩
  refine ⟨ac, ae.celli 2 rfl rfl, ?_⟩
  refine Q01 fun em e8 => ?_
  have a0 := Blk.of_new e8
  have de := (ea).size
  have ca := Nat.ne_of_lt ae.lt
  have ae := ae.x_alloc e8
  have ei := ea.x_alloc e8
  refine Q0g (k := 0) (j := 0) a0 (Nat.le_of_ble_eq_true rfl) fun ej X9 b9 => ?_
  have ec := ei.x_puts X9 (.inr de)
  have ae := ae.x_puts X9 ca
  have a0 : Blk ej ax.heap.size 67 [.int .i64 1, .int .i64 ab, .int .u64 ac, .int .i64 0, .slice none 0 0, .slice none 0 0] := b9
  refine ⟨2, ae.celli 0 rfl rfl, ?_⟩
  refine bif_ff (by decide) ?_
  refine bif_tt (by decide) ?_
  refine ⟨ab, ae.celli 1 rfl rfl, ?_⟩
  refine Q0g (k := 0) (j := 0) a0 (Nat.le_of_ble_eq_true rfl) fun dj e9 eg => ?_
  have e2 := ec.x_puts e9 (.inr de)
  have ae := ae.x_puts e9 ca
  have a0 : Blk dj ax.heap.size 67 [.int .i64 2, .int .i64 ab, .int .u64 0, .int .i64 0, .slice none 0 0, .slice none 0 0] := eg
  unfold Q00.J7
  refine Q01 fun b4 dq => ?_
  have c6 := e2.x_drew dq
  have ae := ae.x_drew dq
  have a0 := a0.x_drew dq
  obtain ⟨en, ah, h⟩ := h
  refine Q03 ah ?_
  obtain ⟨d6, d0, d9, bg, d7, h⟩ := h
  refine ⟨d6, d0, d9, bg, Q0Z (c6) d7, ?_⟩
  refine ⟨2, ab, 0, 0, none, 0, 0, none, 0, 0, ⟨a0.celli 0 rfl rfl, a0.celli 1 rfl rfl, a0.celli 2 rfl rfl, a0.celli 3 rfl rfl, a0.celli 4 rfl rfl, a0.celli 5 rfl rfl, trivial⟩, ?_⟩
  obtain ⟨h0', h1'⟩ := h
  refine ⟨?_, ?_⟩
  focus
   have h := h0'
   have h := h b4 [w.heap.size, ax.heap.size] c6 (Priv.cons e6 ae.lt (Priv.cons de a0.lt Priv.nil))
   refine h.mono fun ed ay h => ?_
   obtain ⟨cc, db, ba, c5, bt, bl, bj, ci, cr, cs, he, hkL, h⟩ := h
   refine ⟨cc, db, ba, c5, bt, bl, bj, ci, cr, cs, he, ?_⟩
   have ae := hkL.blk ae (by simp)
   have a0 := hkL.blk a0 (by simp)
   obtain ⟨dv, h⟩ := h
   refine ⟨dv, ?_⟩
   obtain ⟨h0', h1'⟩ := h
   refine ⟨?_, ?_⟩
   have h := h0'
   have h := h ay [w.heap.size, ax.heap.size] (Ext.refl (fun b => b ∈ ([w.heap.size, ax.heap.size] : List Nat)) ay) (PrivJ.cons (.inl (by simp)) ae.lt (PrivJ.cons (.inl (by simp)) a0.lt PrivJ.nil))
   refine h.mono fun eb c2 h => ?_
   obtain ⟨ai, ag, af, a2, c3, he, hkL, h⟩ := h
   refine ⟨ai, ag, af, a2, c3, he, ?_⟩
   have ae := hkL.blk ae (by simp)
   have a0 := hkL.blk a0 (by simp)
   refine Q01 fun dc e1 => ?_
   have a1 := Blk.of_new e1
   have cw := ((Ext.refl (fun b => b ∈ ([w.heap.size, ax.heap.size] : List Nat)) c2)).size
   have av := Nat.ne_of_lt a0.lt
   have a0 := a0.x_alloc e1
   have dt := (Ext.refl (fun b => b ∈ ([w.heap.size, ax.heap.size] : List Nat)) c2).x_alloc e1
   refine Q0g (k := 0) (j := 0) a1 (Nat.le_of_ble_eq_true rfl) fun cq d8 ds => ?_
   have cj := dt.x_puts d8 (.inr cw)
   have a0 := a0.x_puts d8 av
   have a1 : Blk cq c2.heap.size 43 [.slice ai ag af, .int .i64 a2] := ds
   unfold Q00.J6
   refine Q01 fun a3 ck => ?_
   have co := cj.x_drew ck
   have a0 := a0.x_drew ck
   have a1 := a1.x_drew ck
   refine Q03 ah ?_
   have h := h a3 (ax.heap.size) (c2.heap.size) co (PrivJ.cons (.inl (by simp)) a0.lt (PrivJ.cons (.inr cw) a1.lt PrivJ.nil))
   obtain ⟨bk, bx, bu, ak, bw, h⟩ := h
   refine ⟨bk, bx, bu, ak, bw, ?_⟩
   refine ⟨2, ab, 0, 0, none, 0, 0, none, 0, 0, ⟨a0.celli 0 rfl rfl, a0.celli 1 rfl rfl, a0.celli 2 rfl rfl, a0.celli 3 rfl rfl, a0.celli 4 rfl rfl, a0.celli 5 rfl rfl, trivial⟩, ?_⟩
   refine ⟨?_, ?_⟩
   ·have h := h a3 [] (Ext.refl no a3) Priv.nil
    refine h.mono fun dn ap h => ?_
    obtain ⟨b1, b6, b2, a7, ao, he, hkL, hk, h⟩ := h
    refine ⟨b1, b6, b2, a7, ao, he, ?_⟩
    have a0 := hk.blk a0 (by simp)
    have a1 := hk.blk a1 (by simp)
    refine Q01 fun al c1 => ?_
    have a4 := Blk.of_new c1
    have b8 := ((Ext.refl (fun b => b ∈ ([] : List Nat)) ap)).size
    have aa := Nat.ne_of_lt a0.lt
    have a0 := a0.x_alloc c1
    have a8 := Nat.ne_of_lt a1.lt
    have a1 := a1.x_alloc c1
    have cp := (Ext.refl (fun b => b ∈ ([] : List Nat)) ap).x_alloc c1
    refine Q0g (k := 0) (j := 0) a4 (Nat.le_of_ble_eq_true rfl) fun a6 b5 cg => ?_
    have a9 := cp.x_puts b5 (.inr b8)
    have a0 := a0.x_puts b5 aa
    have a1 := a1.x_puts b5 a8
    have a4 : Blk a6 ap.heap.size 46 [.slice b1 b6 b2, .int .i64 a7] := cg
    unfold Q00.J5
    refine bif_of (fun b3 => ?_) (fun b3 => ?_)
    ·have h := h.1 (bne_t b3)
     have h := h a6 a9
     exact h
    have h := h.2 (bne_f b3)
    unfold Q00.J4
    refine bif_fo (fun b0 => ?_) (fun b0 => ?_)
    ·have h := h.2 (beq_f b0)
     unfold Q00.J3
     refine ⟨2, a0.celli 0 rfl rfl, ?_⟩
     refine bif_tt (by decide) ?_
     have h := h a6 a9
     exact h
    have h := h.1 (beq_t b0)
    refine ⟨ai, ag, af, a2, ⟨a1.celli 0 rfl rfl, a1.celli 1 rfl rfl, trivial⟩, ?_⟩
    refine Q03 ah ?_
    have h := h a6 (ap.heap.size) a9 (PrivJ.cons (.inr b8) a4.lt PrivJ.nil)
    obtain ⟨hcs, hof, h⟩ := h
    refine ⟨hcs, Q01 fun cd b7 => ?_⟩
    replace h := Q0f h b7
    have a0 := a0.off (by rw [Q0a]; exact hof _ (by simp)) b7
    have a4 := a4.off (by rw [Q0a]; exact hof _ (by simp)) b7
    obtain ⟨hcs, h⟩ := h
    refine ⟨hcs, Q01 fun cl az => ?_⟩
    replace h := Q0f h az
    have a0 := a0.off (by rw [Q0a]; exact hof _ (by simp)) az
    have a4 := a4.off (by rw [Q0a]; exact hof _ (by simp)) az
    refine ⟨b1, b6, b2, a7, ⟨a4.celli 0 rfl rfl, a4.celli 1 rfl rfl, trivial⟩, ?_⟩
    refine Q03 ah ?_
    obtain ⟨hcs, hof, h⟩ := h
    refine ⟨hcs, Q01 fun cu bs => ?_⟩
    replace h := Q0f h bs
    have a0 := a0.off (by rw [Q0a]; exact hof _ (by simp)) bs
    obtain ⟨hcs, h⟩ := h
    refine ⟨hcs, Q01 fun cn bm => ?_⟩
    replace h := Q0f h bm
    have a0 := a0.off (by rw [Q0a]; exact hof _ (by simp)) bm
    unfold Q00.J3
    refine ⟨2, a0.celli 0 rfl rfl, ?_⟩
    refine bif_tt (by decide) ?_
    exact h
   refine Q01 fun cm bz => ?_
   have a4 := Blk.of_new bz
   have b8 := ((Ext.refl no a3)).size
   have aa := Nat.ne_of_lt a0.lt
   have a0 := a0.x_alloc bz
   have a8 := Nat.ne_of_lt a1.lt
   have a1 := a1.x_alloc bz
   have bi := (Ext.refl no a3).x_alloc bz
   refine ⟨⟨a0.celli 0 rfl rfl, a0.celli 1 rfl rfl, a0.celli 2 rfl rfl, a0.celli 3 rfl rfl, a0.celli 4 rfl rfl, a0.celli 5 rfl rfl, trivial⟩, Q0Z (bi) bw, ?_⟩
   have h := h cm [a3.heap.size] bi (Priv.cons b8 a4.lt Priv.nil)
   refine h.mono fun cz al h => ?_
   obtain ⟨am, an, aq, a5, ad, he, hkL, hk, h⟩ := h
   refine ⟨am, an, aq, a5, ad, he, ?_⟩
   have a4 := hkL.blk a4 (by simp)
   have a0 := hk.blk a0 (by simp)
   have a1 := hk.blk a1 (by simp)
   refine Q0g (k := 0) (j := 0) a4 (Nat.le_of_ble_eq_true rfl) fun a6 b5 cg => ?_
   have a9 := (Ext.refl (fun b => b ∈ ([a3.heap.size] : List Nat)) al).x_puts b5 (.inl (by simp))
   have a0 := a0.x_puts b5 aa
   have a1 := a1.x_puts b5 a8
   have a4 : Blk a6 a3.heap.size 46 [.slice am an aq, .int .i64 a5] := cg
   rotate_left
   have h := h1'
   refine Q01 fun ct dz => ?_
   have a1 := Blk.of_new dz
   have cw := ((Ext.refl (fun b => b ∈ ([w.heap.size, ax.heap.size] : List Nat)) ay)).size
   have av := Nat.ne_of_lt a0.lt
   have a0 := a0.x_alloc dz
   have dy := (Ext.refl (fun b => b ∈ ([w.heap.size, ax.heap.size] : List Nat)) ay).x_alloc dz
   have h := h ct (ax.heap.size) (ay.heap.size) dy (PrivJ.cons (.inl (by simp)) a0.lt (PrivJ.cons (.inr cw) a1.lt PrivJ.nil))
   obtain ⟨dw, h⟩ := h
   refine ⟨dw, ?_⟩
   have h := h ct [] (Ext.refl no ct) Priv.nil
   refine h.mono fun ef br h => ?_
   obtain ⟨ai, ag, af, a2, c8, he, hkL, hk, h⟩ := h
   refine ⟨ai, ag, af, a2, c8, he, ?_⟩
   have a0 := hk.blk a0 (by simp)
   have a1 := hk.blk a1 (by simp)
   have h := h br (Ext.refl (fun b => b ∈ ([] : List Nat)) br)
   have dm : Ext (fun b => b = ay.heap.size) br br := ((Ext.refl no br)).none
   refine Q0g (k := 0) (j := 0) a1 (Nat.le_of_ble_eq_true rfl) fun dl e3 el => ?_
   have di := dm.x_puts e3 (.inl rfl)
   have a0 := a0.x_puts e3 av
   have a1 : Blk dl ay.heap.size 43 [.slice ai ag af, .int .i64 a2] := el
   unfold Q00.J6
   refine Q01 fun a3 du => ?_
   have dr := di.x_drew du
   have a0 := a0.x_drew du
   have a1 := a1.x_drew du
   refine Q03 ah ?_
   have h := h a3 dr
   obtain ⟨d3, d4, d1, bd, da, h⟩ := h
   refine ⟨d3, d4, d1, bd, da, ?_⟩
   refine ⟨2, ab, 0, 0, none, 0, 0, none, 0, 0, ⟨a0.celli 0 rfl rfl, a0.celli 1 rfl rfl, a0.celli 2 rfl rfl, a0.celli 3 rfl rfl, a0.celli 4 rfl rfl, a0.celli 5 rfl rfl, trivial⟩, ?_⟩
   refine ⟨?_, ?_⟩
   ·have h := h a3 [] (Ext.refl no a3) Priv.nil
    refine h.mono fun cz al h => ?_
    obtain ⟨bc, bb, bo, aj, ad, he, hkL, hk, h⟩ := h
    refine ⟨bc, bb, bo, aj, ad, he, ?_⟩
    have a0 := hk.blk a0 (by simp)
    have a1 := hk.blk a1 (by simp)
    refine Q01 fun c9 dh => ?_
    have a4 := Blk.of_new dh
    have b8 := ((Ext.refl (fun b => b ∈ ([] : List Nat)) al)).size
    have aa := Nat.ne_of_lt a0.lt
    have a0 := a0.x_alloc dh
    have a8 := Nat.ne_of_lt a1.lt
    have a1 := a1.x_alloc dh
    have d5 := (Ext.refl (fun b => b ∈ ([] : List Nat)) al).x_alloc dh
    refine Q0g (k := 0) (j := 0) a4 (Nat.le_of_ble_eq_true rfl) fun a6 ch dp => ?_
    have a9 := d5.x_puts ch (.inr b8)
    have a0 := a0.x_puts ch aa
    have a1 := a1.x_puts ch a8
    have a4 : Blk a6 al.heap.size 46 [.slice bc bb bo, .int .i64 aj] := dp
    unfold Q00.J5
    refine bif_of (fun b3 => ?_) (fun b3 => ?_)
    ·have h := h.1 (bne_t b3)
     have h := h a6 a9
     exact h
    have h := h.2 (bne_f b3)
    unfold Q00.J4
    refine bif_fo (fun b0 => ?_) (fun b0 => ?_)
    ·have h := h.2 (beq_f b0)
     unfold Q00.J3
     refine ⟨2, a0.celli 0 rfl rfl, ?_⟩
     refine bif_tt (by decide) ?_
     have h := h a6 a9
     exact h
    have h := h.1 (beq_t b0)
    refine ⟨ai, ag, af, a2, ⟨a1.celli 0 rfl rfl, a1.celli 1 rfl rfl, trivial⟩, ?_⟩
    refine Q03 ah ?_
    have h := h a6 (al.heap.size) a9 (PrivJ.cons (.inr b8) a4.lt PrivJ.nil)
    obtain ⟨hcs, hof, h⟩ := h
    refine ⟨hcs, Q01 fun cd b7 => ?_⟩
    replace h := Q0f h b7
    have a0 := a0.off (by rw [Q0a]; exact hof _ (by simp)) b7
    have a4 := a4.off (by rw [Q0a]; exact hof _ (by simp)) b7
    obtain ⟨hcs, h⟩ := h
    refine ⟨hcs, Q01 fun cl az => ?_⟩
    replace h := Q0f h az
    have a0 := a0.off (by rw [Q0a]; exact hof _ (by simp)) az
    have a4 := a4.off (by rw [Q0a]; exact hof _ (by simp)) az
    refine ⟨bc, bb, bo, aj, ⟨a4.celli 0 rfl rfl, a4.celli 1 rfl rfl, trivial⟩, ?_⟩
    refine Q03 ah ?_
    obtain ⟨hcs, hof, h⟩ := h
    refine ⟨hcs, Q01 fun cu bs => ?_⟩
    replace h := Q0f h bs
    have a0 := a0.off (by rw [Q0a]; exact hof _ (by simp)) bs
    obtain ⟨hcs, h⟩ := h
    refine ⟨hcs, Q01 fun cn bm => ?_⟩
    replace h := Q0f h bm
    have a0 := a0.off (by rw [Q0a]; exact hof _ (by simp)) bm
    unfold Q00.J3
    refine ⟨2, a0.celli 0 rfl rfl, ?_⟩
    refine bif_tt (by decide) ?_
    exact h
   refine Q01 fun e0 df => ?_
   have a4 := Blk.of_new df
   have b8 := ((Ext.refl no a3)).size
   have aa := Nat.ne_of_lt a0.lt
   have a0 := a0.x_alloc df
   have a8 := Nat.ne_of_lt a1.lt
   have a1 := a1.x_alloc df
   have d2 := (Ext.refl no a3).x_alloc df
   refine ⟨⟨a0.celli 0 rfl rfl, a0.celli 1 rfl rfl, a0.celli 2 rfl rfl, a0.celli 3 rfl rfl, a0.celli 4 rfl rfl, a0.celli 5 rfl rfl, trivial⟩, Q0Z (d2) da, ?_⟩
   have h := h e0 [a3.heap.size] d2 (Priv.cons b8 a4.lt Priv.nil)
   refine h.mono fun ee c9 h => ?_
   obtain ⟨am, an, aq, a5, c7, he, hkL, hk, h⟩ := h
   refine ⟨am, an, aq, a5, c7, he, ?_⟩
   have a4 := hkL.blk a4 (by simp)
   have a0 := hk.blk a0 (by simp)
   have a1 := hk.blk a1 (by simp)
   refine Q0g (k := 0) (j := 0) a4 (Nat.le_of_ble_eq_true rfl) fun a6 ch dp => ?_
   have a9 := (Ext.refl (fun b => b ∈ ([a3.heap.size] : List Nat)) c9).x_puts ch (.inl (by simp))
   have a0 := a0.x_puts ch aa
   have a1 := a1.x_puts ch a8
   have a4 : Blk a6 a3.heap.size 46 [.slice am an aq, .int .i64 a5] := dp
   rotate_left
  rotate_left 2
  have h := h1'
  refine Q01 fun dk dg => ?_
  have a1 := Blk.of_new dg
  have cw := (c6).size
  have e4 := Nat.ne_of_lt ae.lt
  have ae := ae.x_alloc dg
  have av := Nat.ne_of_lt a0.lt
  have a0 := a0.x_alloc dg
  have cx := c6.x_alloc dg
  refine ⟨⟨a0.celli 0 rfl rfl, a0.celli 1 rfl rfl, a0.celli 2 rfl rfl, a0.celli 3 rfl rfl, a0.celli 4 rfl rfl, a0.celli 5 rfl rfl, trivial⟩, Q0Z (cx) d7, ?_⟩
  have h := h dk [w.heap.size, ax.heap.size, b4.heap.size] cx (Priv.cons e6 ae.lt (Priv.cons de a0.lt (Priv.cons cw a1.lt Priv.nil)))
  refine h.mono fun ek dd h => ?_
  obtain ⟨cv, cy, bh, c4, bv, bn, be, cb, ce, cf, he, hkL, h⟩ := h
  refine ⟨cv, cy, bh, c4, bv, bn, be, cb, ce, cf, he, ?_⟩
  have ae := hkL.blk ae (by simp)
  have a0 := hkL.blk a0 (by simp)
  have a1 := hkL.blk a1 (by simp)
  obtain ⟨dx, h⟩ := h
  refine ⟨dx, ?_⟩
  have h := h dd [w.heap.size, ax.heap.size, b4.heap.size] (Ext.refl (fun b => b ∈ ([w.heap.size, ax.heap.size, b4.heap.size] : List Nat)) dd) (PrivJ.cons (.inl (by simp)) ae.lt (PrivJ.cons (.inl (by simp)) a0.lt (PrivJ.cons (.inl (by simp)) a1.lt PrivJ.nil)))
  refine h.mono fun eh dc h => ?_
  obtain ⟨ai, ag, af, a2, c0, he, hkL, h⟩ := h
  refine ⟨ai, ag, af, a2, c0, he, ?_⟩
  have ae := hkL.blk ae (by simp)
  have a0 := hkL.blk a0 (by simp)
  have a1 := hkL.blk a1 (by simp)
  refine Q0g (k := 0) (j := 0) a1 (Nat.le_of_ble_eq_true rfl) fun cq d8 ds => ?_
  have cj := (Ext.refl (fun b => b ∈ ([w.heap.size, ax.heap.size, b4.heap.size] : List Nat)) dc).x_puts d8 (.inl (by simp))
  have a0 := a0.x_puts d8 av
  have a1 : Blk cq b4.heap.size 43 [.slice ai ag af, .int .i64 a2] := ds
  unfold Q00.J6
  refine Q01 fun a3 ck => ?_
  have co := cj.x_drew ck
  have a0 := a0.x_drew ck
  have a1 := a1.x_drew ck
  refine Q03 ah ?_
  have h := h a3 (ax.heap.size) (b4.heap.size) co (PrivJ.cons (.inl (by simp)) a0.lt (PrivJ.cons (.inl (by simp)) a1.lt PrivJ.nil))
  obtain ⟨bk, bx, bu, ak, bw, h⟩ := h
  refine ⟨bk, bx, bu, ak, bw, ?_⟩
  refine ⟨2, ab, 0, 0, none, 0, 0, none, 0, 0, ⟨a0.celli 0 rfl rfl, a0.celli 1 rfl rfl, a0.celli 2 rfl rfl, a0.celli 3 rfl rfl, a0.celli 4 rfl rfl, a0.celli 5 rfl rfl, trivial⟩, ?_⟩
  refine ⟨?_, ?_⟩
  ·have h := h a3 [] (Ext.refl no a3) Priv.nil
   refine h.mono fun dn ap h => ?_
   obtain ⟨b1, b6, b2, a7, ao, he, hkL, hk, h⟩ := h
   refine ⟨b1, b6, b2, a7, ao, he, ?_⟩
   have a0 := hk.blk a0 (by simp)
   have a1 := hk.blk a1 (by simp)
   refine Q01 fun al c1 => ?_
   have a4 := Blk.of_new c1
   have b8 := ((Ext.refl (fun b => b ∈ ([] : List Nat)) ap)).size
   have aa := Nat.ne_of_lt a0.lt
   have a0 := a0.x_alloc c1
   have a8 := Nat.ne_of_lt a1.lt
   have a1 := a1.x_alloc c1
   have cp := (Ext.refl (fun b => b ∈ ([] : List Nat)) ap).x_alloc c1
   refine Q0g (k := 0) (j := 0) a4 (Nat.le_of_ble_eq_true rfl) fun a6 b5 cg => ?_
   have a9 := cp.x_puts b5 (.inr b8)
   have a0 := a0.x_puts b5 aa
   have a1 := a1.x_puts b5 a8
   have a4 : Blk a6 ap.heap.size 46 [.slice b1 b6 b2, .int .i64 a7] := cg
   unfold Q00.J5
   refine bif_of (fun b3 => ?_) (fun b3 => ?_)
   ·have h := h.1 (bne_t b3)
    have h := h a6 a9
    exact h
   have h := h.2 (bne_f b3)
   unfold Q00.J4
   refine bif_fo (fun b0 => ?_) (fun b0 => ?_)
   ·have h := h.2 (beq_f b0)
    unfold Q00.J3
    refine ⟨2, a0.celli 0 rfl rfl, ?_⟩
    refine bif_tt (by decide) ?_
    have h := h a6 a9
    exact h
   have h := h.1 (beq_t b0)
   refine ⟨ai, ag, af, a2, ⟨a1.celli 0 rfl rfl, a1.celli 1 rfl rfl, trivial⟩, ?_⟩
   refine Q03 ah ?_
   have h := h a6 (ap.heap.size) a9 (PrivJ.cons (.inr b8) a4.lt PrivJ.nil)
   obtain ⟨hcs, hof, h⟩ := h
   refine ⟨hcs, Q01 fun cd b7 => ?_⟩
   replace h := Q0f h b7
   have a0 := a0.off (by rw [Q0a]; exact hof _ (by simp)) b7
   have a4 := a4.off (by rw [Q0a]; exact hof _ (by simp)) b7
   obtain ⟨hcs, h⟩ := h
   refine ⟨hcs, Q01 fun cl az => ?_⟩
   replace h := Q0f h az
   have a0 := a0.off (by rw [Q0a]; exact hof _ (by simp)) az
   have a4 := a4.off (by rw [Q0a]; exact hof _ (by simp)) az
   refine ⟨b1, b6, b2, a7, ⟨a4.celli 0 rfl rfl, a4.celli 1 rfl rfl, trivial⟩, ?_⟩
   refine Q03 ah ?_
   obtain ⟨hcs, hof, h⟩ := h
   refine ⟨hcs, Q01 fun cu bs => ?_⟩
   replace h := Q0f h bs
   have a0 := a0.off (by rw [Q0a]; exact hof _ (by simp)) bs
   obtain ⟨hcs, h⟩ := h
   refine ⟨hcs, Q01 fun cn bm => ?_⟩
   replace h := Q0f h bm
   have a0 := a0.off (by rw [Q0a]; exact hof _ (by simp)) bm
   unfold Q00.J3
   refine ⟨2, a0.celli 0 rfl rfl, ?_⟩
   refine bif_tt (by decide) ?_
   exact h
  refine Q01 fun cm bz => ?_
  have a4 := Blk.of_new bz
  have b8 := ((Ext.refl no a3)).size
  have aa := Nat.ne_of_lt a0.lt
  have a0 := a0.x_alloc bz
  have a8 := Nat.ne_of_lt a1.lt
  have a1 := a1.x_alloc bz
  have bi := (Ext.refl no a3).x_alloc bz
  refine ⟨⟨a0.celli 0 rfl rfl, a0.celli 1 rfl rfl, a0.celli 2 rfl rfl, a0.celli 3 rfl rfl, a0.celli 4 rfl rfl, a0.celli 5 rfl rfl, trivial⟩, Q0Z (bi) bw, ?_⟩
  have h := h cm [a3.heap.size] bi (Priv.cons b8 a4.lt Priv.nil)
  refine h.mono fun cz al h => ?_
  obtain ⟨am, an, aq, a5, ad, he, hkL, hk, h⟩ := h
  refine ⟨am, an, aq, a5, ad, he, ?_⟩
  have a4 := hkL.blk a4 (by simp)
  have a0 := hk.blk a0 (by simp)
  have a1 := hk.blk a1 (by simp)
  refine Q0g (k := 0) (j := 0) a4 (Nat.le_of_ble_eq_true rfl) fun a6 b5 cg => ?_
  have a9 := (Ext.refl (fun b => b ∈ ([a3.heap.size] : List Nat)) al).x_puts b5 (.inl (by simp))
  have a0 := a0.x_puts b5 aa
  have a1 := a1.x_puts b5 a8
  have a4 : Blk a6 a3.heap.size 46 [.slice am an aq, .int .i64 a5] := cg
  rotate_left
  all_goals
   unfold Q00.J5
   refine bif_of (fun b3 => ?_) (fun b3 => ?_)
   ·have h := h.1 (bne_t b3)
    have h := h a6 a9
    exact h
   have h := h.2 (bne_f b3)
   unfold Q00.J4
   refine bif_fo (fun b0 => ?_) (fun b0 => ?_)
   ·have h := h.2 (beq_f b0)
    unfold Q00.J3
    refine ⟨2, a0.celli 0 rfl rfl, ?_⟩
    refine bif_tt (by decide) ?_
    have h := h a6 a9
    exact h
   have h := h.1 (beq_t b0)
   refine ⟨ai, ag, af, a2, ⟨a1.celli 0 rfl rfl, a1.celli 1 rfl rfl, trivial⟩, ?_⟩
   refine Q03 ah ?_
   have h := h a6 (a3.heap.size) a9 (PrivJ.cons (.inl (by simp)) a4.lt PrivJ.nil)
   obtain ⟨hcs, hof, h⟩ := h
   refine ⟨hcs, Q01 fun cd b7 => ?_⟩
   replace h := Q0f h b7
   have a0 := a0.off (by rw [Q0a]; exact hof _ (by simp)) b7
   have a4 := a4.off (by rw [Q0a]; exact hof _ (by simp)) b7
   obtain ⟨hcs, h⟩ := h
   refine ⟨hcs, Q01 fun cl az => ?_⟩
   replace h := Q0f h az
   have a0 := a0.off (by rw [Q0a]; exact hof _ (by simp)) az
   have a4 := a4.off (by rw [Q0a]; exact hof _ (by simp)) az
   refine ⟨am, an, aq, a5, ⟨a4.celli 0 rfl rfl, a4.celli 1 rfl rfl, trivial⟩, ?_⟩
   refine Q03 ah ?_
   obtain ⟨hcs, hof, h⟩ := h
   refine ⟨hcs, Q01 fun cu bs => ?_⟩
   replace h := Q0f h bs
   have a0 := a0.off (by rw [Q0a]; exact hof _ (by simp)) bs
   obtain ⟨hcs, h⟩ := h
   refine ⟨hcs, Q01 fun cn bm => ?_⟩
   replace h := Q0f h bm
   have a0 := a0.off (by rw [Q0a]; exact hof _ (by simp)) bm
   unfold Q00.J3
   refine ⟨2, a0.celli 0 rfl rfl, ?_⟩
   refine bif_tt (by decide) ?_
   exact h

theorem do2.go (a8 : Option Addr) (a7 a1 : Int) (a0 : Option Addr) (a3 a2 : Nat) (a4 : Option Addr) (a5 a6 : Nat) {R : RW} {w : World} (h : do2.N a8 a7 a1 a0 a3 a2 a4 a5 a6 R w) : Calls Try.prog 7 #[.pointer a8, .agg #[.int .i64 2, .int .i64 a7, .int .u64 a1, .slice a0 a3 a2, .slice a4 a5 a6]] w fun e w' => ∃ v, e = .returned v ∧ R v w' := Q00.ok a8 2 a7 a1 a0 a3 a2 a4 a5 a6 (do2.up a8 a7 a1 a0 a3 a2 a4 a5 a6 h)
def Q0U.M  (R : RW) (w : World) : Prop :=
 Calls Try.prog 17 #[.slice none 0 0] w fun bh bf => ∃ (aq : Option Addr), bh = .returned (.pointer aq) ∧
 Calls Try.prog 18 #[.pointer aq] bf fun bi bg => ∃ (aw ax : Int), bi = .returned (.tuple #[.int .u64 aw, .int .u64 ax]) ∧
 Calls Try.prog 19 #[.pointer aq, .int .i64 0, .int .u64 aw] bg fun bb b5 => ∃ (ap : Option Addr) (az : Int), bb = .returned (.tuple #[.pointer ap, .int .i64 az]) ∧
 Calls Try.prog 20 #[.int .u64 ax] b5 fun b9 b4 => ∃ (b1 : Option Addr) (b2 b3 : Nat) (ag : Int), b9 = .returned (.agg #[.slice b1 b2 b3, .int .i64 ag]) ∧
 Calls Try.prog 9 #[.pointer aq, .agg #[.slice b1 b2 b3, .int .i64 ag], .int .u64 0] b4 fun bd ay => ∃ (am au a8 ae : Int) (a5 : Option Addr) (a6 a9 : Nat) (ao : Option Addr) (an ak : Nat) (a0 aa : Int), bd = .returned (.tuple #[.agg #[.int .i64 am, .int .i64 au, .int .u64 a8, .int .i64 ae, .slice a5 a6 a9, .slice ao an ak], .int .u64 a0, .int .i64 aa]) ∧
 thenW (ay.alloc (.cells #[.int .i64 0, .int .i64 0, .int .u64 0, .int .i64 0, .slice none 0 0, .slice none 0 0] 52)) fun ba =>
 putsK ba (blk ay.heap.size) [.int .i64 am, .int .i64 au, .int .u64 a8, .int .i64 ae, .slice a5 a6 a9, .slice ao an ak] 0 fun b0 =>
 ∃ (aj al a1 a7 : Int) (a4 : Option Addr) (a2 a3 : Nat) (ad : Option Addr) (ai af : Nat), cellsAt b0 (blk ay.heap.size) [.int .i64 aj, .int .i64 al, .int .u64 a1, .int .i64 a7, .slice a4 a2 a3, .slice ad ai af] 0 ∧
 Calls Try.prog 11 #[.pointer ap, .agg #[.int .i64 aj, .int .i64 al, .int .u64 a1, .int .i64 a7, .slice a4 a2 a3, .slice ad ai af]] b0 fun bc b7 => ∃ (ac : Int), bc = .returned (.int .i64 ac) ∧
 Calls Try.prog 8 #[.pointer ap, .int .i64 0] b7 fun be ab => ∃ (ar av : Int), be = .returned (.tuple #[.int .u64 ar, .int .i64 av]) ∧
 bif az == 0 then (
 bif aa == 0 then (
 bif ac == 0 then (
 bif av == 0 then (
 bif ar == a0 then (
 bif a0 != 0 then (
 Calls Try.prog 21 #[.pointer ap] ab fun b6 b8 => ∃ (ah : Int), b6 = .returned (.int .i64 ah) ∧
 R (.bool (ah == 1)) b8) else (
 R (.bool false) ab)) else (
 R (.bool false) ab)) else (
 R (.bool false) ab)) else (
 R (.bool false) ab)) else (
 R (.bool false) ab)) else (
 R (.bool false) ab)

theorem Q0U.ok  {R : RW} {w : World} (h : Q0U.M  R w) : Calls Try.prog 5 #[] w fun e w' => ∃ v, e = .returned v ∧ R v w' :=
  Q0l follows (H := []) (args := []) (cast (by kernel_rfl) h)

def Q0U.N  (R : RW) (w : World) : Prop :=
 Calls Try.prog 17 #[.slice none 0 0] w fun b6 b4 => ∃ (ai : Option Addr), b6 = .returned (.pointer ai) ∧
 Calls Try.prog 18 #[.pointer ai] b4 fun b7 b5 => ∃ (ak al : Int), b7 = .returned (.tuple #[.int .u64 ak, .int .u64 al]) ∧
 Calls Try.prog 19 #[.pointer ai, .int .i64 0, .int .u64 ak] b5 fun b0 au => ∃ (ah : Option Addr) (am : Int), b0 = .returned (.tuple #[.pointer ah, .int .i64 am]) ∧
 Calls Try.prog 20 #[.int .u64 al] au fun ax ar => ∃ (ao : Option Addr) (ap aq : Nat) (a9 : Int), ax = .returned (.agg #[.slice ao ap aq, .int .i64 a9]) ∧
 Calls Try.prog 9 #[.pointer ai, .agg #[.slice ao ap aq, .int .i64 a9], .int .u64 0] ar fun b2 az => ∃ (ae aj a5 a8 : Int) (a3 : Option Addr) (a4 a6 : Nat) (ag : Option Addr) (af ab : Nat) (a0 a1 : Int), b2 = .returned (.tuple #[.agg #[.int .i64 ae, .int .i64 aj, .int .u64 a5, .int .i64 a8, .slice a3 a4 a6, .slice ag af ab], .int .u64 a0, .int .i64 a1]) ∧
 ∀ (an : World), Ext no az an →
 Calls Try.prog 11 #[.pointer ah, .agg #[.int .i64 ae, .int .i64 aj, .int .u64 a5, .int .i64 a8, .slice a3 a4 a6, .slice ag af ab]] an fun b3 aw => ∃ (a2 : Int), b3 = .returned (.int .i64 a2) ∧
 Calls Try.prog 8 #[.pointer ah, .int .i64 0] aw fun b1 a7 => ∃ (ac ad : Int), b1 = .returned (.tuple #[.int .u64 ac, .int .i64 ad]) ∧
 (am = 0 →
 (a1 = 0 →
 (a2 = 0 →
 (ad = 0 →
 (ac = a0 →
 (a0 ≠ 0 →
 Calls Try.prog 21 #[.pointer ah] a7 fun av ay => ∃ (aa : Int), av = .returned (.int .i64 aa) ∧
 R (.bool (aa == 1)) ay) ∧
 (a0 = 0 →
 R (.bool false) a7)) ∧
 (ac ≠ a0 →
 R (.bool false) a7)) ∧
 (ad ≠ 0 →
 R (.bool false) a7)) ∧
 (a2 ≠ 0 →
 R (.bool false) a7)) ∧
 (a1 ≠ 0 →
 R (.bool false) a7)) ∧
 (am ≠ 0 →
 R (.bool false) a7)

theorem Q0U.up  {R : RW} {w : World} (h : Q0U.N  R w) : Q0U.M  R w := by
  unfold Q0U.M
  unfold Q0U.N at h
  refine h.mono fun bk bi h => ?_
  obtain ⟨b0, he, h⟩ := h
  refine ⟨b0, he, ?_⟩
  refine h.mono fun bl bj h => ?_
  obtain ⟨ak, al, he, h⟩ := h
  refine ⟨ak, al, he, ?_⟩
  refine h.mono fun bd b4 h => ?_
  obtain ⟨an, am, he, h⟩ := h
  refine ⟨an, am, he, ?_⟩
  refine h.mono fun ba b3 h => ?_
  obtain ⟨aq, ay, az, ad, he, h⟩ := h
  refine ⟨aq, ay, az, ad, he, ?_⟩
  refine h.mono fun bf ag h => ?_
  obtain ⟨a6, a9, a2, a4, a0, a1, a3, a8, a7, a5, ab, aa, he, h⟩ := h
  refine ⟨a6, a9, a2, a4, a0, a1, a3, a8, a7, a5, ab, aa, he, ?_⟩
  refine Q01 fun bc b2 => ?_
  have af := Blk.of_new b2
  have bg := ((Ext.refl no ag)).size
  have b1 := (Ext.refl no ag).x_alloc b2
  refine Q0g (k := 0) (j := 0) af (Nat.le_of_ble_eq_true rfl) fun aj b7 b5 => ?_
  have ao := b1.x_puts b7 (.inr bg)
  have af : Blk aj ag.heap.size 52 [.int .i64 a6, .int .i64 a9, .int .u64 a2, .int .i64 a4, .slice a0 a1 a3, .slice a8 a7 a5] := b5
  refine ⟨a6, a9, a2, a4, a0, a1, a3, a8, a7, a5, ⟨af.celli 0 rfl rfl, af.celli 1 rfl rfl, af.celli 2 rfl rfl, af.celli 3 rfl rfl, af.celli 4 rfl rfl, af.celli 5 rfl rfl, trivial⟩, ?_⟩
  have h := h aj ao
  refine h.mono fun bh b9 h => ?_
  obtain ⟨ac, he, h⟩ := h
  refine ⟨ac, he, ?_⟩
  refine h.mono fun be b8 h => ?_
  obtain ⟨ah, ai, he, h⟩ := h
  refine ⟨ah, ai, he, ?_⟩
  refine bif_fo (fun ax => ?_) (fun ax => ?_)
  ·have h := h.2 (beq_f ax)
   exact h
  have h := h.1 (beq_t ax)
  refine bif_fo (fun aw => ?_) (fun aw => ?_)
  ·have h := h.2 (beq_f aw)
   exact h
  have h := h.1 (beq_t aw)
  refine bif_fo (fun au => ?_) (fun au => ?_)
  ·have h := h.2 (beq_f au)
   exact h
  have h := h.1 (beq_t au)
  refine bif_fo (fun av => ?_) (fun av => ?_)
  ·have h := h.2 (beq_f av)
   exact h
  have h := h.1 (beq_t av)
  refine bif_fo (fun ap => ?_) (fun ap => ?_)
  ·have h := h.2 (beq_f ap)
   exact h
  have h := h.1 (beq_t ap)
  refine bif_fo (fun ar => ?_) (fun ar => ?_)
  ·have h := h.2 (bne_f ar)
   exact h
  have h := h.1 (bne_t ar)
  refine h.mono fun b6 bb h => ?_
  obtain ⟨ae, he, h⟩ := h
  refine ⟨ae, he, ?_⟩
  exact h

theorem Q0U.go  {R : RW} {w : World} (h : Q0U.N  R w) : Calls Try.prog 5 #[] w fun e w' => ∃ v, e = .returned v ∧ R v w' := Q0U.ok  (Q0U.up  h)
set_option maxRecDepth 20000
structure WD where
  k : Nat
  j : Nat
  pub : Nat → Int
  rq : Nat → Option Nat
  mq : Nat → Option Nat
  sm : MS
  tm : MS
  sec : Nat → Int
  last : Int
def pB (x : Option Nat) : Value := .pointer (x.map blk)
def WD.V (X : WD) (sa : Option Addr) (sc : Nat) (ta : Option Addr) (tc : Nat) : List Value :=
  [.pointer (some (blk X.k)), .pointer (some (blk X.j)), u64V (X.pub 0), u64V (X.pub 1), u64V (X.pub 2), u64V (X.pub 3), pB (X.rq 0), pB (X.rq 1), pB (X.rq 2), pB (X.rq 3), pB (X.mq 0), pB (X.mq 1), pB (X.mq 2), pB (X.mq 3),
   .slice sa X.sm.ml.length sc, .int .i64 X.sm.ep, .slice ta X.tm.ml.length tc, .int .i64 X.tm.ep, u64V (X.sec 0), u64V (X.sec 1), u64V (X.sec 2), u64V (X.sec 3), .int .u64 X.last]
def updF {α : Type} (f : Nat → α) (i : Nat) (x : α) : Nat → α := fun n => if n = i then x else f n
theorem Q1c {α : Type} (f : Nat → α) (i : Nat) (x : α) : updF f i x i = x := if_pos rfl
theorem updF_ne {α : Type} (f : Nat → α) {i n : Nat} (x : α) (h : n ≠ i) : updF f i x n = f n := if_neg h
structure WG (w : World) (o : Own) (q : Nat) (X : WD) : Prop where
  mem : ∃ sa sc ta tc, Blk w q 48 (X.V sa sc ta tc) ∧ Row w o sa (X.sm.ml.flatMap Mem.C) ∧ Row w o ta (X.tm.ml.flatMap Mem.C) ∧ X.tm.ml.length ≤ tc
  tg : o q = some q
section
variable {w w' w1 w2 : World} {o o' o1 : Own} {q k p N m i : Nat} {K : Nat → Prop} {X : WD} {a : Option Addr} {c : Nat}
theorem adr (q a i : Nat) : ((blk q).add a).add (Int.toNat (i : Int) * 1) = ⟨q, a + i, none⟩ := by
  rw [add_add, Int.toNat_natCast, Nat.mul_one]
  unfold blk Addr.add
  simp
  omega
theorem adr0 (q a i : Nat) : (((blk q).add a).add (Int.toNat (i : Int) * 1)).add 0 = ⟨q, a + i, none⟩ := by rw [adr]; rfl
theorem Blk.apart {t t' : TypeId} {cs cs' : List Value} (h : Blk w p t cs) (k : Blk w q t' cs') (hn : t ≠ t') : p ≠ q := fun e => by
  subst e
  have : some (Obj.cells cs.toArray t) = some (Obj.cells cs'.toArray t') := h.symm.trans k
  cases this; exact hn rfl
theorem WG.lt (h : WG w o q X) : q < w.heap.size := by
  obtain ⟨sa, sc, ta, tc, hb, _⟩ := h.mem
  exact hb.lt
theorem WG.step (h : WG w o q X) (s : Step K w o w' o') (hk : ¬ K q) : WG w' o' q X := by
  obtain ⟨⟨sa, sc, ta, tc, hb, h1, h2, h3⟩, tg⟩ := h
  exact ⟨⟨sa, sc, ta, tc, s.blk hb tg hk, h1.step s, h2.step s, h3⟩, by rw [s.own hb.lt]; exact tg⟩
theorem WG.at (h : WG w o q X) {v : Value} {ad : Addr} (ha : ad = ⟨q, i, none⟩) (hv : ∀ sa sc ta tc, (X.V sa sc ta tc)[i]? = some v) : w.cell? ad = some v := by
  obtain ⟨sa, sc, ta, tc, hb, _⟩ := h.mem
  exact hb.celli i ha (hv sa sc ta tc)
theorem WG.can (h : WG w o q X) {ad : Addr} (ha : ad = ⟨q, i, none⟩) (hi : i < 23) : Q07 w ad := by
  obtain ⟨sa, sc, ta, tc, hb, _⟩ := h.mem
  have hl : i < (X.V sa sc ta tc).length := hi
  exact hb.cani i ha (List.getElem?_eq_getElem hl)
theorem V_pub (hi : i < 4) (sa : Option Addr) (sc : Nat) (ta : Option Addr) (tc : Nat) : (X.V sa sc ta tc)[2 + i]? = some (u64V (X.pub i)) := match i, hi with | 0, _ => rfl | 1, _ => rfl | 2, _ => rfl | 3, _ => rfl
theorem V_ring (hi : i < 4) (sa : Option Addr) (sc : Nat) (ta : Option Addr) (tc : Nat) : (X.V sa sc ta tc)[6 + i]? = some (pB (X.rq i)) := match i, hi with | 0, _ => rfl | 1, _ => rfl | 2, _ => rfl | 3, _ => rfl
theorem V_model (hi : i < 4) (sa : Option Addr) (sc : Nat) (ta : Option Addr) (tc : Nat) : (X.V sa sc ta tc)[10 + i]? = some (pB (X.mq i)) := match i, hi with | 0, _ => rfl | 1, _ => rfl | 2, _ => rfl | 3, _ => rfl
theorem V_sec (hi : i < 4) (sa : Option Addr) (sc : Nat) (ta : Option Addr) (tc : Nat) : (X.V sa sc ta tc)[18 + i]? = some (u64V (X.sec i)) := match i, hi with | 0, _ => rfl | 1, _ => rfl | 2, _ => rfl | 3, _ => rfl
theorem S_pub (hi : i < 4) (x : Int) (sa : Option Addr) (sc : Nat) (ta : Option Addr) (tc : Nat) : (X.V sa sc ta tc).set (2 + i) (u64V x) = ({ X with pub := updF X.pub i x } : WD).V sa sc ta tc := match i, hi with | 0, _ => rfl | 1, _ => rfl | 2, _ => rfl | 3, _ => rfl
theorem S_ring (hi : i < 4) (x : Option Nat) (sa : Option Addr) (sc : Nat) (ta : Option Addr) (tc : Nat) : (X.V sa sc ta tc).set (6 + i) (pB x) = ({ X with rq := updF X.rq i x } : WD).V sa sc ta tc := match i, hi with | 0, _ => rfl | 1, _ => rfl | 2, _ => rfl | 3, _ => rfl
theorem S_model (hi : i < 4) (x : Option Nat) (sa : Option Addr) (sc : Nat) (ta : Option Addr) (tc : Nat) : (X.V sa sc ta tc).set (10 + i) (pB x) = ({ X with mq := updF X.mq i x } : WD).V sa sc ta tc := match i, hi with | 0, _ => rfl | 1, _ => rfl | 2, _ => rfl | 3, _ => rfl
theorem S_sec (hi : i < 4) (x : Int) (sa : Option Addr) (sc : Nat) (ta : Option Addr) (tc : Nat) : (X.V sa sc ta tc).set (18 + i) (u64V x) = ({ X with sec := updF X.sec i x } : WD).V sa sc ta tc := match i, hi with | 0, _ => rfl | 1, _ => rfl | 2, _ => rfl | 3, _ => rfl
theorem S_last (x : Int) (sa : Option Addr) (sc : Nat) (ta : Option Addr) (tc : Nat) : (X.V sa sc ta tc).set 22 (.int .u64 x) = ({ X with last := x } : WD).V sa sc ta tc := rfl
theorem WG.set (h : WG w o q X) (ok : Tags w o) {X' : WD} {v : Value} {ad : Addr} (ha : ad = ⟨q, i, none⟩) (hs : X'.sm = X.sm) (ht : X'.tm = X.tm) (hv : ∀ sa sc ta tc, (X.V sa sc ta tc).set i v = X'.V sa sc ta tc) (e : w' = w.setCell ad v) :
    Step (fun j => j = q) w o w' (grow w o) ∧ WG w' (grow w o) q X' := by
  obtain ⟨⟨sa, sc, ta, tc, hb, h1, h2, h3⟩, tg⟩ := h
  have X3 : Ext (fun b => b = q) w w' := (Ext.refl (fun b => b = q) w).x_set (q := q) (i := i) ha (.inl rfl) e
  have s3 : Step (fun j => j = q) w o w' (grow w o) := Step.of_ext X3 ok fun b hb _ => by subst hb; exact tg
  have b3 := hb.seti i ha e
  rw [hv] at b3
  exact ⟨s3, ⟨⟨sa, sc, ta, tc, b3, by rw [hs]; exact h1.step s3, by rw [ht]; exact h2.step s3, by rw [ht]; exact h3⟩, by rw [s3.own hb.lt]; exact tg⟩⟩
theorem WG.setS (h : WG w o q X) (ok : Tags w o) {s : MS} {a : Option Addr} {c : Nat} (hr : Row w o a (s.ml.flatMap Mem.C)) (e1 : w1 = w.setCell (((blk q).add 14).add 0) (.slice a s.ml.length c)) (e2 : w2 = w1.setCell (((blk q).add 14).add 1) (.int .i64 s.ep)) :
    Q07 w1 (((blk q).add 14).add 1) ∧ Step (fun j => j = q) w o w2 (grow w o) ∧ WG w2 (grow w o) q { X with sm := s } := by
  obtain ⟨⟨sa, sc, ta, tc, hb, h1, h2, h3⟩, tg⟩ := h
  have X3 : Ext (fun b => b = q) w w2 := ((Ext.refl (fun b => b = q) w).x_set (q := q) (i := 14) rfl (.inl rfl) e1).x_set (q := q) (i := 15) rfl (.inl rfl) e2
  have s3 : Step (fun j => j = q) w o w2 (grow w o) := Step.of_ext X3 ok fun b hb _ => by subst hb; exact tg
  have b1 := hb.seti 14 rfl e1
  have b3 := b1.seti 15 rfl e2
  exact ⟨b1.cani 15 rfl rfl, s3, ⟨⟨a, c, ta, tc, b3, hr.step s3, h2.step s3, h3⟩, by rw [s3.own hb.lt]; exact tg⟩⟩
theorem WG.setT (h : WG w o q X) (ok : Tags w o) {s : MS} {a : Option Addr} {c : Nat} (hr : Row w o a (s.ml.flatMap Mem.C)) (hcc : s.ml.length ≤ c) (e1 : w1 = w.setCell (((blk q).add 16).add 0) (.slice a s.ml.length c)) (e2 : w2 = w1.setCell (((blk q).add 16).add 1) (.int .i64 s.ep)) :
    Q07 w1 (((blk q).add 16).add 1) ∧ Step (fun j => j = q) w o w2 (grow w o) ∧ WG w2 (grow w o) q { X with tm := s } := by
  obtain ⟨⟨sa, sc, ta, tc, hb, h1, h2, h3⟩, tg⟩ := h
  have X3 : Ext (fun b => b = q) w w2 := ((Ext.refl (fun b => b = q) w).x_set (q := q) (i := 16) rfl (.inl rfl) e1).x_set (q := q) (i := 17) rfl (.inl rfl) e2
  have s3 : Step (fun j => j = q) w o w2 (grow w o) := Step.of_ext X3 ok fun b hb _ => by subst hb; exact tg
  have b1 := hb.seti 16 rfl e1
  have b3 := b1.seti 17 rfl e2
  exact ⟨b1.cani 17 rfl rfl, s3, ⟨⟨sa, sc, a, c, b3, h1.step s3, hr.step s3, hcc⟩, by rw [s3.own hb.lt]; exact tg⟩⟩
theorem WG.s (h : WG w o q X) : ∃ a c, cellsAt w ((blk q).add 14) [.slice a X.sm.ml.length c, .int .i64 X.sm.ep] 0 ∧ Row w o a (X.sm.ml.flatMap Mem.C) := by
  obtain ⟨sa, sc, ta, tc, hb, h1, _⟩ := h.mem
  exact ⟨sa, sc, ⟨hb.celli 14 rfl rfl, hb.celli 15 rfl rfl, trivial⟩, h1⟩
theorem WG.t (h : WG w o q X) : ∃ a c, cellsAt w ((blk q).add 16) [.slice a X.tm.ml.length c, .int .i64 X.tm.ep] 0 ∧ Row w o a (X.tm.ml.flatMap Mem.C) ∧ X.tm.ml.length ≤ c := by
  obtain ⟨sa, sc, ta, tc, hb, _, h1, h2⟩ := h.mem
  exact ⟨ta, tc, ⟨hb.celli 16 rfl rfl, hb.celli 17 rfl rfl, trivial⟩, h1, h2⟩
theorem POrc.typ {S : OS} (h : POrc w o k S) : ∃ cs, Blk w k 117 cs := by
  obtain ⟨g, rfl, h1, _⟩ := h
  obtain ⟨da, dc, hb, _⟩ := h1.st
  exact ⟨_, hb⟩
theorem Rof.typ {S : OS} {n : Nat} (h : Rof w o k S n) : ∃ cs, Blk w k 82 cs := by
  obtain ⟨d, R, ⟨R', _, h1⟩, _⟩ := h.ex
  obtain ⟨da, dc, la, lc, hb, _⟩ := h1.at_
  exact ⟨_, hb⟩
theorem WG.typ (h : WG w o q X) : ∃ cs, Blk w q 48 cs := by
  obtain ⟨sa, sc, ta, tc, hb, _⟩ := h.mem
  exact ⟨_, hb⟩
theorem EG.typ {R : RS} (h : EG w o q k R) : ∃ cs, Blk w q 93 cs := by
  obtain ⟨ka, kc, oa, oc, ol, hb, _⟩ := h.mem
  exact ⟨_, hb⟩
theorem MG.typ {R : RS} (h : MG w o q R) : ∃ cs, Blk w q 85 cs := by
  obtain ⟨ka, kc, oa, oc, ol, hb, _⟩ := h.mem
  exact ⟨_, hb⟩
theorem EG.diff {R R' : RS} {k' q' : Nat} (h : EG w o q k R) (h' : EG w o q' k' R') (hn : R.who ≠ R'.who) : q ≠ q' := fun e => by
  subst e
  have e2 := h.who.symm.trans h'.who
  simp at e2
  exact hn e2
theorem MG.diff {R R' : RS} {q' : Nat} (h : MG w o q R) (h' : MG w o q' R') (hn : R.who ≠ R'.who) : q ≠ q' := fun e => by
  subst e
  have e2 := h.who.symm.trans h'.who
  simp at e2
  exact hn e2
end
structure All (w : World) (o : Own) (q : Nat) (X : WD) (S T : OS) (n : Nat) (R M : Nat → RS) : Prop where
  wd : WG w o q X
  orc : POrc w o X.k S
  rof : Rof w o X.j T n
  ring : ∀ i, i < 4 → ∃ r, X.rq i = some r ∧ EG w o r X.k (R i) ∧ (R i).who = i
  model : ∀ i, i < 4 → ∃ r, X.mq i = some r ∧ MG w o r (M i) ∧ (M i).who = i
section
variable {w w' w1 w2 : World} {o o' o1 : Own} {q k p N m n i : Nat} {K : Nat → Prop} {X : WD} {S T : OS} {R M : Nat → RS}
theorem All.no (h : All w o q X S T n R M) (s : Step no w o w' o') : All w' o' q X S T n R M :=
  ⟨h.wd.step s id, h.orc.step s id, h.rof.step s id, fun i hi => by obtain ⟨r, e, g, hw⟩ := h.ring i hi; exact ⟨r, e, g.step s id, hw⟩, fun i hi => by obtain ⟨r, e, g, hw⟩ := h.model i hi; exact ⟨r, e, g.step s id, hw⟩⟩
theorem All.toOrc (h : All w o q X S T n R M) (s : Step (fun j => j = X.k) w o w' o') {S' : OS} (hP : POrc w' o' X.k S') : All w' o' q X S' T n R M := by
  obtain ⟨_, bk⟩ := h.orc.typ
  refine ⟨h.wd.step s ?_, hP, h.rof.step s ?_, fun i hi => ?_, fun i hi => ?_⟩
  · obtain ⟨_, b⟩ := h.wd.typ; exact Blk.apart b bk (by decide)
  · obtain ⟨_, b⟩ := h.rof.typ; exact Blk.apart b bk (by decide)
  · obtain ⟨r, e, g, hw⟩ := h.ring i hi
    obtain ⟨_, b⟩ := g.typ
    exact ⟨r, e, g.step s (Blk.apart b bk (by decide)), hw⟩
  · obtain ⟨r, e, g, hw⟩ := h.model i hi
    obtain ⟨_, b⟩ := g.typ
    exact ⟨r, e, g.step s (Blk.apart b bk (by decide)), hw⟩
theorem All.toRof (h : All w o q X S T n R M) (s : Step (fun j => j = X.j) w o w' o') {T' : OS} {n' : Nat} (hP : Rof w' o' X.j T' n') : All w' o' q X S T' n' R M := by
  obtain ⟨_, bk⟩ := h.rof.typ
  refine ⟨h.wd.step s ?_, h.orc.step s ?_, hP, fun i hi => ?_, fun i hi => ?_⟩
  · obtain ⟨_, b⟩ := h.wd.typ; exact Blk.apart b bk (by decide)
  · obtain ⟨_, b⟩ := h.orc.typ; exact Blk.apart b bk (by decide)
  · obtain ⟨r, e, g, hw⟩ := h.ring i hi
    obtain ⟨_, b⟩ := g.typ
    exact ⟨r, e, g.step s (Blk.apart b bk (by decide)), hw⟩
  · obtain ⟨r, e, g, hw⟩ := h.model i hi
    obtain ⟨_, b⟩ := g.typ
    exact ⟨r, e, g.step s (Blk.apart b bk (by decide)), hw⟩
theorem All.toWd (h : All w o q X S T n R M) (s : Step (fun j => j = q) w o w' o') {X' : WD} (hk : X'.k = X.k) (hj : X'.j = X.j) (hr : X'.rq = X.rq) (hm : X'.mq = X.mq) (hP : WG w' o' q X') : All w' o' q X' S T n R M := by
  obtain ⟨_, bk⟩ := h.wd.typ
  refine ⟨hP, ?_, ?_, fun i hi => ?_, fun i hi => ?_⟩
  · obtain ⟨_, b⟩ := h.orc.typ; rw [hk]; exact h.orc.step s (Blk.apart b bk (by decide))
  · obtain ⟨_, b⟩ := h.rof.typ; rw [hj]; exact h.rof.step s (Blk.apart b bk (by decide))
  · obtain ⟨r, e, g, hw⟩ := h.ring i hi
    obtain ⟨_, b⟩ := g.typ
    exact ⟨r, by rw [hr]; exact e, by rw [hk]; exact g.step s (Blk.apart b bk (by decide)), hw⟩
  · obtain ⟨r, e, g, hw⟩ := h.model i hi
    obtain ⟨_, b⟩ := g.typ
    exact ⟨r, by rw [hm]; exact e, g.step s (Blk.apart b bk (by decide)), hw⟩
theorem All.toRing (h : All w o q X S T n R M) (hi : i < 4) {r : Nat} (hr : X.rq i = some r) (s : Step (fun j => j = r) w o w' o') {R' : RS} (hw : R'.who = i) (hP : EG w' o' r X.k R') : All w' o' q X S T n (updF R i R') M := by
  obtain ⟨r', e', g', hw'⟩ := h.ring i hi
  rw [hr] at e'; cases e'
  obtain ⟨_, bk⟩ := g'.typ
  refine ⟨h.wd.step s ?_, h.orc.step s ?_, h.rof.step s ?_, fun m hm => ?_, fun m hm => ?_⟩
  · obtain ⟨_, b⟩ := h.wd.typ; exact Blk.apart b bk (by decide)
  · obtain ⟨_, b⟩ := h.orc.typ; exact Blk.apart b bk (by decide)
  · obtain ⟨_, b⟩ := h.rof.typ; exact Blk.apart b bk (by decide)
  · by_cases hmi : m = i
    · subst hmi; exact ⟨r, hr, by rw [Q1c]; exact hP, by rw [Q1c]; exact hw⟩
    · obtain ⟨r2, e, g, hw2⟩ := h.ring m hm
      rw [updF_ne _ _ hmi]
      exact ⟨r2, e, g.step s (g.diff g' (by rw [hw2, hw']; omega)), hw2⟩
  · obtain ⟨r2, e, g, hw2⟩ := h.model m hm
    obtain ⟨_, b⟩ := g.typ
    exact ⟨r2, e, g.step s (Blk.apart b bk (by decide)), hw2⟩
theorem All.toModel (h : All w o q X S T n R M) (hi : i < 4) {r : Nat} (hr : X.mq i = some r) (s : Step (fun j => j = r) w o w' o') {R' : RS} (hw : R'.who = i) (hP : MG w' o' r R') : All w' o' q X S T n R (updF M i R') := by
  obtain ⟨r', e', g', hw'⟩ := h.model i hi
  rw [hr] at e'; cases e'
  obtain ⟨_, bk⟩ := g'.typ
  refine ⟨h.wd.step s ?_, h.orc.step s ?_, h.rof.step s ?_, fun m hm => ?_, fun m hm => ?_⟩
  · obtain ⟨_, b⟩ := h.wd.typ; exact Blk.apart b bk (by decide)
  · obtain ⟨_, b⟩ := h.orc.typ; exact Blk.apart b bk (by decide)
  · obtain ⟨_, b⟩ := h.rof.typ; exact Blk.apart b bk (by decide)
  · obtain ⟨r2, e, g, hw2⟩ := h.ring m hm
    obtain ⟨_, b⟩ := g.typ
    exact ⟨r2, e, g.step s (Blk.apart b bk (by decide)), hw2⟩
  · by_cases hmi : m = i
    · subst hmi; exact ⟨r, hr, by rw [Q1c]; exact hP, by rw [Q1c]; exact hw⟩
    · obtain ⟨r2, e, g, hw2⟩ := h.model m hm
      rw [updF_ne _ _ hmi]
      exact ⟨r2, e, g.step s (g.diff g' (by rw [hw2, hw']; omega)), hw2⟩
end
theorem Q2V (S : OS) : (pairOf S).2.sealed = S.sealed := by
  obtain ⟨c1, c2, c3, c4, c5, c6, c7, c8⟩ := Q0S S
  obtain ⟨d1, d2, d3, d4, d5, d6, d7, d8⟩ := Q0S { (freshOf S).2 with secrets := badd S.secrets (freshOf S).1 }
  show (freshOf { (freshOf S).2 with secrets := badd S.secrets (freshOf S).1 }).2.sealed = _
  rw [d7]; exact c7
theorem Q2M (S : OS) : (pairOf S).2.wrapped = S.wrapped := by
  obtain ⟨c1, c2, c3, c4, c5, c6, c7, c8⟩ := Q0S S
  obtain ⟨d1, d2, d3, d4, d5, d6, d7, d8⟩ := Q0S { (freshOf S).2 with secrets := badd S.secrets (freshOf S).1 }
  show (freshOf { (freshOf S).2 with secrets := badd S.secrets (freshOf S).1 }).2.wrapped = _
  rw [d8]; exact c8
structure NW (w : World) (o : Own) (q : Nat) (X : WD) (S : OS) (n : Nat) (R : Nat → RS) : Prop where
  all : All w o q X S S n R R
  inv : OInv S
  used : S.used.length ≤ n
  pub : ∀ i, i < 4 → alook S.publics (X.pub i) = some (X.sec i)
  secs : ∀ i m, i < 4 → m < 4 → i ≠ m → X.sec i ≠ X.sec m
  sealed : S.sealed = []
  wrapped : S.wrapped = []
  ring : ∀ i, i < 4 → R i = ⟨i, X.sec i, [], []⟩
  sm : X.sm = newM (X.pub 0)
  tm : X.tm = newM (X.pub 0)
  last : X.last = 0
def NI (w0 : World) (o0 : Own) (q k j m : Nat) (vs : List Value) (w : World) : Prop :=
  ∃ (i : Nat) (X : WD) (S : OS) (o : Own), vs = [.int .i64 i] ∧ i ≤ 4 ∧ m = 4 - i ∧ Step no w0 o0 w o ∧ WG w o q X ∧ POrc w o k S ∧ Rof w o j S (2 * i) ∧ X.k = k ∧ X.j = j ∧ X.sm = MS.z ∧ X.tm = MS.z ∧ X.last = 0 ∧ (S.sealed = [] ∧ S.wrapped = []) ∧
    (∀ n, n < i → alook S.publics (X.pub n) = some (X.sec n)) ∧ (∀ n n', n < i → n' < i → n ≠ n' → X.sec n ≠ X.sec n') ∧
    (∀ n, n < i → ∃ r, X.rq n = some r ∧ EG w o r k ⟨n, X.sec n, [], []⟩) ∧ (∀ n, n < i → ∃ r, X.mq n = some r ∧ MG w o r ⟨n, X.sec n, [], []⟩)
section
variable {w w' : World} {o o' : Own}
theorem Q49 (ok : Tags w o) {da : Option Addr} {dc : Nat} {d : List Int} (hd : Row w o da (d.map u64V)) (hc : d.length ≤ dc) (hr : ∀ x ∈ d, 0 ≤ x ∧ x < 18446744073709551616) (hl : d.length ≤ 1000) :
    Calls Try.prog 6 #[.slice da d.length dc] w (fun x w' => ∃ q o' X S R, x = .returned (.pointer (some (blk q))) ∧ Step no w o w' o' ∧ NW w' o' q X S 8 R) := by
  refine (Q0o.go da d.length dc (R := fun v w' => ∃ q o' X S R, v = .pointer (some (blk q)) ∧ Step no w o w' o' ∧ NW w' o' q X S 8 R) ?_).mono fun x w' ⟨v, he, q, o', X, S, R, hv, h⟩ => ⟨q, o', X, S, R, by rw [he, hv], h⟩
  unfold Q0o.N
  refine (NewO ok hd.1 (by omega)).mono fun x w4 ⟨k, o4, he, hk, s4, P4⟩ => ⟨_, he, fun w5 q5 X5 b5 hq5 hq5' => ?_⟩
  obtain ⟨o5, s5, Q5⟩ := Rof.init X5 b5 hq5 hq5' s4.ok (hd.step s4) hc hr
  intro w7 q8 X7 b8 hq8 hq8'
  have s7 : Step no w5 o5 w7 (tag (grow w5 o5) q8 q8) := (Step.of_no X7 s5.ok).tag hq8 hq8'
  have s17 := (s4.trans s5).trans s7
  have e4 := s4.size
  have e5 := s5.size
  refine ⟨NI w o q8 k q5, 4, ⟨0, ⟨k, q5, fun _ => 0, fun _ => none, fun _ => none, MS.z, MS.z, fun _ => 0, 0⟩, OS.init d, _, rfl, by omega, rfl, s17, ⟨⟨none, 0, none, 0, b8, Row.nil _ _ _, Row.nil _ _ _, Nat.le_refl _⟩, Q1n⟩, (P4.step s5 id).step s7 id, Q5.step s7 id, rfl, rfl, rfl, rfl, rfl, ⟨rfl, rfl⟩,
    fun n h => absurd h (Nat.not_lt_zero _), fun n n' h => absurd h (Nat.not_lt_zero _), fun n h => absurd h (Nat.not_lt_zero _), fun n h => absurd h (Nat.not_lt_zero _)⟩, ?_⟩
  rintro m w12 i9 ⟨i, X, S, o12, hv, hi4, rfl, s12, W12, P12, Q12, hk', hj', hsm, htm, hla, hse, hpub, hsec, hrg, hmd⟩
  cases hv
  have hu := Q12.len
  refine ⟨fun hi => ?_, fun hi => ?_⟩
  · have hi : i < 4 := by omega
    refine ⟨_, W12.at (i := 0) rfl fun _ _ _ _ => rfl, ?_⟩
    rw [hk']
    refine (PairO P12 s12.ok Q12.inv.ok (by omega)).mono fun x w19 ⟨o19, he, s19, P19⟩ => ⟨_, _, he, ?_⟩
    obtain ⟨_, bk⟩ := P12.typ
    obtain ⟨_, bj⟩ := Q12.typ
    obtain ⟨_, bq⟩ := W12.typ
    have W19 := W12.step s19 (Blk.apart bq bk (by decide))
    have Q19 := Q12.step s19 (Blk.apart bj bk (by decide))
    have hrg19 : ∀ n, n < i → ∃ r, X.rq n = some r ∧ EG w19 o19 r k ⟨n, X.sec n, [], []⟩ := fun n hn => by
      obtain ⟨r, e, g⟩ := hrg n hn
      obtain ⟨_, b⟩ := g.typ
      exact ⟨r, e, g.step s19 (Blk.apart b bk (by decide))⟩
    have hmd19 : ∀ n, n < i → ∃ r, X.mq n = some r ∧ MG w19 o19 r ⟨n, X.sec n, [], []⟩ := fun n hn => by
      obtain ⟨r, e, g⟩ := hmd n hn
      obtain ⟨_, b⟩ := g.typ
      exact ⟨r, e, g.step s19 (Blk.apart b bk (by decide))⟩
    refine ⟨_, W19.at (i := 1) rfl fun _ _ _ _ => rfl, ?_⟩
    rw [hj']
    refine (Q19.pair (by omega)).mono fun x w25 ⟨o25, he, s25, Q25⟩ => ⟨_, _, he, by omega, by omega, ?_⟩
    obtain ⟨_, bj⟩ := Q19.typ
    obtain ⟨_, bq⟩ := W19.typ
    obtain ⟨_, bk⟩ := P19.typ
    have W25 := W19.step s25 (Blk.apart bq bj (by decide))
    have P25 := P19.step s25 (Blk.apart bk bj (by decide))
    have hrg25 : ∀ n, n < i → ∃ r, X.rq n = some r ∧ EG w25 o25 r k ⟨n, X.sec n, [], []⟩ := fun n hn => by
      obtain ⟨r, e, g⟩ := hrg19 n hn
      obtain ⟨_, b⟩ := g.typ
      exact ⟨r, e, g.step s25 (Blk.apart b bj (by decide))⟩
    have hmd25 : ∀ n, n < i → ∃ r, X.mq n = some r ∧ MG w25 o25 r ⟨n, X.sec n, [], []⟩ := fun n hn => by
      obtain ⟨r, e, g⟩ := hmd19 n hn
      obtain ⟨_, b⟩ := g.typ
      exact ⟨r, e, g.step s25 (Blk.apart b bj (by decide))⟩
    refine ⟨W25.can (adr0 _ _ _) (by omega), Q01 fun w26 e26 => ⟨by omega, by omega, ?_⟩⟩
    obtain ⟨s26, W26⟩ := W25.set s25.ok (adr0 _ _ _) (X' := { X with pub := updF X.pub i (pairOf S).1.2 }) rfl rfl (fun sa sc ta tc => S_pub hi _ sa sc ta tc) e26
    refine ⟨W26.can (adr0 _ _ _) (by omega), Q01 fun w27 e27 => ?_⟩
    obtain ⟨s27, W27⟩ := W26.set s26.ok (adr0 _ _ _) (X' := { X with pub := updF X.pub i (pairOf S).1.2, sec := updF X.sec i (pairOf S).1.1 }) rfl rfl (fun sa sc ta tc => S_sec hi _ sa sc ta tc) e27
    obtain ⟨_, bq⟩ := W25.typ
    obtain ⟨_, bj⟩ := Q25.typ
    obtain ⟨_, bk⟩ := P25.typ
    have s2527 := s26.trans s27
    have hkq := Blk.apart bk bq (by decide)
    have hjq := Blk.apart bj bq (by decide)
    have P27 := P25.step s2527 hkq
    have Q27 := Q25.step s2527 hjq
    refine ⟨_, W27.at (i := 0) rfl fun _ _ _ _ => rfl, ?_⟩
    show Calls _ _ #[.pointer (some (blk X.k)), _, _] _ _
    rw [hk']
    refine (Q36 s27.ok (by omega) (by omega) k).mono fun x w33 ⟨r, o33, he, hr33, s33, E33⟩ => ⟨_, _, he, fun hn => absurd rfl hn, fun _ => ⟨fun hn => (by cases hn), fun _ => ⟨by omega, by omega, ?_⟩⟩⟩
    have W33 := W27.step s33 id
    refine ⟨W33.can (adr0 _ _ _) (by omega), Q01 fun w36 e36 => ?_⟩
    obtain ⟨s36, W36⟩ := W33.set s33.ok (adr0 _ _ _) (X' := { X with pub := updF X.pub i (pairOf S).1.2, sec := updF X.sec i (pairOf S).1.1, rq := updF X.rq i (some r) }) rfl rfl (fun sa sc ta tc => S_ring hi (some r) sa sc ta tc) e36
    intro w37 q38 X37 b38 hq38 hq38'
    obtain ⟨s37, M37⟩ := MG.init s36.ok X37 b38 hq38 hq38'
    have W37 := W36.step s37 id
    refine ⟨by omega, by omega, W37.can (adr0 _ _ _) (by omega), Q01 fun w39 e39 => ⟨by omega, by omega, 4 - (i + 1), by omega, ?_⟩⟩
    obtain ⟨s39, W39⟩ := W37.set s37.ok (adr0 _ _ _) (X' := { X with pub := updF X.pub i (pairOf S).1.2, sec := updF X.sec i (pairOf S).1.1, rq := updF X.rq i (some r), mq := updF X.mq i (some q38) }) rfl rfl (fun sa sc ta tc => S_model hi (some q38) sa sc ta tc) e39
    have hEq : r ≠ q8 := by
      obtain ⟨_, b⟩ := E33.typ
      obtain ⟨_, b2⟩ := W33.typ
      exact Blk.apart b b2 (by decide)
    have hMq : q38 ≠ q8 := by
      obtain ⟨_, b⟩ := M37.typ
      obtain ⟨_, b2⟩ := W37.typ
      exact Blk.apart b b2 (by decide)
    have E39 : EG w39 _ r k ⟨i, (pairOf S).1.1, [], []⟩ := ((E33.step s36 hEq).step s37 id).step s39 hEq
    have M39 := M37.step s39 hMq
    have P39 := ((P27.step s33 id).step s36 hkq).step s37 id |>.step s39 hkq
    have Q39 := ((Q27.step s33 id).step s36 hjq).step s37 id |>.step s39 hjq
    have i7 := s12.size
    have i8 : w.heap.size ≤ k := hk
    have i9 : w.heap.size ≤ q5 := by omega
    have i10 : w.heap.size ≤ q8 := by omega
    have sAll : Step no w o w39 _ := (((((s12.trans' s19 fun a ha => .inr (by rw [ha]; exact i8)).trans' s25 fun a ha => .inr (by rw [ha]; exact i9)).trans' s2527 fun a ha => .inr (by rw [ha]; exact i10)).trans s33).trans' s36 fun a ha => .inr (by rw [ha]; exact i10)).trans s37 |>.trans' s39 fun a ha => .inr (by rw [ha]; exact i10)
    obtain ⟨p1, p2, p3, p4, p5, p6, _⟩ := Q44 Q12.inv
    refine ⟨i + 1, _, (pairOf S).2, _, rfl, by omega, rfl, sAll, W39, P39, Q39, hk', hj', hsm, htm, hla, ⟨by rw [Q2V]; exact hse.1, by rw [Q2M]; exact hse.2⟩, fun n hn => ?_, fun n n' hn hn' hnn => ?_, fun n hn => ?_, fun n hn => ?_⟩
    · by_cases hni : n = i
      · subst hni
        show alook _ (updF _ _ _ _) = some (updF _ _ _ _)
        rw [Q1c, Q1c]; exact p3
      · show alook _ (updF _ _ _ _) = some (updF _ _ _ _)
        rw [updF_ne _ _ hni, updF_ne _ _ hni]; exact p2.publics _ _ (hpub n (by omega))
    · show updF _ _ _ _ ≠ updF _ _ _ _
      have hin : ∀ m, m < i → X.sec m ≠ (pairOf S).1.1 := fun m hm e => p6 (by rw [← e]; exact Q12.inv.ps _ _ (hpub m hm))
      by_cases hni : n = i
      · subst hni
        rw [Q1c, updF_ne _ _ (Ne.symm hnn)]
        exact fun e => hin n' (by omega) e.symm
      · by_cases hni' : n' = i
        · subst hni'
          rw [Q1c, updF_ne _ _ hni]
          exact hin n (by omega)
        · rw [updF_ne _ _ hni, updF_ne _ _ hni']
          exact hsec n n' (by omega) (by omega) hnn
    · by_cases hni : n = i
      · subst hni
        refine ⟨r, Q1c _ _ _, ?_⟩
        show EG _ _ _ _ ⟨_, updF _ _ _ _, _, _⟩
        rw [Q1c]; exact E39
      · obtain ⟨r', e', g'⟩ := hrg25 n (by omega)
        refine ⟨r', by show updF _ _ _ _ = _; rw [updF_ne _ _ hni]; exact e', ?_⟩
        show EG _ _ _ _ ⟨_, updF _ _ _ _, _, _⟩
        rw [updF_ne _ _ hni]
        obtain ⟨_, b⟩ := g'.typ
        have hn8 : r' ≠ q8 := Blk.apart b bq (by decide)
        exact ((((g'.step s2527 hn8).step s33 id).step s36 hn8).step s37 id).step s39 hn8
    · by_cases hni : n = i
      · subst hni
        refine ⟨q38, Q1c _ _ _, ?_⟩
        show MG _ _ _ ⟨_, updF _ _ _ _, _, _⟩
        rw [Q1c]; exact M39
      · obtain ⟨r', e', g'⟩ := hmd25 n (by omega)
        refine ⟨r', by show updF _ _ _ _ = _; rw [updF_ne _ _ hni]; exact e', ?_⟩
        show MG _ _ _ ⟨_, updF _ _ _ _, _, _⟩
        rw [updF_ne _ _ hni]
        obtain ⟨_, b⟩ := g'.typ
        have hn8 : r' ≠ q8 := Blk.apart b bq (by decide)
        exact ((((g'.step s2527 hn8).step s33 id).step s36 hn8).step s37 id).step s39 hn8
  · have hi : i = 4 := by omega
    subst hi
    refine ⟨_, W12.at (i := 2) rfl fun _ _ _ _ => rfl, (Q4o s12.ok _).mono fun x w46 ⟨o46, a46, c46, he, s46, r46, hc46⟩ => ⟨_, _, _, _, he, ?_⟩⟩
    have W46 := W12.step s46 id
    refine ⟨W46.can (i := 14) rfl (by omega), Q01 fun w47 e47 => ?_⟩
    refine ⟨(W46.setS s46.ok r46 e47 rfl).1, Q01 fun w48 e48 => ?_⟩
    obtain ⟨_, s48, W48⟩ := W46.setS s46.ok r46 e47 e48
    refine ⟨_, W48.at (i := 2) rfl fun _ _ _ _ => rfl, (Q5K s48.ok _).mono fun x w54 ⟨o54, a54, c54, he, s54, r54, hc54⟩ => ⟨_, _, _, _, he, ?_⟩⟩
    have W54 := W48.step s54 id
    refine ⟨W54.can (i := 16) rfl (by omega), Q01 fun w55 e55 => ?_⟩
    refine ⟨(W54.setT s54.ok r54 hc54 e55 rfl).1, Q01 fun w56 e56 => ?_⟩
    obtain ⟨_, s56, W56⟩ := W54.setT s54.ok r54 hc54 e55 e56
    have i10 : w.heap.size ≤ q8 := by omega
    have sAll : Step no w o w56 _ := (((s12.trans s46).trans' s48 fun a ha => .inr (by rw [ha]; exact i10)).trans s54).trans' s56 fun a ha => .inr (by rw [ha]; exact i10)
    have A12 : All w12 o12 q8 X S S 8 (fun i => ⟨i, X.sec i, [], []⟩) (fun i => ⟨i, X.sec i, [], []⟩) :=
      ⟨W12, by rw [hk']; exact P12, by rw [hj']; exact Q12, fun n hn => by obtain ⟨r, e, g⟩ := hrg n hn; exact ⟨r, e, by rw [hk']; exact g, rfl⟩, fun n hn => by obtain ⟨r, e, g⟩ := hmd n hn; exact ⟨r, e, g, rfl⟩⟩
    have A48 := (A12.no s46).toWd s48 (X' := { X with sm := newM (X.pub 0) }) rfl rfl rfl rfl W48
    have A56 := (A48.no s54).toWd s56 (X' := { X with sm := newM (X.pub 0), tm := newM (X.pub 0) }) rfl rfl rfl rfl W56
    exact ⟨q8, _, _, S, _, rfl, sAll, A56, Q12.inv, by omega, hpub, hsec, hse.1, hse.2, fun n hn => rfl, rfl, rfl, hla⟩
end
def doTail (q : Nat) (kd who pub : Int) (p49 p50 : Nat) (La : Option Addr) (Ln Lc : Nat) (E1 ap : Int) (R : RW) (ww76 : World) : Prop :=
  ∃ (tL52a : Option Addr) (tL52n tL52c : Nat) (tEpoch53 : Int), cellsAt ww76 ((blk q).add 16) [.slice tL52a tL52n tL52c, .int .i64 tEpoch53] 0 ∧
  ∀ (ww55 : World) (L54 : List Nat), Ext no ww76 ww55 → Priv ww76 ww55 L54 →
  Calls Try.prog 14 #[.agg #[.slice tL52a tL52n tL52c, .int .i64 tEpoch53], .agg #[.int .i64 kd, .int .i64 who, .int .u64 pub, .int .i64 0, .slice none 0 0, .slice none 0 0]] ww55 fun ee59 ww60 => ∃ (L56a : Option Addr) (L56n L56c : Nat) (Epoch57 apply58 : Int), ee59 = .returned (.tuple #[.agg #[.slice L56a L56n L56c, .int .i64 Epoch57], .int .i64 apply58]) ∧
  Keep L54 ww55 ww60 ∧
  Keep [p49, p50] ww55 ww60 ∧
  (ap ≠ apply58 →
    ∀ (ww66 : World), Ext (fun b => b ∈ L54) ww60 ww66 →
    R (.bool false) ww66) ∧
  (ap = apply58 →
    (apply58 = 0 →
      ∀ (ww73 : World) (p68 : Nat), Ext (fun b => b ∈ L54) ww60 ww73 → PrivJ L54 ww60 ww73 [p68] →
      Q07 ww73 (((blk q).add 14).add 0) ∧
      (∀ p ∈ [p49, p68], p ≠ Addr.block ((blk q).add 14)) ∧
      thenW (ww73.setCell (((blk q).add 14).add 0) (.slice La Ln Lc)) fun ww69 =>
      Q07 ww69 (((blk q).add 14).add 1) ∧
      thenW (ww69.setCell (((blk q).add 14).add 1) (.int .i64 E1)) fun ww70 =>
      Q07 ww70 (((blk q).add 16).add 0) ∧
      (∀ p ∈ [p49], p ≠ Addr.block ((blk q).add 16)) ∧
      thenW (ww70.setCell (((blk q).add 16).add 0) (.slice L56a L56n L56c)) fun ww71 =>
      Q07 ww71 (((blk q).add 16).add 1) ∧
      thenW (ww71.setCell (((blk q).add 16).add 1) (.int .i64 Epoch57)) fun ww72 =>
      R (.bool true) ww72) ∧
    (apply58 ≠ 0 →
      ∀ (ww75 : World), Ext (fun b => b ∈ L54) ww60 ww75 →
      R (.bool true) ww75))
def doBody (q : Nat) (kd who pub : Int) (R : RW) (w : World) : Prop :=
  ∃ (sL24a : Option Addr) (sL24n sL24c : Nat) (sEpoch25 : Int), cellsAt w ((blk q).add 14) [.slice sL24a sL24n sL24c, .int .i64 sEpoch25] 0 ∧
  (∀ (ww27 : World) (L26 : List Nat), Ext no w ww27 → Priv w ww27 L26 →
  Calls Try.prog 26 #[.agg #[.int .i64 kd, .int .i64 who, .int .u64 pub, .int .i64 0, .slice none 0 0, .slice none 0 0]] ww27 fun ee34 ww35 => ∃ (Kind28 Who29 Public30 Limit31 : Int) (Wraps32a : Option Addr) (Wraps32n Wraps32c : Nat) (Old33a : Option Addr) (Old33n Old33c : Nat), ee34 = .returned (.agg #[.int .i64 Kind28, .int .i64 Who29, .int .u64 Public30, .int .i64 Limit31, .slice Wraps32a Wraps32n Wraps32c, .slice Old33a Old33n Old33c]) ∧
  Keep L26 ww27 ww35 ∧
  cellsAt ww35 ((blk q).add 14) [.slice sL24a sL24n sL24c, .int .i64 sEpoch25] 0 ∧
  (∀ (ww38 : World) (L37 : List Nat), Ext (fun b => b ∈ L26) ww35 ww38 → PrivJ L26 ww35 ww38 L37 →
  Calls Try.prog 10 #[.agg #[.slice sL24a sL24n sL24c, .int .i64 sEpoch25], .agg #[.int .i64 Kind28, .int .i64 Who29, .int .u64 Public30, .int .i64 Limit31, .slice Wraps32a Wraps32n Wraps32c, .slice Old33a Old33n Old33c]] ww38 fun ee42 ww43 => ∃ (L39a : Option Addr) (L39n L39c : Nat) (Epoch40 apply41 : Int), ee42 = .returned (.tuple #[.agg #[.slice L39a L39n L39c, .int .i64 Epoch40], .int .i64 apply41]) ∧
  Keep L37 ww38 ww43 ∧
  ∀ (ww76 : World) (p49 p50 : Nat), Ext (fun b => b ∈ L37) ww43 ww76 → PrivJ L37 ww43 ww76 [p49, p50] →
  doTail q kd who pub p49 p50 L39a L39n L39c Epoch40 apply41 R ww76) ∧
  (∀ (ww78 : World) (p39 p40 : Nat), Ext (fun b => b ∈ L26) ww35 ww78 → PrivJ L26 ww35 ww78 [p39, p40] →
  cellsAt ww78 ((blk q).add 14) [.slice sL24a sL24n sL24c, .int .i64 sEpoch25] 0 ∧
  ∀ (ww43 : World) (L42 : List Nat), Ext no ww78 ww43 → Priv ww78 ww43 L42 →
  Calls Try.prog 10 #[.agg #[.slice sL24a sL24n sL24c, .int .i64 sEpoch25], .agg #[.int .i64 Kind28, .int .i64 Who29, .int .u64 Public30, .int .i64 Limit31, .slice Wraps32a Wraps32n Wraps32c, .slice Old33a Old33n Old33c]] ww43 fun ee47 ww48 => ∃ (L44a : Option Addr) (L44n L44c : Nat) (Epoch45 apply46 : Int), ee47 = .returned (.tuple #[.agg #[.slice L44a L44n L44c, .int .i64 Epoch45], .int .i64 apply46]) ∧
  Keep L42 ww43 ww48 ∧
  Keep [p39, p40] ww43 ww48 ∧
  ∀ (ww77 : World), Ext (fun b => b ∈ L42) ww48 ww77 →
  ∀ (ww51 : World), Ext (fun b => b = p40) ww77 ww51 →
  doTail q kd who pub p39 p40 L44a L44n L44c Epoch45 apply46 R ww51)) ∧
  (∀ (ww28 : World) (L27 : List Nat), Ext no w ww28 → Priv w ww28 L27 →
  Calls Try.prog 26 #[.agg #[.int .i64 kd, .int .i64 who, .int .u64 pub, .int .i64 0, .slice none 0 0, .slice none 0 0]] ww28 fun ee35 ww36 => ∃ (Kind29 Who30 Public31 Limit32 : Int) (Wraps33a : Option Addr) (Wraps33n Wraps33c : Nat) (Old34a : Option Addr) (Old34n Old34c : Nat), ee35 = .returned (.agg #[.int .i64 Kind29, .int .i64 Who30, .int .u64 Public31, .int .i64 Limit32, .slice Wraps33a Wraps33n Wraps33c, .slice Old34a Old34n Old34c]) ∧
  Keep L27 ww28 ww36 ∧
  cellsAt ww36 ((blk q).add 14) [.slice sL24a sL24n sL24c, .int .i64 sEpoch25] 0 ∧
  ∀ (ww39 : World) (L38 : List Nat), Ext (fun b => b ∈ L27) ww36 ww39 → PrivJ L27 ww36 ww39 L38 →
  Calls Try.prog 10 #[.agg #[.slice sL24a sL24n sL24c, .int .i64 sEpoch25], .agg #[.int .i64 Kind29, .int .i64 Who30, .int .u64 Public31, .int .i64 Limit32, .slice Wraps33a Wraps33n Wraps33c, .slice Old34a Old34n Old34c]] ww39 fun ee43 ww44 => ∃ (L40a : Option Addr) (L40n L40c : Nat) (Epoch41 apply42 : Int), ee43 = .returned (.tuple #[.agg #[.slice L40a L40n L40c, .int .i64 Epoch41], .int .i64 apply42]) ∧
  Keep L38 ww39 ww44 ∧
  ∀ (ww76 : World) (p49 p50 : Nat), Ext (fun b => b ∈ L38) ww44 ww76 → PrivJ L38 ww44 ww76 [p49, p50] →
  doTail q kd who pub p49 p50 L40a L40n L40c Epoch41 apply42 R ww76)
def doX (X : WD) (c : Chg) : WD := if (applyM X.sm c).2 = 0 then { X with sm := (applyM X.sm c).1, tm := (applyM X.sm c).1 } else X
structure Under (q : Nat) (X : WD) (N : Nat) : Prop where
  q : q < N
  k : X.k < N
  j : X.j < N
  r : ∀ i, i < 4 → ∀ r, X.rq i = some r → r < N
  m : ∀ i, i < 4 → ∀ r, X.mq i = some r → r < N
section
variable {w w' w1 w2 : World} {o o' o1 : Own} {q k p N m n i : Nat} {K : Nat → Prop} {X : WD} {S T : OS} {R M : Nat → RS}
theorem Step.anyK (h : Step no w o w' o') : Step K w o w' o' := h.mono fun _ h _ => h.elim
theorem All.under (h : All w o q X S T n R M) : Under q X w.heap.size :=
  ⟨h.wd.lt, h.orc.lt, h.rof.lt, fun i hi r hr => by obtain ⟨r', e, g, _⟩ := h.ring i hi; rw [hr] at e; cases e; exact g.lt, fun i hi r hr => by obtain ⟨r', e, g, _⟩ := h.model i hi; rw [hr] at e; cases e; exact g.lt⟩
theorem All.far (h : All w o q X S T n R M) (u : Under q X N) (s : Step K w o w' o') (hk : ∀ j, K j → N ≤ j) : All w' o' q X S T n R M :=
  ⟨h.wd.step s fun e => by have := hk _ e; have := u.q; omega, h.orc.step s fun e => by have := hk _ e; have := u.k; omega, h.rof.step s fun e => by have := hk _ e; have := u.j; omega,
   fun i hi => by obtain ⟨r, e, g, hw⟩ := h.ring i hi; exact ⟨r, e, g.step s fun e' => by have := hk _ e'; have := u.r i hi r e; omega, hw⟩,
   fun i hi => by obtain ⟨r, e, g, hw⟩ := h.model i hi; exact ⟨r, e, g.step s fun e' => by have := hk _ e'; have := u.m i hi r e; omega, hw⟩⟩
theorem WG.cells (h : WG w o q X) (s : Step K w o w' o') (hk : ¬ K q) {cs : List Value} {d : Nat} (hc : cellsAt w ((blk q).add d) cs 0) : cellsAt w' ((blk q).add d) cs 0 :=
  Q33 s.ext (fun hm => by
    obtain ⟨k, e, hk'⟩ : ∃ k, o ((blk q).add d).block = some k ∧ K k := hm
    have e2 : ((blk q).add d).block = q := by unfold blk Addr.add; split <;> rfl
    rw [e2, h.tg] at e; cases e; exact hk hk') hc
theorem Q32 (A : All w o q X S T n R M) (ok : Tags w o) (u : Under q X N) {p1 p2 : Nat} (hM : Mine [p1, p2] w o) (h1 : N ≤ p1) (h2 : N ≤ p2) (hN : N ≤ w.heap.size) (hst : X.tm = X.sm) (hs : X.sm.ok) {kd who pub : Int} {La : Option Addr} {Lc : Nat}
    (hrow : Row w o La ((applyM X.sm ⟨kd, who, pub, 0, [], []⟩).1.ml.flatMap Mem.C)) {Φ : RW}
    (hR : ∀ w' o', Step (fun j => j = q ∨ N ≤ j) w o w' o' → All w' o' q (doX X ⟨kd, who, pub, 0, [], []⟩) S T n R M → Φ (.bool true) w') :
    doTail q kd who pub p1 p2 La (applyM X.sm ⟨kd, who, pub, 0, [], []⟩).1.ml.length Lc (applyM X.sm ⟨kd, who, pub, 0, [], []⟩).1.ep (applyM X.sm ⟨kd, who, pub, 0, [], []⟩).2 Φ w := by
  obtain ⟨ta, tc, hct, htr, htc⟩ := A.wd.t
  unfold doTail
  refine ⟨ta, _, tc, _, hct, fun w55 L54 X55 hp55 => ?_⟩
  obtain ⟨s55, M55⟩ := Step.priv X55 hp55 ok
  have A55 := A.no s55
  refine (Q38 (cg := ⟨kd, who, pub, 0, [], []⟩) (l := []) (wa := none) (wc := 0) (oa := none) (oc := 0) (htr.step s55) s55.ok (by rw [hst]; exact hs) htc (Row.nil _ _ _) rfl (by decide) (show (0 : Nat) < 1000000 by decide)).mono fun x w60 ⟨o60, a60, c60, he, s60, r60, hc60⟩ => ?_
  rw [hst] at he r60 hc60
  refine ⟨_, _, _, _, _, he, M55.keep s60 (fun _ _ => id), ((hM.step s55).keep s60 fun _ _ => id), fun hn => absurd rfl hn, fun _ => ⟨fun h0 w73 p68 X73 hp73 => ?_, fun hn w75 X75 => ?_⟩⟩
  · have A60 := A55.no s60
    obtain ⟨s73, M73⟩ := Step.join X73 s60.ok (M55.step s60) hp73
    have hL : ∀ j, j ∈ L54 → N ≤ j := fun j hj => by have := (hp55 j hj).1; omega
    have A73 := A60.far u s73 hL
    have r73 := r60.step s73
    have h68 : N ≤ p68 := by
      rcases (hp73 p68 (by simp)).1 with h | h
      · exact hL _ h
      · have := s55.size; have := s60.size; omega
    have hqN := u.q
    have hb : Addr.block ((blk q).add 14) = q := rfl
    have hb2 : Addr.block ((blk q).add 16) = q := rfl
    refine ⟨A73.wd.can (i := 14) rfl (by omega), fun p hp e => ?_, Q01 fun w69 e69 => ?_⟩
    · rw [hb] at e; subst e
      simp at hp
      omega
    have hrow73 := ((hrow.step s55).step s60).step s73
    refine ⟨(A73.wd.setS s73.ok hrow73 e69 rfl).1, Q01 fun w70 e70 => ?_⟩
    obtain ⟨_, s70, W70⟩ := A73.wd.setS s73.ok hrow73 e69 e70
    have A70 := A73.toWd s70 (X' := { X with sm := (applyM X.sm ⟨kd, who, pub, 0, [], []⟩).1 }) rfl rfl rfl rfl W70
    have r70 := r73.step s70
    refine ⟨A70.wd.can (i := 16) rfl (by omega), fun p hp e => ?_, Q01 fun w71 e71 => ?_⟩
    · rw [hb2] at e; subst e
      simp at hp
      omega
    refine ⟨(A70.wd.setT s70.ok r70 hc60 e71 rfl).1, Q01 fun w72 e72 => ?_⟩
    obtain ⟨_, s72, W72⟩ := A70.wd.setT s70.ok r70 hc60 e71 e72
    have A72 := A70.toWd s72 (X' := { X with sm := (applyM X.sm ⟨kd, who, pub, 0, [], []⟩).1, tm := (applyM X.sm ⟨kd, who, pub, 0, [], []⟩).1 }) rfl rfl rfl rfl W72
    refine hR w72 _ (((((Step.anyK (K := fun j => j = q ∨ N ≤ j) s55).trans' s60 fun j h => h.elim).trans' s73 fun j h => .inl (.inr (hL j h))).trans' s70 fun j h => .inl (.inl h)).trans' s72 fun j h => .inl (.inl h)) ?_
    unfold doX
    rw [if_pos h0]
    exact A72
  · have hL : ∀ j, j ∈ L54 → N ≤ j := fun j hj => by have := (hp55 j hj).1; omega
    have A60 := A55.no s60
    have s75 := Step.joins X75 s60.ok (M55.step s60)
    refine hR w75 _ (((Step.anyK (K := fun j => j = q ∨ N ≤ j) s55).trans' s60 fun j h => h.elim).trans' s75 fun j h => .inl (.inr (hL j h))) ?_
    unfold doX
    rw [if_neg hn]
    exact A60.far u s75 hL
theorem Q4k (A : All w o q X S T n R M) (ok : Tags w o) (hst : X.tm = X.sm) (hs : X.sm.ok) {kd who pub : Int} {Φ : RW}
    (hR : ∀ w' o', Step (fun j => j = q) w o w' o' → All w' o' q (doX X ⟨kd, who, pub, 0, [], []⟩) S T n R M → Φ (.bool true) w') : doBody q kd who pub Φ w := by
  have u := A.under
  have hqN := u.q
  obtain ⟨sa, sc, hcs, hsr⟩ := A.wd.s
  unfold doBody
  have fin : ∀ {w1 : World} {o1 : Own}, Step (fun j => w.heap.size ≤ j) w o w1 o1 → ∀ w' o', Step (fun j => j = q ∨ w.heap.size ≤ j) w1 o1 w' o' → All w' o' q (doX X ⟨kd, who, pub, 0, [], []⟩) S T n R M → Φ (.bool true) w' := fun s1 w' o' s2 A2 =>
    hR w' o' (((s1.mono (K1 := fun j => j = q) fun j h1 h2 => by omega).trans' s2 fun j h => h.elim (fun e => .inl e) fun e => .inr e)) A2
  refine ⟨sa, _, sc, _, hcs, fun w27 L26 X27 hp27 => ?_, fun w28 L27 X28 hp28 => ?_⟩
  · obtain ⟨s27, M27⟩ := Step.priv X27 hp27 ok
    have A27 := A.no s27
    have hL : ∀ j, j ∈ L26 → w.heap.size ≤ j := fun j hj => (hp27 j hj).1
    refine (Q2p (cg := ⟨kd, who, pub, 0, [], []⟩) (l := []) (wa := none) (wc := 0) (oa := none) (oc := 0) s27.ok (Row.nil _ _ _) rfl (by decide)).mono fun x w35 ⟨o35, wa, wc, he, s35, r35, hwc⟩ => ⟨_, _, _, _, _, _, _, _, _, _, he, M27.keep s35 (fun _ _ => id), A27.wd.cells s35 id (A.wd.cells s27 id hcs), fun w38 L37 X38 hp38 => ?_, fun w78 p39 p40 X78 hp78 => ?_⟩
    · obtain ⟨s38, M38⟩ := Step.join X38 s35.ok (M27.step s35) hp38
      have A38 := (A27.no s35).far u s38 hL
      have hL37 : ∀ j, j ∈ L37 → w.heap.size ≤ j := fun j hj => by
        rcases (hp38 j hj).1 with h | h
        · exact hL _ h
        · have := s27.size; have := s35.size; omega
      refine (Q1s (cg := ⟨kd, who, pub, 0, [], []⟩) (l := []) (((hsr.step s27).step s35).step s38) s38.ok hs (Row.nil _ _ _) rfl (by decide) (show (0 : Nat) < 1000000 by decide)).mono fun x w43 ⟨o43, a43, c43, he, s43, r43, hc43⟩ => ⟨_, _, _, _, _, he, M38.keep s43 (fun _ _ => id), fun w76 p49 p50 X76 hp76 => ?_⟩
      obtain ⟨s76, M76⟩ := Step.join X76 s43.ok (M38.step s43) hp76
      have A76 := (A38.no s43).far u s76 hL37
      have hge : ∀ p, p ∈ [p49, p50] → w.heap.size ≤ p := fun p hp => by
        rcases (hp76 p hp).1 with h | h
        · exact hL37 _ h
        · have := s27.size; have := s35.size; have := s38.size; have := s43.size; omega
      exact Q32 A76 s76.ok u M76 (hge _ (by simp)) (hge _ (by simp)) (by have := s27.size; have := s35.size; have := s38.size; have := s43.size; have := s76.size; omega) hst hs (r43.step s76)
        (fin ((((Step.anyK (K := fun j => w.heap.size ≤ j) s27).trans' s35 fun j h => h.elim).trans' s38 fun j h => .inl (hL j h)).trans' s43 (fun j h => h.elim) |>.trans' s76 fun j h => .inl (hL37 j h)))
    · obtain ⟨s78, M78⟩ := Step.join X78 s35.ok (M27.step s35) hp78
      have A78 := (A27.no s35).far u s78 hL
      have hge : ∀ p, p ∈ [p39, p40] → w.heap.size ≤ p := fun p hp => by
        rcases (hp78 p hp).1 with h | h
        · exact hL _ h
        · have := s27.size; have := s35.size; omega
      refine ⟨(A27.no s35).wd.cells s78 (fun h => by have := hL _ h; omega) (A27.wd.cells s35 id (A.wd.cells s27 id hcs)), fun w43 L42 X43 hp43 => ?_⟩
      obtain ⟨s43, M43⟩ := Step.priv X43 hp43 s78.ok
      have hL42 : ∀ j, j ∈ L42 → w.heap.size ≤ j := fun j hj => by have := (hp43 j hj).1; have := s27.size; have := s35.size; have := s78.size; omega
      refine (Q1s (cg := ⟨kd, who, pub, 0, [], []⟩) (l := []) ((((hsr.step s27).step s35).step s78).step s43) s43.ok hs (Row.nil _ _ _) rfl (by decide) (show (0 : Nat) < 1000000 by decide)).mono fun x w48 ⟨o48, a48, c48, he, s48, r48, hc48⟩ => ⟨_, _, _, _, _, he, M43.keep s48 (fun _ _ => id), (M78.step s43).keep s48 (fun _ _ => id), fun w77 X77 w51 X51 => ?_⟩
      have s77 := Step.joins X77 s48.ok (M43.step s48)
      have M77 := (((M78.step s43).step s48).step s77)
      have s51 : Step (fun j => j ∈ [p40]) w77 _ w51 _ := Step.stores X51 s77.ok (M77.sub (M := [p40]) (by simp)) (fun b hb => by simp [hb])
      have A51 := (((A78.no s43).no s48).far u s77 hL42).far u s51 (fun j hj => hge j (by simp at hj; simp [hj]))
      exact Q32 A51 s51.ok u (M77.step s51) (hge _ (by simp)) (hge _ (by simp)) (by have := s27.size; have := s35.size; have := s78.size; have := s43.size; have := s48.size; have := s77.size; have := s51.size; omega) hst hs ((r48.step s77).step s51)
        (fin (((((((Step.anyK (K := fun j => w.heap.size ≤ j) s27).trans' s35 fun j h => h.elim).trans' s78 fun j h => .inl (hL j h)).trans' s43 (fun j h => h.elim)).trans' s48 (fun j h => h.elim)).trans' s77 fun j h => .inl (hL42 j h)).trans' s51 fun j hj => .inl (hge j (by simp at hj; simp [hj]))))
  · obtain ⟨s28, M28⟩ := Step.priv X28 hp28 ok
    have A28 := A.no s28
    have hL : ∀ j, j ∈ L27 → w.heap.size ≤ j := fun j hj => (hp28 j hj).1
    refine (Q2p (cg := ⟨kd, who, pub, 0, [], []⟩) (l := []) (wa := none) (wc := 0) (oa := none) (oc := 0) s28.ok (Row.nil _ _ _) rfl (by decide)).mono fun x w36 ⟨o36, wa, wc, he, s36, r36, hwc⟩ => ⟨_, _, _, _, _, _, _, _, _, _, he, M28.keep s36 (fun _ _ => id), A28.wd.cells s36 id (A.wd.cells s28 id hcs), fun w39 L38 X39 hp39 => ?_⟩
    obtain ⟨s39, M39⟩ := Step.join X39 s36.ok (M28.step s36) hp39
    have A39 := (A28.no s36).far u s39 hL
    have hL38 : ∀ j, j ∈ L38 → w.heap.size ≤ j := fun j hj => by
      rcases (hp39 j hj).1 with h | h
      · exact hL _ h
      · have := s28.size; have := s36.size; omega
    refine (Q1s (cg := ⟨kd, who, pub, 0, [], []⟩) (l := []) (((hsr.step s28).step s36).step s39) s39.ok hs (Row.nil _ _ _) rfl (by decide) (show (0 : Nat) < 1000000 by decide)).mono fun x w44 ⟨o44, a44, c44, he, s44, r44, hc44⟩ => ⟨_, _, _, _, _, he, M39.keep s44 (fun _ _ => id), fun w76 p49 p50 X76 hp76 => ?_⟩
    obtain ⟨s76, M76⟩ := Step.join X76 s44.ok (M39.step s44) hp76
    have A76 := (A39.no s44).far u s76 hL38
    have hge : ∀ p, p ∈ [p49, p50] → w.heap.size ≤ p := fun p hp => by
      rcases (hp76 p hp).1 with h | h
      · exact hL38 _ h
      · have := s28.size; have := s36.size; have := s39.size; have := s44.size; omega
    exact Q32 A76 s76.ok u M76 (hge _ (by simp)) (hge _ (by simp)) (by have := s28.size; have := s36.size; have := s39.size; have := s44.size; have := s76.size; omega) hst hs (r44.step s76)
      (fin ((((Step.anyK (K := fun j => w.heap.size ≤ j) s28).trans' s36 fun j h => h.elim).trans' s39 fun j h => .inl (hL j h)).trans' s44 (fun j h => h.elim) |>.trans' s76 fun j h => .inl (hL38 j h)))
theorem Q6u (A : All w o q X S T n R M) (ok : Tags w o) (hst : X.tm = X.sm) (hs : X.sm.ok) {who pub : Int} {wa oa : Option Addr} {wn wc on oc : Nat} :
    Calls Try.prog 7 #[.pointer (some (blk q)), .agg #[.int .i64 2, .int .i64 who, .int .u64 pub, .slice wa wn wc, .slice oa on oc]] w (fun x w' => ∃ o', x = .returned (.bool true) ∧ Step (fun j => j = q) w o w' o' ∧ All w' o' q (doX X ⟨2, who, 0, 0, [], []⟩) S T n R M) := by
  refine (do2.go (some (blk q)) who pub wa wn wc oa on oc (R := fun v w' => ∃ o', v = .bool true ∧ Step (fun j => j = q) w o w' o' ∧ All w' o' q (doX X ⟨2, who, 0, 0, [], []⟩) S T n R M) ?_).mono fun x w' ⟨v, he, o', hv, h⟩ => ⟨o', by rw [he, hv], h⟩
  unfold do2.N
  exact ⟨_, rfl, Q4k (kd := 2) (who := who) (pub := 0) (Φ := fun v w' => ∃ o', v = .bool true ∧ Step (fun j => j = q) w o w' o' ∧ All w' o' q (doX X ⟨2, who, 0, 0, [], []⟩) S T n R M) A ok hst hs fun w' o' s A' => ⟨o', rfl, s, A'⟩⟩
theorem Q6e (A : All w o q X S T n R M) (ok : Tags w o) (hst : X.tm = X.sm) (hs : X.sm.ok) {i : Nat} (hi : i < 4) {pub : Int} {wa oa : Option Addr} {wn wc on oc : Nat} :
    Calls Try.prog 7 #[.pointer (some (blk q)), .agg #[.int .i64 0, .int .i64 i, .int .u64 pub, .slice wa wn wc, .slice oa on oc]] w (fun x w' => ∃ o', x = .returned (.bool true) ∧ Step (fun j => j = q) w o w' o' ∧ All w' o' q (doX X ⟨1, i, X.pub i, 0, [], []⟩) S T n R M) := by
  refine (do0.go (some (blk q)) i pub wa wn wc oa on oc (decide_eq_true (by omega)) (decide_eq_true (by omega)) (R := fun v w' => ∃ o', v = .bool true ∧ Step (fun j => j = q) w o w' o' ∧ All w' o' q (doX X ⟨1, i, X.pub i, 0, [], []⟩) S T n R M) ?_).mono fun x w' ⟨v, he, o', hv, h⟩ => ⟨o', by rw [he, hv], h⟩
  unfold do0.N
  refine ⟨_, rfl, by omega, by omega, X.pub i, A.wd.at (adr _ _ _) fun sa sc ta tc => V_pub hi sa sc ta tc, ?_⟩
  exact Q4k (kd := 1) (who := i) (pub := X.pub i) (Φ := fun v w' => ∃ o', v = .bool true ∧ Step (fun j => j = q) w o w' o' ∧ All w' o' q (doX X ⟨1, i, X.pub i, 0, [], []⟩) S T n R M) A ok hst hs fun w' o' s A' => ⟨o', rfl, s, A'⟩
end
structure PI (X : WD) (S : OS) (R : Nat → RS) (K : List Int) (O : List (List UInt8)) : Prop where
  ki : KI S
  pub : ∀ i, i < 4 → alook S.publics (X.pub i) = some (X.sec i)
  st : X.tm = X.sm
  ok : X.sm.ok
  mem : ∀ m ∈ X.sm.ml, ∃ i : Nat, i < 4 ∧ m.who = i ∧ m.pub = X.pub i
  fr : ∀ m ∈ X.sm.ml, m.fr ≤ X.sm.ep + 1
  zero : ∃ m ∈ X.sm.ml, m.who = 0 ∧ m.to_ = -1
  ep : (K.length : Int) = X.sm.ep + 1
  ch : Chain S K O
  last : X.last = K.getLast?.getD 0
  ring : ∀ i : Nat, i < 4 → (R i).who = i ∧ (R i).secret = X.sec i ∧ (R i).olds = O ∧ ∃ m, m ≤ K.length ∧ (R i).keys = mkK K m K.length
theorem NW.pi {w : World} {o : Own} {q n : Nat} {X : WD} {S : OS} {R : Nat → RS} (h : NW w o q X S n R) : PI X S R [] [] := by
  refine ⟨⟨h.inv, fun x s e => (by rw [h.sealed] at e; cases e), fun x s e => (by rw [h.wrapped] at e; cases e), fun x s e => (by rw [h.sealed] at e; cases e)⟩, h.pub, h.tm.trans h.sm.symm, by rw [h.sm]; exact newM_ok _, fun m hm => ?_, fun m hm => ?_, ?_, ?_, ⟨rfl, fun x hx => (by cases hx), fun e he => absurd he (by simp), fun b hb => (by cases hb)⟩, h.last, fun i hi => ?_⟩
  · rw [h.sm] at hm
    simp [newM] at hm
    exact ⟨0, by omega, by rw [hm]; rfl, by rw [hm]⟩
  · rw [h.sm] at hm ⊢
    simp [newM] at hm
    rw [hm]; show (0 : Int) ≤ -1 + 1; decide
  · rw [h.sm]; exact ⟨_, List.mem_singleton.2 rfl, rfl, rfl⟩
  · rw [h.sm]; rfl
  · rw [h.ring i hi]; exact ⟨rfl, rfl, rfl, 0, Nat.le_refl _, rfl⟩
theorem PI.ne {X : WD} {S : OS} {R : Nat → RS} {K : List Int} {O : List (List UInt8)} (h : PI X S R K O) : nowM X.sm.ml ≠ [] := fun e => by
  obtain ⟨m, hm, _, ht⟩ := h.zero
  have : m ∈ nowM X.sm.ml := by unfold nowM; simp [hm, ht]
  rw [e] at this; cases this
theorem PI.known {X : WD} {S : OS} {R : Nat → RS} {K : List Int} {O : List (List UInt8)} (h : PI X S R K O) : ∀ m ∈ nowM X.sm.ml, (alook S.publics m.pub).isSome := fun m hm => by
  obtain ⟨i, hi, _, e⟩ := h.mem m (Q28 hm).1
  rw [e, h.pub i hi]; rfl
theorem PI.doX0 {X : WD} {S : OS} {R : Nat → RS} {K : List Int} {O : List (List UInt8)} (h : PI X S R K O) {i : Nat} (hi : i < 4) : PI (doX X ⟨1, i, X.pub i, 0, [], []⟩) S R K O := by
  unfold doX
  by_cases ha : (applyM X.sm ⟨1, i, X.pub i, 0, [], []⟩).2 = 0
  · rw [if_pos ha]
    obtain ⟨hr, hh⟩ := Q3l ha
    have hok := Q35 h.ok ha
    rcases hh with ⟨_, h1, e⟩ | ⟨h2, _⟩ | ⟨h2, _⟩
    · obtain ⟨q1, q2⟩ := Q3A h1
      rw [e, q2] at hok ⊢
      refine ⟨h.ki, h.pub, rfl, hok, fun m hm => ?_, fun m hm => ?_, ?_, h.ep, h.ch, h.last, h.ring⟩
      · rcases List.mem_append.1 hm with hm | hm
        · exact h.mem m (List.mem_of_mem_take hm)
        · rcases List.mem_cons.1 hm with rfl | hm
          · exact ⟨i, hi, rfl, rfl⟩
          · exact h.mem m (List.mem_of_mem_drop hm)
      · rcases List.mem_append.1 hm with hm | hm
        · exact h.fr m (List.mem_of_mem_take hm)
        · rcases List.mem_cons.1 hm with rfl | hm
          · exact Int.le_refl _
          · exact h.fr m (List.mem_of_mem_drop hm)
      · obtain ⟨m, hm, z⟩ := h.zero
        refine ⟨m, ?_, z⟩
        rw [← List.take_append_drop (findI X.sm.ml (i : Int)) X.sm.ml] at hm
        rcases List.mem_append.1 hm with hm | hm
        · exact List.mem_append_left _ hm
        · exact List.mem_append_right _ (List.mem_cons_of_mem _ hm)
    · exact absurd h2 (by show ¬ ((1 : Int) = 2); decide)
    · exact absurd rfl h2
  · rw [if_neg ha]; exact h
theorem PI.doX2 {X : WD} {S : OS} {R : Nat → RS} {K : List Int} {O : List (List UInt8)} (h : PI X S R K O) (who : Int) : PI (doX X ⟨2, who, 0, 0, [], []⟩) S R K O := by
  unfold doX
  by_cases ha : (applyM X.sm ⟨2, who, 0, 0, [], []⟩).2 = 0
  · rw [if_pos ha]
    obtain ⟨hr, hh⟩ := Q3l ha
    have hok := Q35 h.ok ha
    rcases hh with ⟨h2, _⟩ | ⟨_, h1, e⟩ | ⟨_, h2, _⟩
    · exact absurd h2 (by show ¬ ((2 : Int) = 1); decide)
    · obtain ⟨m, q1, q2, q3, q4⟩ := Q3I h1
      have hw0 : who ≠ 0 := fun e0 => by
        subst e0
        unfold rightM at hr
        simp at hr
      rw [e, q4] at hok ⊢
      have hmm := List.mem_of_getElem? q1
      refine ⟨h.ki, h.pub, rfl, hok, fun x hx => ?_, fun x hx => ?_, ?_, h.ep, h.ch, h.last, h.ring⟩
      · rcases mem_set hx with hx | rfl
        · exact h.mem x hx
        · exact h.mem m hmm
      · rcases mem_set hx with hx | rfl
        · exact h.fr x hx
        · exact h.fr m hmm
      · obtain ⟨z, hz, z1, z2⟩ := h.zero
        refine ⟨z, ?_, z1, z2⟩
        obtain ⟨d, hd⟩ := List.getElem?_of_mem hz
        have hne : findI X.sm.ml who ≠ d := fun e' => by
          subst e'
          rw [show findI X.sm.ml (⟨2, who, 0, 0, [], []⟩ : Chg).who = findI X.sm.ml who from rfl, hd] at q1
          cases q1
          exact hw0 (q2.symm.trans z1)
        refine List.mem_of_getElem? (i := d) ?_
        show (X.sm.ml.set (findI X.sm.ml who) _)[d]? = _
        rw [List.getElem?_set_ne hne]; exact hd
    · exact absurd rfl h2
  · rw [if_neg ha]; exact h
theorem PI.begin {X : WD} {S : OS} {R : Nat → RS} {K : List Int} {O : List (List UInt8)} (h : PI X S R K O) (hl : S.used.length < 10000000) : BK S X.sm X.last := Q2J h.ki h.ok h.known h.ne hl
theorem PI.last_rng {X : WD} {S : OS} {R : Nat → RS} {K : List Int} {O : List (List UInt8)} (h : PI X S R K O) : 0 ≤ X.last ∧ X.last < 18446744073709551616 := by
  rw [h.last]
  cases hk : K.getLast? with
  | none => exact ⟨by decide, by decide⟩
  | some x => have := h.ch.nz x (List.mem_of_getLast? hk); exact ⟨by show 0 ≤ x; omega, by show x < _; omega⟩
theorem PI.chain {X : WD} {S : OS} {R : Nat → RS} {K : List Int} {O : List (List UInt8)} (h : PI X S R K O) (hl : S.used.length < 10000000) (hold : (beginK S X.sm X.last).1.old.length < 1000000) :
    Chain (beginK S X.sm X.last).2.2 (K ++ [(beginK S X.sm X.last).2.1]) (O ++ [(beginK S X.sm X.last).1.old]) := by
  have B := h.begin hl
  have hlen := h.ch.len
  have hfit := B.ki.inv.fit (by have := B.len; omega) B.us
  refine ⟨by simp [hlen], fun x hx => ?_, fun e he => ?_, fun b hb => ?_⟩
  · rcases List.mem_append.1 hx with hx | hx
    · exact h.ch.nz x hx
    · have := B.nz
      simp at hx; subst hx
      omega
  · have he : e + 1 < K.length + 1 := by simpa using he
    by_cases hee : e + 1 < K.length
    · rw [List.getElem?_append_left hee, List.getElem?_append_left (by omega), List.getElem?_append_left (by omega)]
      exact B.le.open (h.ch.link e hee)
    · have hee : e + 1 = K.length := by omega
      have hep : 0 ≤ X.sm.ep := by have := h.ep; omega
      have hop := B.opens hep
      have e1 : (K ++ [(beginK S X.sm X.last).2.1])[e + 1]?.getD 0 = (beginK S X.sm X.last).2.1 := by rw [hee]; simp
      have e2 : (O ++ [(beginK S X.sm X.last).1.old])[e + 1]?.getD [] = (beginK S X.sm X.last).1.old := by rw [hee, ← hlen]; simp
      have e3 : (K ++ [(beginK S X.sm X.last).2.1])[e]?.getD 0 = X.last := by
        rw [List.getElem?_append_left (by omega), h.last, List.getLast?_eq_getElem?, show K.length - 1 = e by omega]
      rw [e1, e2, e3, show ((e + 1 : Nat) : Int) = X.sm.ep + 1 by have := h.ep; omega]
      exact hop
  · rcases List.mem_append.1 hb with hb | hb
    · exact h.ch.short b hb
    · simp at hb; subst hb; exact hold
theorem PI.in_ {X : WD} {S : OS} {R : Nat → RS} {K : List Int} {O : List (List UInt8)} (h : PI X S R K O) (hl : S.used.length < 10000000) (hold : (beginK S X.sm X.last).1.old.length < 1000000) (hep : X.sm.ep + 1 < 20) {i : Nat} (hi : i < 4) (hm : ∃ m ∈ nowM X.sm.ml, m.who = i) :
    learnK (beginK S X.sm X.last).2.2 (R i) (beginK S X.sm X.last).1 = ({ R i with keys := K ++ [(beginK S X.sm X.last).2.1], olds := O ++ [(beginK S X.sm X.last).1.old] }, 0) := by
  have B := h.begin hl
  have C := h.chain hl hold
  obtain ⟨r1, r2, r3, m, hm', r4⟩ := h.ring i hi
  have hkl : (R i).keys.length = K.length := by rw [r4, Q1r]
  have ht := B.told (R := R i) (by rw [r1]; exact hm) fun m' hm2 hw => by
    obtain ⟨d, hd, e1, e2⟩ := h.mem m' (Q28 hm2).1
    have : d = i := by rw [r1, e1] at hw; omega
    subst this
    rw [e2, r2]; exact h.pub d hd
  unfold learnK
  rw [if_neg (by rw [B.kd, B.right]; simp), if_neg (by have := h.ep; omega), ht, hkl, r3, r4]
  dsimp only
  rw [Q6m K m hm', Q4m C m K.length (by simp)]
theorem PI.out_ {X : WD} {S : OS} {R : Nat → RS} {K : List Int} {O : List (List UInt8)} (h : PI X S R K O) (hl : S.used.length < 10000000) (hep : X.sm.ep + 1 < 20) {i : Nat} (hi : i < 4) (hm : ∀ m ∈ nowM X.sm.ml, m.who ≠ i) :
    ∃ m, m ≤ K.length ∧ learnK (beginK S X.sm X.last).2.2 (R i) (beginK S X.sm X.last).1 = ({ R i with keys := mkK (K ++ [(beginK S X.sm X.last).2.1]) m (K.length + 1), olds := O ++ [(beginK S X.sm X.last).1.old] }, 11) := by
  have B := h.begin hl
  obtain ⟨r1, r2, r3, m, hm', r4⟩ := h.ring i hi
  have hkl : (R i).keys.length = K.length := by rw [r4, Q1r]
  have ht := B.other (R := R i) (by rw [r1]; exact hm)
  refine ⟨m, hm', ?_⟩
  unfold learnK
  rw [if_neg (by rw [B.kd, B.right]; simp), if_neg (by have := h.ep; omega), ht, hkl, r3, r4]
  dsimp only
  rw [Q5c K m hm' (beginK S X.sm X.last).2.1]
  have hb : backK (beginK S X.sm X.last).2.2 (O ++ [(beginK S X.sm X.last).1.old]) K.length (mkK (K ++ [(beginK S X.sm X.last).2.1]) m (K.length + 1)) = mkK (K ++ [(beginK S X.sm X.last).2.1]) m (K.length + 1) := by
    cases hK : K.length with
    | zero => rfl
    | succ e =>
      unfold backK
      rw [if_neg]
      rintro ⟨⟨h1, _⟩, _⟩
      rw [mkK_get (by simp; omega), if_neg (by omega)] at h1
      exact h1 rfl
  rw [hb]
theorem PI.next {X : WD} {S : OS} {R R' : Nat → RS} {K : List Int} {O : List (List UInt8)} (h : PI X S R K O) (hl : S.used.length < 10000000) (hold : (beginK S X.sm X.last).1.old.length < 1000000) (hep : X.sm.ep + 1 < 20)
    (hR : ∀ i, i < 4 → R' i = (learnK (beginK S X.sm X.last).2.2 (R i) (beginK S X.sm X.last).1).1) :
    PI { X with last := (beginK S X.sm X.last).2.1, sm := ⟨X.sm.ml, X.sm.ep + 1⟩, tm := ⟨X.sm.ml, X.sm.ep + 1⟩ } (beginK S X.sm X.last).2.2 R' (K ++ [(beginK S X.sm X.last).2.1]) (O ++ [(beginK S X.sm X.last).1.old]) := by
  have B := h.begin hl
  have he := h.ep
  have h0 := h.ok.ep0
  refine ⟨B.ki, fun i hi => by rw [B.le.pb]; exact h.pub i hi, rfl, ⟨h.ok.sorted, h.ok.who, by show -1 ≤ X.sm.ep + 1; omega, hep⟩, h.mem, fun m hm => by have := h.fr m hm; show m.fr ≤ X.sm.ep + 1 + 1; omega, h.zero, by simp; omega, h.chain hl hold, by simp, fun i hi => ?_⟩
  rw [hR i hi]
  obtain ⟨r1, r2, r3, _⟩ := h.ring i hi
  by_cases hm : ∃ m ∈ nowM X.sm.ml, m.who = i
  · rw [h.in_ hl hold hep hi hm]
    exact ⟨r1, r2, rfl, K.length + 1, by simp, by simp [Q4b]⟩
  · obtain ⟨m, hm', e⟩ := h.out_ hl hep hi fun m hm1 hm2 => hm ⟨m, hm1, hm2⟩
    rw [e]
    exact ⟨r1, r2, rfl, m, by simp; omega, by simp⟩
theorem Q60 {R : RS} {K : List Int} {e : Nat} (hk : R.keys = K) (he : e < K.length) (hz : ∀ x ∈ K, 0 < x ∧ x < 18446744073709551616) : keyK R e = (K[e]?.getD 0, 0) := by
  unfold keyK
  have := hz _ (List.getElem_mem he)
  rw [hk, if_neg (by omega), Int.toNat_natCast, if_neg (by rw [List.getElem?_eq_getElem he]; show ¬ (K[e] = 0); omega)]
theorem Q5X {R : RS} {K : List Int} {m e : Nat} (hk : R.keys = mkK K m (e + 1)) (hm : m ≤ e) (he : e < K.length) : keyK R e = (0, 11) := by
  unfold keyK
  rw [hk, if_neg (by rw [Q1r]; omega), Int.toNat_natCast, if_pos (by rw [mkK_get he, if_neg (by omega)])]
theorem alive13 {w : World} {o : Own} (ok : Tags w o) : Calls Try.prog 5 #[] w (fun x w' => ∃ o', x = .returned (.bool true) ∧ Step no w o w' o') := by
  refine (Q0U.go (R := fun v w' => ∃ o', v = .bool true ∧ Step no w o w' o') ?_).mono fun x w' ⟨v, he, o', hv, h⟩ => ⟨o', by rw [he, hv], h⟩
  unfold Q0U.N
  refine (NewO (a := none) (c := 0) (l := []) ok (RowAt.nil _ _) (by decide)).mono fun x w3 ⟨k, o3, he, hk, s3, P3⟩ => ⟨_, he, ?_⟩
  have hI : OInv (OS.init []) := OInv.init fun d h => by cases h
  refine (PairO P3 s3.ok hI.ok (by decide)).mono fun x w7 ⟨o7, he, s7, P7⟩ => ⟨_, _, he, ?_⟩
  obtain ⟨p1, p2, p3, p4, p5, p6, _⟩ := Q44 hI
  have hse : (pairOf (OS.init [])).2.sealed = [] := Q2V _
  have hwr : (pairOf (OS.init [])).2.wrapped = [] := Q2M _
  have hused := (Q4s hI.ok).2
  generalize (pairOf (OS.init [])).1.1 = s at *
  generalize (pairOf (OS.init [])).1.2 = p at *
  generalize (pairOf (OS.init [])).2 = S at *
  have hki : KI S := ⟨p1, fun x s e => (by rw [hse] at e; cases e), fun x s e => (by rw [hwr] at e; cases e), fun x s e => (by rw [hse] at e; cases e)⟩
  refine (Q36 s7.ok (who := 0) (by decide) (by decide) k).mono fun x w11 ⟨r, o11, he, hr, s11, E11⟩ => ⟨_, _, he, ?_⟩
  refine (Q4o s11.ok p).mono fun x w15 ⟨o15, a, c, he, s15, r15, hc⟩ => ⟨_, _, _, _, he, ?_⟩
  have hnow : nowM (newM p).ml = [⟨0, p, 0, -1, 0⟩] := rfl
  have hpub : ∀ m ∈ nowM (newM p).ml, alook S.publics m.pub = some s := fun m hm => by
    rw [hnow] at hm; rw [List.mem_singleton.1 hm]; exact p3
  have hlen : S.used.length ≤ 2 := hused
  have B := Q2J (s := newM p) (last := 0) hki (newM_ok p) (fun m hm => by rw [hpub m hm]; rfl) (by rw [hnow]; simp) (by omega)
  have P15 := (P7.step s11 id).step s15 id
  refine (Q2v (s := newM p) (last := 0) P15 s15.ok p1.ok (by omega) r15 (newM_ok p) (by decide) (by decide) (fun m hm => by rw [hpub m hm]; rfl) (by rw [hnow]; simp)).mono fun x w25 ⟨o25, wa, wc, oa, oc, l, he, s25, P25, C25, hlw, hlo⟩ => ⟨_, _, _, _, _, _, _, _, _, _, _, _, he, fun w32 X32 => ?_⟩
  have s32 := Step.of_no X32 s25.ok
  have E15 := E11.step s15 id
  have hrk : r ≠ k := by
    obtain ⟨_, b⟩ := E15.typ
    obtain ⟨_, b2⟩ := P15.typ
    exact Blk.apart b b2 (by decide)
  have E32 := (E15.step s25 hrk).step s32 id
  have P32 := P25.step s32 id
  have ht := B.told (R := ⟨0, s, [], []⟩) ⟨⟨0, p, 0, -1, 0⟩, by rw [hnow]; simp, rfl⟩ fun m hm _ => hpub m hm
  refine (Q2w E32 P32 s32.ok hrk B.ki.sh rfl (show (0 : Nat) < 1000 by decide) (fun b h => by cases h) (C25.step s32)).mono fun x w36 ⟨he, o36, s36, E36⟩ => ⟨_, he, ?_⟩
  have hL : learnK (beginK S (newM p) 0).2.2 ⟨0, s, [], []⟩ (beginK S (newM p) 0).1 = (⟨0, s, [(beginK S (newM p) 0).2.1], [(beginK S (newM p) 0).1.old]⟩, 0) := by
    unfold learnK
    rw [if_neg (by rw [B.kd, B.right]; simp), if_neg (by show ¬ (20 ≤ 0); decide), ht]; rfl
  rw [hL] at E36 ⊢
  have hK : keyK ⟨0, s, [(beginK S (newM p) 0).2.1], [(beginK S (newM p) 0).1.old]⟩ 0 = ((beginK S (newM p) 0).2.1, 0) := by
    unfold keyK
    rw [if_neg (by show ¬ ((0 : Int) < 0 ∨ ((1 : Nat) : Int) ≤ 0); decide), if_neg (by exact B.nz)]; rfl
  refine (Q2k E36 0).mono fun x w40 ⟨he, hw⟩ => ⟨_, _, he, ?_⟩
  subst hw
  rw [hK]
  refine ⟨fun _ => ⟨fun _ => ⟨fun _ => ⟨fun _ => ⟨fun _ => ⟨fun _ => ?_, fun h => absurd h B.nz⟩, fun h => absurd rfl h⟩, fun h => absurd rfl h⟩, fun h => absurd rfl h⟩, fun h => absurd rfl h⟩, fun h => absurd rfl h⟩
  refine (Q4B E36).mono fun x w49 ⟨he, hw⟩ => ⟨_, he, ?_⟩
  subst hw
  refine ⟨_, rfl, ((((s3.trans' s7 fun j hj => .inr (by rw [hj]; exact hk)).trans s11).trans s15).trans' s25 fun j hj => .inr (by rw [hj]; exact hk)).trans s32 |>.trans' s36 fun j hj => .inr ?_⟩
  have := s3.size
  have := s7.size
  omega
abbrev allK : Nat → Prop := fun _ => True
section
variable {w w' w1 w2 : World} {o o' o1 : Own} {q k p N m n i b : Nat} {K : Nat → Prop} {X : WD} {S T : OS} {R M : Nat → RS}
theorem sTop (h : Step K w o w' o') : Step allK w o w' o' := h.mono fun _ _ _ => trivial
theorem All.ringCell (A : All w o q X S T n R M) (hi : i < 4) {r : Nat} (hr : X.rq i = some r) : w.cell? (((blk q).add 6).add (Int.toNat (i : Int) * 1)) = some (.pointer (some (blk r))) := by
  have h := A.wd.at (adr q 6 i) fun sa sc ta tc => V_ring hi sa sc ta tc
  rw [hr] at h; exact h
end
section
variable {w w' w1 : World} {o o' o1 : Own} {a : Option Addr} {c N : Nat} {l : List Wr} {cs : List Value} {cg : Chg} {wa oa : Option Addr} {wc oc : Nat}
structure CR.at_ (w : World) (x : CR) : Prop where
  ws : RowAt w x.wa (x.l.flatMap Wr.C)
  bs : ∀ y ∈ x.l, RowAt w y.a (bytesV y.b)
  old : RowAt w x.oa (bytesV x.old)
abbrev VRow (N : Nat) (w : World) (o : Own) (a : Option Addr) (c : Nat) (l : List Wr) : Prop := LRow 119 2 N w o a l.length c (l.flatMap Wr.C)
theorem Q5S (ok : Tags w o) (hr : Row w o wa (l.flatMap Wr.C)) (hw : cg.ws = l.map Wr.p) (hl : l.length < 1000000) :
    Calls Try.prog 15 #[chgV cg wa wc oa oc] w (fun x w' => ∃ o' wa' wc', x = .returned (chgV cg wa' wc' oa oc) ∧ Step no w o w' o' ∧ Row w' o' wa' (l.flatMap Wr.C) ∧ l.length ≤ wc') := by
  have hlen : cg.ws.length = l.length := by rw [hw]; simp
  refine (Q0J.go cg.kd cg.who cg.pub cg.lim wa cg.ws.length wc oa cg.old.length oc (R := fun v w' => ∃ o' wa' wc', v = (chgV cg wa' wc' oa oc) ∧ Step no w o w' o' ∧ Row w' o' wa' (l.flatMap Wr.C) ∧ l.length ≤ wc') ?_).mono fun x w' ⟨v, he, o', a', c', hv, hw⟩ => ⟨o', a', c', by rw [he, hv], hw⟩
  unfold Q0J.N
  intro w15 p16 p17 p18 X15 hp
  obtain ⟨s15, M15⟩ := Step.priv X15 hp ok
  have g : ∀ p ∈ [p16, p17, p18], w.heap.size ≤ p := fun p h => (hp p h).1
  have hM15 : ∀ p ∈ [p16, p17, p18], p < w15.heap.size := fun p h => M15.lt h
  rw [hlen]
  refine ⟨fun m vs w1 => ∃ (t : Nat) (a1 : Option Addr) (c1 : Nat) (o1 : Own), vs = [.int .i64 t, .int .i64 0, .int .i64 0, .int .u64 0, .int .i64 0, .slice none 0 0, .slice none 0 0, .int .i64 cg.kd, .int .i64 cg.who, .int .u64 cg.pub, .int .i64 cg.lim, .slice a1 (l.take t).length c1, .slice oa cg.old.length oc] ∧ m + t = l.length ∧ Step no w o w1 o1 ∧ Step (fun j => w15.heap.size ≤ j ∨ j ∈ [p16, p17, p18]) w15 (tags w o [p16, p17, p18]) w1 o1 ∧ VRow w15.heap.size w1 o1 a1 c1 (l.take t), l.length, ⟨0, none, 0, _, rfl, rfl, s15, Step.refl _ s15.ok, LRow.nil _ _ _ _ _⟩, ?_⟩
  intro m w1 i0 k1 k2 k3 k4 k5a k5n k5c k6a k6n k6c k7 k8 k9 k10 k11a k11n k11c k12a k12n k12c hI
  obtain ⟨t, a1, c1, o1, hi, hm, s1, s15', r1⟩ := hI
  simp only [List.cons.injEq, Value.slice.injEq, Value.int.injEq, true_and, and_true] at hi
  obtain ⟨rfl, rfl, rfl, rfl, rfl, ⟨rfl, rfl, rfl⟩, ⟨rfl, rfl, rfl⟩, rfl, rfl, rfl, rfl, ⟨rfl, rfl, rfl⟩, ⟨rfl, rfl, rfl⟩⟩ := hi
  have M1 := M15.step s15'
  refine ⟨fun ht => ?_, fun ht w53 X53 => ?_⟩
  · have htl : t < l.length := by omega
    have hg : l[t]? = some l[t] := List.getElem?_eq_getElem htl
    have htk : l.take (t + 1) = l.take t ++ [l[t]] := by rw [List.take_add_one, hg]; rfl
    generalize l[t] = x at *
    obtain ⟨ad, rfl⟩ := hr.1.faddr Wr.len (by decide) htl
    have hr1 := (hr.step s1).1
    refine ⟨ad, rfl, by omega, by omega, x.who, by rw [Int.toNat_natCast]; exact hr1.fcell Wr.len hg 0 rfl, by omega, by omega, x.a, x.b.length, x.c, by rw [Int.toNat_natCast]; exact hr1.fcell Wr.len hg 1 rfl, fun w42 q43 X42 hb hq hq' => ?_⟩
    have s42 := Step.of_no X42 s1.ok
    have r42 : VRow w15.heap.size w42 _ k11a k11c (l.take t) := LRow.step r1 s42 fun k h => h.elim
    obtain ⟨i, hi, hz, hsz, hby⟩ := info_of inf119
    have h15 := s15'.size
    obtain ⟨a', c', w45, o45, hrun, s45, hrow, _⟩ := LRow.push (ty := 28) Try.underlying28 hi hz hsz hby rfl (by decide) r42 s42.ok (p := q43) (by omega) hq' (xa := some (blk q43)) (m := 1) (xc := 1) (news := x.C) rfl (RowAt.of_blk hb) (fun u hu => by
      simp only [Wr.C, List.mem_cons, List.not_mem_nil, or_false] at hu
      rcases hu with rfl | rfl <;> rfl) (by rw [List.length_take]; omega) (by rw [List.length_take]; omega)
    refine ⟨a', _, c', w45, hrun, (M1.step s42).keep s45 (fun p hp' => by have := hM15 p hp'; omega), by omega, by omega, fun w46 X46 => ?_⟩
    have s46 := Step.stores X46 s45.ok ((((M1.step s42).step s45)).sub (M := [p18]) (by simp)) (by simp)
    have r46 := hrow.step s46 fun k hk => .inl (hM15 k (by simp at hk ⊢; omega))
    have h15w := s15.size
    have hcells : (l.take t).flatMap Wr.C ++ x.C = (l.take (t + 1)).flatMap Wr.C := by rw [htk]; simp
    have hlen2 : (l.take t).length + 1 = (l.take (t + 1)).length := by rw [htk]; simp
    rw [hcells, hlen2] at r46
    refine ⟨m - 1, by omega, t + 1, a', c', _, by rw [← hlen2]; rfl, by omega, ((s1.trans s42).trans' s45 fun j hj => .inr (by omega)).trans' s46 fun j hj => .inr (g j (by simp at hj ⊢; omega)), (s15'.trans (s42.none.trans (s45.mono fun j hj _ => .inl hj))).trans (s46.mono fun j hj _ => .inr (by simp at hj ⊢; omega)), r46⟩
  · have htt : t = l.length := by omega
    subst htt
    rw [List.take_length] at r1 ⊢
    have s53 := Step.stores X53 s1.ok (M1.sub (M := [p17]) (by simp)) (by simp)
    have sF : Step no w o w53 _ := s1.trans' s53 fun j hj => .inr (g j (by simp at hj ⊢; omega))
    have r53 : VRow w15.heap.size w53 _ k11a k11c l := LRow.step r1 s53 fun k hk => .inl (hM15 k (by simp at hk ⊢; omega))
    refine ⟨_, k11a, k11c, ?_, noStep (K := no) sF, r53.give sF s15.size, r53.le⟩
    unfold chgV
    rw [hlen]
theorem Q4f {x y : CR} (hx : x.at_ w) (hy : y.at_ w) (hxl : x.l.length < 1000000) (hxb : ∀ u ∈ x.l, u.b.length < 1000000) (hxo : x.old.length < 1000000) :
    Calls Try.prog 25 #[chgV x.cg x.wa x.wc x.oa x.oc, chgV y.cg y.wa y.wc y.oa y.oc] w (fun e w' => ∃ r : Bool, e = .returned (.bool r) ∧ (r = true ↔ x.cg = y.cg) ∧ Ext no w w') := by
  rw [← CR.V, ← CR.V]
  refine (Q0K.go x.kd x.who x.pub x.lim x.wa x.l.length x.wc x.oa x.old.length x.oc y.kd y.who y.pub y.lim y.wa y.l.length y.wc y.oa y.old.length y.oc (R := fun v w' => ∃ r : Bool, v = .bool r ∧ (r = true ↔ x.cg = y.cg) ∧ Ext no w w') ?_).mono fun e w' ⟨v, he, r, hv, h⟩ => ⟨r, by rw [he, hv], h⟩
  unfold Q0K.N
  have no_ : ∀ {w' : World}, (x.cg = y.cg → False) → Ext no w w' → ∃ r : Bool, Value.bool false = .bool r ∧ (r = true ↔ x.cg = y.cg) ∧ Ext no w w' := fun h X => ⟨false, rfl, ⟨fun h => (by cases h), fun e => (h e).elim⟩, X⟩
  refine ⟨fun h w14 X => no_ (fun e => h (congrArg Chg.kd e)) X, fun h1 => ⟨fun h w14 X => no_ (fun e => h (congrArg Chg.who e)) X, fun h2 => ⟨fun h w14 X => no_ (fun e => h (congrArg Chg.pub e)) X, fun h3 => ⟨fun h w14 X => no_ (fun e => h (congrArg Chg.lim e)) X, fun h4 => ⟨fun h w14 X => no_ (fun e => h (by have := congrArg (fun c => c.ws.length) e; simp only [CR.cg, List.length_map] at this; omega)) X, fun h5 w14 p30 p31 X14 hp => ?_⟩⟩⟩⟩⟩
  refine (W.sameB_spec (hx.old.no X14) (hy.old.no X14) hxo).mono fun e w34 ⟨he, X34⟩ => ⟨_, he, X34.kept, fun hf => no_ (fun e => of_decide_eq_false hf (congrArg Chg.old e)) (X14.trans X34), fun ho => ?_⟩
  have ho := of_decide_eq_true ho
  have Y34 := X14.trans X34
  refine ⟨fun q vs w1 => ∃ t : Nat, vs = [.int .i64 t] ∧ q + t = x.l.length ∧ Ext no w w1 ∧ (x.l.map Wr.p).take t = (y.l.map Wr.p).take t, x.l.length, ⟨0, rfl, rfl, Y34, rfl⟩, ?_⟩
  rintro q w39 i ⟨t, hi, hq, Y39, hn⟩
  simp only [List.cons.injEq, Value.int.injEq, true_and, and_true] at hi
  subst hi
  refine ⟨fun ht => ?_, fun ht => ?_⟩
  · have t1 : t < x.l.length := by omega
    have t2 : t < y.l.length := by omega
    have g1 : x.l[t]? = some x.l[t] := List.getElem?_eq_getElem t1
    have g2 : y.l[t]? = some y.l[t] := List.getElem?_eq_getElem t2
    have m1 := List.getElem_mem t1
    have m2 := List.getElem_mem t2
    have e1 : (x.l.map Wr.p)[t]? = some x.l[t].p := by rw [List.getElem?_map, g1]; rfl
    have e2 : (y.l.map Wr.p)[t]? = some y.l[t].p := by rw [List.getElem?_map, g2]; rfl
    have ne : x.l[t].p ≠ y.l[t].p → x.cg = y.cg → False := fun h e => by
      have := congrArg (fun c : Chg => c.ws[t]?) e
      simp only [CR.cg] at this
      rw [e1, e2] at this
      exact h (Option.some.inj this)
    generalize x.l[t] = u at *
    generalize y.l[t] = v at *
    obtain ⟨ad, had⟩ := hx.ws.faddr Wr.len (by decide) t1
    obtain ⟨bd, hbd⟩ := hy.ws.faddr Wr.len (by decide) t2
    have rx := hx.ws.no Y39
    have ry := hy.ws.no Y39
    rw [had] at rx ⊢
    rw [hbd] at ry ⊢
    refine ⟨ad, rfl, by omega, by omega, u.who, by rw [Int.toNat_natCast]; exact rx.fcell Wr.len g1 0 rfl, bd, rfl, by omega, by omega, v.who, by rw [Int.toNat_natCast]; exact ry.fcell Wr.len g2 0 rfl, fun hne w41 X41 => no_ (ne fun e => hne (congrArg Prod.fst e)) (Y39.trans X41), fun hw => ⟨by omega, by omega, u.a, u.b.length, u.c, by rw [Int.toNat_natCast]; exact rx.fcell Wr.len g1 1 rfl, by omega, by omega, v.a, v.b.length, v.c, by rw [Int.toNat_natCast]; exact ry.fcell Wr.len g2 1 rfl, fun w41 X41 => ?_⟩⟩
    have Y41 := Y39.trans X41
    refine (W.sameB_spec ((hx.bs u m1).no Y41) ((hy.bs v m2).no Y41) (hxb u m1)).mono fun e w55 ⟨he, X55⟩ => ⟨_, he, X55.kept, fun hf => no_ (ne fun e => of_decide_eq_false hf (congrArg Prod.snd e)) (Y41.trans X55), fun hb => ⟨by omega, by omega, q - 1, by omega, t + 1, rfl, by omega, Y41.trans X55, ?_⟩⟩
    have hb := of_decide_eq_true hb
    have : u.p = v.p := by unfold Wr.p; rw [hw, hb]
    rw [List.take_add_one, List.take_add_one, hn, e1, e2, this]
  · rw [List.take_of_length_le (by simp; omega), List.take_of_length_le (by simp; omega)] at hn
    refine ⟨true, rfl, ⟨fun _ => ?_, fun _ => rfl⟩, Y39⟩
    unfold CR.cg
    rw [h1, h2, h3, h4, hn, ho]
end
section
variable {w w' w1 w2 : World} {o o' o1 : Own} {q k p N m n i b : Nat} {K : Nat → Prop} {X : WD} {S T : OS} {R M : Nat → RS}
end
end Go.Proofs.Ytaifegpikhjiiaa