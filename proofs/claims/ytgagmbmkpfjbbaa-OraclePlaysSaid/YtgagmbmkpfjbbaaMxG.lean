/- A drawn region's predicate is sound for every order. -/
import Derived.Test.YtgagmbmkpfjbbaaMxF
set_option linter.unusedSimpArgs false
set_option linter.unusedVariables false
set_option linter.unnecessarySimpa false
namespace Go.Mx

def allL : List Nat → (Nat → Prop) → Prop
  | [], _ => True
  | [i], Φ => Φ i
  | i :: j :: r, Φ => Φ i ∧ allL (j :: r) Φ
theorem allL_mem {l : List Nat} {Φ : Nat → Prop} (h : allL l Φ) : ∀ i ∈ l, Φ i := by
  induction l with
  | nil => simp
  | cons x r ih =>
    cases r with
    | nil => intro i hi; simp at hi; subst hi; exact h
    | cons y r =>
      intro i hi
      rcases List.mem_cons.1 hi with rfl | hi
      · exact h.1
      · exact ih h.2 i hi

def looks (ops : List Oper) (o : Oper) : List Nat :=
  (opnds o.op).filterMap (fun | .tmp t => some t | _ => none) ++ (match o.guard with | some (g, _) => ((ops[g]?).bind (·.dst)).toList | none => [])
def apartB (ops : List Oper) (x y : Oper) : Bool :=
  (match x.dst with
   | some d => bif memN (looks ops y) d then false else (match y.dst with | some e => !(Nat.beq d e) | none => true)
   | none => true) &&
  (match y.dst with
   | some d => !(memN (looks ops x) d)
   | none => true)
def waits (o : Oper) (i : Nat) : Bool := o.after.toList.any fun e => bif Nat.beq e.on i then Region.binds .any e else false
def rowOk (ops : List Oper) (x : Oper) (i : Nat) : List Oper → Nat → Bool
  | [], _ => true
  | y :: r, j => bif (bif waits y i then true else (bif waits x j then true else (apartB ops x y && apartB ops y x))) then rowOk ops x i r (j + 1) else false
def pairsOk (ops : List Oper) : List Oper → Nat → Bool
  | [], _ => true
  | x :: r, i => bif rowOk ops x i r (i + 1) then pairsOk ops r (i + 1) else false
def regOk (ops : List Oper) : Bool :=
  ops.all (fun o => !(isSel o.op) && o.after.toList.all fun e => Nat.blt e.on ops.length) && pairsOk ops ops 0

theorem looks_spec {ops : List Oper} {o : Oper} (hs : isSel o.op = false) {d : Nat} (h : d ∈ o.looksAt ops.toArray) : d ∈ looks ops o := by
  simp only [Oper.looksAt, List.mem_append, List.mem_filterMap] at h
  simp only [looks, List.mem_append, List.mem_filterMap]
  rcases h with ⟨x, hx, hd⟩ | h
  · exact .inl ⟨x, opnds_mem (isSel_false hs) (by simpa using hx), hd⟩
  · refine .inr ?_
    cases hg : o.guard with
    | none => simp [hg] at h
    | some p => obtain ⟨g, b⟩ := p; simpa [hg] using h
theorem apart_of {ops : List Oper} {x y : Oper} (hx : isSel x.op = false) (hy : isSel y.op = false) (h : apartB ops x y = true) : x.apart ops.toArray y = true := by
  simp only [apartB, Bool.and_eq_true] at h
  obtain ⟨h1, h2⟩ := h
  unfold Oper.apart
  rw [Bool.and_eq_true]
  constructor
  · cases hd : x.dst with
    | none => rfl
    | some d =>
      simp only [hd] at h1
      cases hm : memN (looks ops y) d
      · simp only [hm, cond_false] at h1
        have h3 : d ∉ y.looksAt ops.toArray := fun hh => by
          have := memN_iff.2 (looks_spec hy hh)
          rw [hm] at this; cases this
        have h4 : y.dst ≠ some d := fun e => by
          simp [e] at h1
        simp [h3, h4]
      · simp [hm] at h1
  · cases hd : y.dst with
    | none => rfl
    | some d =>
      simp only [hd] at h2
      have h3 : d ∉ x.looksAt ops.toArray := fun hh => by
        have := memN_iff.2 (looks_spec hx hh)
        rw [this] at h2; cases h2
      simp [h3]
theorem waits_spec {o : Oper} {i : Nat} (h : waits o i = true) : ∃ e ∈ o.after, Region.binds .any e = true ∧ e.on = i := by
  obtain ⟨e, he, hb⟩ := List.any_eq_true.1 h
  cases hq : Nat.beq e.on i
  · simp [hq] at hb
  · simp only [hq, cond_true] at hb
    exact ⟨e, by simpa using he, hb, beq_true hq⟩
theorem rowOk_spec {ops : List Oper} {x : Oper} {i : Nat} : ∀ {l : List Oper} {j : Nat}, rowOk ops x i l j = true → ∀ k y, l[k]? = some y →
    waits y i = true ∨ waits x (j + k) = true ∨ (apartB ops x y = true ∧ apartB ops y x = true)
  | [], _, _, k, y, hk => by simp at hk
  | z :: r, j, h, k, y, hk => by
    simp only [rowOk] at h
    cases hc : (bif waits z i then true else (bif waits x j then true else (apartB ops x z && apartB ops z x)))
    · rw [hc] at h; cases h
    · simp only [hc, cond_true] at h
      cases k with
      | zero =>
        simp at hk; subst hk
        cases h1 : waits z i
        · simp only [h1, cond_false] at hc
          cases h2 : waits x j
          · simp only [h2, cond_false, Bool.and_eq_true] at hc; exact .inr (.inr hc)
          · exact .inr (.inl (by simpa using h2))
        · exact .inl rfl
      | succ k =>
        have := rowOk_spec h k y (by simpa using hk)
        rw [show j + (k + 1) = j + 1 + k by omega]
        exact this
theorem pairsOk_spec {ops : List Oper} : ∀ {l : List Oper} {i : Nat}, pairsOk ops l i = true → ∀ k m x y, l[k]? = some x → l[m]? = some y → k < m →
    waits y (i + k) = true ∨ waits x (i + m) = true ∨ (apartB ops x y = true ∧ apartB ops y x = true)
  | [], _, _, k, m, x, y, hk, hm, hlt => by simp at hk
  | z :: r, i, h, k, m, x, y, hk, hm, hlt => by
    simp only [pairsOk] at h
    cases hc : rowOk ops z i r (i + 1)
    · simp [hc] at h
    · simp only [hc, cond_true] at h
      obtain ⟨m, rfl⟩ : ∃ q, m = q + 1 := ⟨m - 1, by omega⟩
      cases k with
      | zero =>
        simp at hk; subst hk
        have := rowOk_spec hc m y (by simpa using hm)
        rw [show i + (m + 1) = i + 1 + m by omega]
        simpa using this
      | succ k =>
        have := pairsOk_spec h k m x y (by simpa using hk) (by simpa using hm) (by omega)
        rw [show i + (m + 1) = i + 1 + m by omega, show i + (k + 1) = i + 1 + k by omega]
        exact this
theorem regOk_spec {ops : List Oper} (h : regOk ops = true) :
    (∀ (i : Nat) (o : Oper), ops[i]? = some o → isSel o.op = false) ∧ (∀ (i : Nat) (o : Oper), ops[i]? = some o → ∀ e ∈ o.after, e.on < ops.length) ∧
    (∀ (i j : Nat) (x y : Oper), ops[i]? = some x → ops[j]? = some y → i ≠ j → waits y i = true ∨ waits x j = true ∨ x.apart ops.toArray y = true) := by
  simp only [regOk, Bool.and_eq_true, List.all_eq_true] at h
  obtain ⟨h1, h2⟩ := h
  have hs : ∀ (i : Nat) (o : Oper), ops[i]? = some o → isSel o.op = false := fun i o hi => by
    have := (h1 o (List.mem_of_getElem? hi)).1
    simpa using this
  refine ⟨hs, fun i o hi e he => ?_, fun i j x y hi hj hne => ?_⟩
  · have := (h1 o (List.mem_of_getElem? hi)).2 e (by simpa using he)
    simpa [Nat.blt_eq] using this
  · rcases Nat.lt_or_gt_of_ne hne with hlt | hlt
    · have := pairsOk_spec h2 i j x y hi hj hlt
      simp only [Nat.zero_add] at this
      rcases this with h | h | h
      · exact .inl h
      · exact .inr (.inl h)
      · exact .inr (.inr (apart_of (hs i x hi) (hs j y hj) h.1))
    · have := pairsOk_spec h2 j i y x hj hi hlt
      simp only [Nat.zero_add] at this
      rcases this with h | h | h
      · exact .inr (.inl h)
      · exact .inl h
      · exact .inr (.inr (apart_of (hs i x hi) (hs j y hj) h.2))

def firstRd (P : Program) (ops : List Oper) : List Nat → Option Nat
  | [] => none
  | i :: r => match ops[i]? with | some o => bif isRd P o.op then some i else firstRd P ops r | none => firstRd P ops r

def mdraw (P : Program) (N : Nat) (ops : List Oper) (lo : Fs) : Nat → List Nat → List Ent → Dg → Fs → World → (Fs → World → Prop) → Prop
  | 0, S, _, _, f, w, K => match readyL ops S with | [] => K f w | _ :: _ => False
  | fuel + 1, S, L, dg, f, w, K =>
    match readyL ops S with
    | [] => K f w
    | r0 :: rs =>
      match firstRd P ops (r0 :: rs) with
      | some i =>
        (match ops[i]? with
        | some o =>
          gask ops lo f dg o fun b dg f =>
            bif b then mrdF P (f ++ lo) o w fun v χ => putK N o.dst v dg f fun dg f => mdraw P N ops lo fuel (i :: S) (addE S χ (updR ops i L)) dg f w K
            else putK N o.dst undef dg f fun dg f => mdraw P N ops lo fuel (i :: S) (updR ops i L) dg f w K
        | none => False)
      | none =>
        allL (r0 :: rs) fun i =>
          match ops[i]? with
          | some o =>
            gask ops lo f dg o fun b dg f =>
              bif b then meffF P (f ++ lo) o w fun v w' => oblK (updE ops i L) w' (putK N o.dst v dg f fun dg f => mdraw P N ops lo fuel (i :: S) (updE ops i L) dg f w' K)
              else putK N o.dst undef dg f fun dg f => mdraw P N ops lo fuel (i :: S) (updE ops i L) dg f w K
          | none => False

section
variable {P : Program} {ops : Array Oper} {Q : Exit → Act → World → Prop} {κ : Nat → Bool}
/-- entries that ask nothing. -/
inductive Tr : List Ent → List Ent → Prop where
  | nil : Tr [] []
  | keep (e : Ent) {l m : List Ent} : Tr l m → Tr (e :: l) (e :: m)
  | add (S : List Nat) {l m : List Ent} : Tr l m → Tr l ((S, fun _ => True) :: m)
theorem Tr.refl : ∀ l : List Ent, Tr l l
  | [] => .nil
  | e :: r => .keep e (Tr.refl r)
theorem Tr.obl {l m : List Ent} (h : Tr l m) {w : World} (hm : obl l w) : Mx.obl m w := by
  induction h with
  | nil => trivial
  | keep e _ ih => exact ⟨hm.1, ih hm.2⟩
  | add S _ ih => exact ⟨trivial, ih hm⟩
theorem Tr.updR {l m : List Ent} (h : Tr l m) (o : List Oper) (i : Nat) : Tr (updR o i l) (updR o i m) := by
  induction h with
  | nil => exact .nil
  | keep e _ ih => exact .keep _ ih
  | add S _ ih =>
    simp only [Mx.updR]
    cases depsIn o S i
    · exact .add _ ih
    · exact .add _ ih
theorem Tr.updE {l m : List Ent} (h : Tr l m) (o : List Oper) (i : Nat) : Tr (updE o i l) (updE o i m) := by
  induction h with
  | nil => exact .nil
  | keep e _ ih =>
    simp only [Mx.updE]
    cases depsIn o e.1 i
    · exact ih
    · exact .keep _ ih
  | add S _ ih =>
    simp only [Mx.updE]
    cases depsIn o S i
    · exact ih
    · exact .add _ ih
theorem Tr.upd {l m : List Ent} (h : Tr l m) (i : Nat) : Tr (upd ops κ i l) (upd ops κ i m) := by
  unfold Mx.upd
  cases κ i
  · exact h.updR _ _
  · exact h.updE _ _
theorem wpL_tr : ∀ (fuel : Nat) (listed : Array Bool) (l m : List Ent) (a : Act) (w : World), Tr l m → wpL P ops Q κ fuel listed l a w → wpL P ops Q κ fuel listed m a w
  | 0, _, _, _, _, _, _, h => h
  | fuel + 1, _, l, m, _, _, hs, h => ⟨h.1, fun i hi => wpOp_mono (fun a' w' h' => ⟨(hs.upd i).obl h'.1, wpL_tr fuel _ _ _ a' w' (hs.upd i) h'.2⟩) (h.2 i hi)⟩
end

/-- the array of what has come, and the list. -/
structure Lst (n : Nat) (listed : Array Bool) (S : List Nat) : Prop where
  size : listed.size = n
  at_ : ∀ t, t < n → listed.getD t false = memN S t
theorem Lst.getD_true {n : Nat} {listed : Array Bool} {S : List Nat} (h : Lst n listed S) {t : Nat} (ht : t < n) : listed.getD t true = memN S t := by
  rw [← h.at_ t ht]
  have : t < listed.size := by rw [h.size]; exact ht
  simp [this]
theorem Lst.set {n : Nat} {listed : Array Bool} {S : List Nat} (h : Lst n listed S) {i : Nat} (hi : i < n) : Lst n (listed.setIfInBounds i true) (i :: S) := by
  refine ⟨by simp [h.size], fun t ht => ?_⟩
  simp only [memN]
  by_cases hit : i = t
  · subst hit
    have : i < listed.size := by rw [h.size]; exact hi
    simp [this]
  · rw [getD_set_ne false hit, h.at_ t ht]
    have : Nat.beq i t = false := by
      cases hq : Nat.beq i t
      · rfl
      · exact absurd (beq_true hq) hit
    simp [this]

section
variable {P : Program} {ops : List Oper}

theorem ready_eq (hreg : regOk ops = true) {listed : Array Bool} {S : List Nat} (h : Lst ops.length listed S) : Region.ready .any ops.toArray listed = readyL ops S := by
  obtain ⟨_, hon, _⟩ := regOk_spec hreg
  unfold Region.ready readyL
  simp only [List.size_toArray]
  refine List.filter_congr fun i hi => ?_
  have hlt : i < ops.length := List.mem_range.1 hi
  rw [h.getD_true hlt]
  cases hm : memN S i
  · simp only [Bool.not_false, Bool.true_and, cond_false]
    unfold depsIn
    have ho : ops[i]? = some ops[i] := by simp [hlt]
    rw [ho]
    have ho' : ops.toArray[i]? = some ops[i] := by simp [hlt]
    rw [ho']
    simp only [Option.map_some, Option.getD_some]
    rw [Bool.eq_iff_iff, Array.all_eq_true_iff_forall_mem, List.all_eq_true]
    refine ⟨fun hh e he => ?_, fun hh e he => ?_⟩
    · have he' : e ∈ ops[i].after := by simpa using he
      have := hh e he'
      cases hb : Region.binds .any e
      · rfl
      · simp only [hb, Bool.not_true, Bool.false_or] at this
        rw [h.at_ e.on (hon i _ ho e he')] at this
        exact this
    · have := hh e (by simpa using he)
      cases hb : Region.binds .any e
      · rfl
      · simp only [hb, cond_true] at this
        simp only [Bool.not_true, Bool.false_or]
        rw [h.at_ e.on (hon i _ ho e he)]
        exact this
  · simp

theorem firstRd_spec : ∀ {l : List Nat} {i : Nat}, firstRd P ops l = some i → i ∈ l ∧ ∃ o, ops[i]? = some o ∧ isRd P o.op = true
  | [], _, h => by simp [firstRd] at h
  | j :: r, i, h => by
    simp only [firstRd] at h
    split at h
    · rename_i o ho
      cases hr : isRd P o.op
      · simp only [hr, cond_false] at h
        obtain ⟨h1, h2⟩ := firstRd_spec h
        exact ⟨List.mem_cons_of_mem _ h1, h2⟩
      · simp only [hr, cond_true, Option.some.injEq] at h
        subst h
        exact ⟨List.mem_cons_self, o, ho, hr⟩
    · obtain ⟨h1, h2⟩ := firstRd_spec h
      exact ⟨List.mem_cons_of_mem _ h1, h2⟩
theorem firstRd_none : ∀ {l : List Nat}, firstRd P ops l = none → ∀ i ∈ l, ∀ o, ops[i]? = some o → isRd P o.op = false
  | [], _, _, hi, _, _ => by simp at hi
  | j :: r, h, i, hi, o, ho => by
    simp only [firstRd] at h
    split at h
    · rename_i o' ho'
      cases hr : isRd P o'.op
      · simp only [hr, cond_false] at h
        rcases List.mem_cons.1 hi with rfl | hi
        · rw [ho'] at ho; obtain rfl := Option.some.inj ho; exact hr
        · exact firstRd_none h i hi o ho
      · simp [hr] at h
    · rename_i hn
      rcases List.mem_cons.1 hi with rfl | hi
      · rw [hn] at ho; cases ho
      · exact firstRd_none h i hi o ho

def kap (P : Program) (ops : List Oper) (i : Nat) : Bool := match ops[i]? with | some o => !(isRd P o.op) | none => false

theorem mdraw_ok {N : Nat} {lo : Fs} {Q : Exit → Act → World → Prop} {K : Fs → World → Prop} (hreg : regOk ops = true)
    (hQ : ∀ f w a, K f w → Fr N (f ++ lo) a → Q .normal a w) (hp : ∀ c a w, ¬ Q (.panic c) a w) :
    ∀ (fuel : Nat) (S : List Nat) (L : List Ent) (dg : Dg) (f : Fs) (w : World) (listed : Array Bool) (a : Act),
      Lst ops.length listed S → obl L w → Fr N (f ++ lo) a → DgOk dg (f ++ lo) → mdraw P N ops lo fuel S L dg f w K → wpL P ops.toArray Q (kap P ops) fuel listed L a w
  | 0, S, L, dg, f, w, listed, a, hl, hL, hf, hd, h => by
    simp only [mdraw] at h
    split at h
    · rename_i hr
      exact ⟨by rw [ready_eq hreg hl, hr], hQ _ _ _ h hf⟩
    · exact h.elim
  | fuel + 1, S, L, dg, f, w, listed, a, hl, hL, hf, hd, h => by
    obtain ⟨hsel, hon, hap⟩ := regOk_spec hreg
    have hre := ready_eq hreg hl
    simp only [mdraw] at h
    split at h
    · rename_i hr
      refine ⟨fun _ => hQ _ _ _ h hf, fun i hi => ?_⟩
      rw [hre, hr] at hi; simp at hi
    · rename_i r0 rs hr
      split at h
      · rename_i i hfi
        obtain ⟨hmem, o, ho, hrd⟩ := firstRd_spec hfi
        simp only [ho] at h
        have hmem' : i ∈ Region.ready .any ops.toArray listed := by rw [hre, hr]; exact hmem
        have hoA : ops.toArray[i]? = some o := by simpa using ho
        have hlt : i < ops.length := (List.getElem?_eq_some_iff.1 ho).1
        have hκ : kap P ops i = false := by simp [kap, ho, hrd]
        have hlS := hl.set hlt
        have hunl : ∀ e ∈ o.after, Region.binds .any e = true → listed.getD e.on false = true := by
          obtain ⟨_, o', ho', hall⟩ := mem_ready.1 hmem'
          rw [hoA] at ho'; obtain rfl := Option.some.inj ho'; exact hall
        have key : ∀ (v : Value) (χ : World → Prop), YieldsIf P ops.toArray χ o v a → χ w →
            wpL P ops.toArray Q (kap P ops) fuel (listed.setIfInBounds i true) ((S, χ) :: upd ops.toArray (kap P ops) i L) (a.put o.dst v) w →
            wpL P ops.toArray Q (kap P ops) (fuel + 1) listed L a w := fun v χ hy hχ H =>
          wpL_first hoA hκ (fun j oj cs b hj => isSel_false (hsel j oj (by simpa using hj)) cs b) (fun c a' w' hc => absurd hc (hp _ _ _)) fuel listed S L a w
            (fun t ht => hl.at_ t (by simpa using ht))
            (fun j oj hj hji hun hno => by
              have hj' : ops[j]? = some oj := by simpa using hj
              rcases hap i j o oj ho hj' (Ne.symm hji) with h | h | h
              · obtain ⟨e, he, hb, hon'⟩ := waits_spec h
                exact absurd hon' (hno e he hb)
              · obtain ⟨e, he, hb, hon'⟩ := waits_spec h
                have := hunl e he hb
                rw [hon'] at this
                have hjl : j < listed.size := by rw [hl.size]; exact (List.getElem?_eq_some_iff.1 hj').1
                simp [hjl] at hun this
                rw [hun] at this; cases this
              · exact h)
            (fun j oj hj e he _ => by simpa using hon j oj (by simpa using hj) e he)
            hmem' hy hχ hL H
        have hupd : upd ops.toArray (kap P ops) i L = updR ops i L := by simp [upd, hκ]
        obtain ⟨b, dg1, f1, hb, h, hf1, hd1⟩ := gask_ok (P := P) h hf hd
        cases b
        · simp only [cond_false] at h
          obtain ⟨dg2, f2, h, hf2, hd2⟩ := putK_ok h hf1 hd1
          refine key undef (fun _ => True) (.inr ⟨hb, rfl⟩) trivial ?_
          rw [hupd]
          exact wpL_tr _ _ _ _ _ _ (.add S (Tr.refl _)) (mdraw_ok hreg hQ hp fuel _ _ dg2 f2 w _ _ hlS (obl_updR hL) hf2 hd2 h)
        · simp only [cond_true] at h
          obtain ⟨v, χ, h1, h2, h3⟩ := mrdF_ok hf1 h
          obtain ⟨dg2, f2, h, hf2, hd2⟩ := putK_ok h3 hf1 hd1
          refine key v (Chi.at χ) (.inl ⟨hb, fun w' hw' => h2 w' hw'⟩) h1 ?_
          rw [hupd]
          cases χ with
          | none =>
            exact wpL_tr _ _ _ _ _ _ (.add S (Tr.refl _)) (mdraw_ok hreg hQ hp fuel _ _ dg2 f2 w _ _ hlS (obl_updR hL) hf2 hd2 h)
          | some c =>
            exact mdraw_ok hreg hQ hp fuel _ _ dg2 f2 w _ _ hlS ⟨h1, obl_updR hL⟩ hf2 hd2 h
      · rename_i hfn
        refine ⟨fun h0 => (by rw [hre, hr] at h0; cases h0), fun i hi => ?_⟩
        rw [hre, hr] at hi
        have h := allL_mem h i hi
        split at h
        · rename_i o ho
          have hrd := firstRd_none hfn i hi o ho
          have hκ : kap P ops i = true := by simp [kap, ho, hrd]
          have hupd : upd ops.toArray (kap P ops) i L = updE ops i L := by simp [upd, hκ]
          have hoA : ops.toArray[i]? = some o := by simpa using ho
          have hlt : i < ops.length := (List.getElem?_eq_some_iff.1 ho).1
          have hlS := hl.set hlt
          unfold wpOp
          simp only [hoA]
          rw [hupd]
          obtain ⟨b, dg1, f1, hb, h, hf1, hd1⟩ := gask_ok (P := P) h hf hd
          cases b
          · rw [hb]
            simp only [cond_false] at h
            obtain ⟨dg2, f2, h, hf2, hd2⟩ := putK_ok h hf1 hd1
            exact ⟨obl_updE hL, mdraw_ok hreg hQ hp fuel _ _ dg2 f2 w _ _ hlS (obl_updE hL) hf2 hd2 h⟩
          · rw [hb]
            simp only [cond_true] at h
            refine .inl ((meffF_ok hf1 h).wp fun v w' h => ?_)
            obtain ⟨ho1, h⟩ := oblK_out h
            obtain ⟨dg2, f2, h, hf2, hd2⟩ := putK_ok h hf1 hd1
            exact ⟨ho1, mdraw_ok hreg hQ hp fuel _ _ dg2 f2 w' _ _ hlS ho1 hf2 hd2 h⟩
        · exact h.elim
end
end Go.Mx
