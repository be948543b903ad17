/- A region that draws its order: readings are taken first; what they read must stay while operations that could come before them are carried out. -/
import Derived.Test.YtgagmbmkpfjbbaaMxE
import Derived.OrdersHeld
set_option linter.unusedSimpArgs false
set_option linter.unusedVariables false
set_option linter.unnecessarySimpa false
namespace Go.Mx

def memN : List Nat → Nat → Bool
  | [], _ => false
  | p :: r, t => bif Nat.beq p t then true else memN r t
theorem memN_iff {l : List Nat} {t : Nat} : memN l t = true ↔ t ∈ l := by
  induction l with
  | nil => simp [memN]
  | cons p r ih =>
    simp only [memN]
    cases hb : Nat.beq p t
    · have : p ≠ t := fun e => by subst e; simp at hb
      simp [ih, Ne.symm this]
    · simp [beq_true hb]
/-- all that a number waits for has come. -/
def depsIn (ops : List Oper) (S : List Nat) (j : Nat) : Bool :=
  match ops[j]? with
  | some o => o.after.toList.all fun e => bif Region.binds .any e then memN S e.on else true
  | none => false
def readyL (ops : List Oper) (S : List Nat) : List Nat :=
  (List.range ops.length).filter fun i => bif memN S i then false else depsIn ops S i

/-- a reading that may be thought of as coming later: what has come without it; what it reads. -/
abbrev Ent := List Nat × (World → Prop)
def updR (ops : List Oper) (i : Nat) : List Ent → List Ent
  | [] => []
  | e :: r => (bif depsIn ops e.1 i then (i :: e.1, e.2) else e) :: updR ops i r
def updE (ops : List Oper) (i : Nat) : List Ent → List Ent
  | [] => []
  | e :: r => bif depsIn ops e.1 i then (i :: e.1, e.2) :: updE ops i r else updE ops i r
/-- what must still read as it did. -/
def obl : List Ent → World → Prop
  | [], _ => True
  | e :: r, w => e.2 w ∧ obl r w
/-- .. written without a last True. -/
def oblK : List Ent → World → Prop → Prop
  | [], _, X => X
  | e :: r, w, X => e.2 w ∧ oblK r w X
theorem oblK_out {L : List Ent} {w : World} {X : Prop} (h : oblK L w X) : obl L w ∧ X := by
  induction L with
  | nil => exact ⟨trivial, h⟩
  | cons e r ih => exact ⟨⟨h.1, (ih h.2).1⟩, (ih h.2).2⟩
def addE (S : List Nat) (χ : Chi) (L : List Ent) : List Ent := match χ with | none => L | some c => (S, c) :: L

/-! ### the tree of all orders, with what must stay -/
section
variable (P : Program) (ops : Array Oper) (Q : Exit → Act → World → Prop) (κ : Nat → Bool)

def upd (i : Nat) (L : List Ent) : List Ent := bif κ i then updE ops.toList i L else updR ops.toList i L

def wpL : Nat → Array Bool → List Ent → Act → World → Prop
  | 0, listed, _, a, w => Region.ready .any ops listed = [] ∧ Q .normal a w
  | fuel + 1, listed, L, a, w =>
    (Region.ready .any ops listed = [] → Q .normal a w) ∧
    ∀ i ∈ Region.ready .any ops listed, wpOp P ops Q i (fun a' w' => obl (upd ops κ i L) w' ∧ wpL fuel (listed.setIfInBounds i true) (upd ops κ i L) a' w') a w
end

section
variable {P : Program} {ops : Array Oper} {Q : Exit → Act → World → Prop} {κ : Nat → Bool}

theorem wpAny_of_L : ∀ (fuel : Nat) (listed : Array Bool) (L : List Ent) (a : Act) (w : World), wpL P ops Q κ fuel listed L a w → wpAny P .any ops Q fuel listed a w
  | 0, _, _, _, _, h => h
  | fuel + 1, _, L, _, _, h => ⟨h.1, fun i hi => wpOp_mono (fun a' w' h' => wpAny_of_L fuel _ _ a' w' h'.2) (h.2 i hi)⟩

/-- fewer of them. -/
inductive Sub : List Ent → List Ent → Prop where
  | nil : Sub [] []
  | keep (e : Ent) {l m : List Ent} : Sub l m → Sub (e :: l) (e :: m)
  | drop (e : Ent) {l m : List Ent} : Sub l m → Sub l (e :: m)
theorem Sub.refl : ∀ l : List Ent, Sub l l
  | [] => .nil
  | e :: r => .keep e (Sub.refl r)
theorem Sub.obl {l m : List Ent} (h : Sub l m) {w : World} (hm : obl m w) : Mx.obl l w := by
  induction h with
  | nil => trivial
  | keep e _ ih => exact ⟨hm.1, ih hm.2⟩
  | drop e _ ih => exact ih hm.2
theorem Sub.updR {l m : List Ent} (h : Sub l m) (o : List Oper) (i : Nat) : Sub (updR o i l) (updR o i m) := by
  induction h with
  | nil => exact .nil
  | keep e _ ih => exact .keep _ ih
  | drop e _ ih => exact .drop _ ih
theorem Sub.updE {l m : List Ent} (h : Sub l m) (o : List Oper) (i : Nat) : Sub (updE o i l) (updE o i m) := by
  induction h with
  | nil => exact .nil
  | keep e _ ih =>
    simp only [Mx.updE]
    cases depsIn o e.1 i
    · exact ih
    · exact .keep _ ih
  | drop e _ ih =>
    simp only [Mx.updE]
    cases depsIn o e.1 i
    · exact ih
    · exact .drop _ ih
theorem Sub.upd {l m : List Ent} (h : Sub l m) (i : Nat) : Sub (upd ops κ i l) (upd ops κ i m) := by
  unfold Mx.upd
  cases κ i
  · exact h.updR _ _
  · exact h.updE _ _
theorem wpL_sub : ∀ (fuel : Nat) (listed : Array Bool) (l m : List Ent) (a : Act) (w : World), Sub l m → wpL P ops Q κ fuel listed m a w → wpL P ops Q κ fuel listed l a w
  | 0, _, _, _, _, _, _, h => h
  | fuel + 1, _, l, m, _, _, hs, h => ⟨h.1, fun i hi => wpOp_mono (fun a' w' h' => ⟨(hs.upd i).obl h'.1, wpL_sub fuel _ _ _ a' w' (hs.upd i) h'.2⟩) (h.2 i hi)⟩

theorem obl_updR {o : List Oper} {i : Nat} {L : List Ent} {w : World} (h : obl L w) : obl (updR o i L) w := by
  induction L with
  | nil => trivial
  | cons e r ih =>
    refine ⟨?_, ih h.2⟩
    cases depsIn o e.1 i <;> exact h.1
theorem obl_updE {o : List Oper} {i : Nat} {L : List Ent} {w : World} (h : obl L w) : obl (updE o i L) w := by
  induction L with
  | nil => trivial
  | cons e r ih =>
    simp only [updE]
    cases depsIn o e.1 i
    · exact ih h.2
    · exact ⟨h.1, ih h.2⟩
theorem obl_upd {i : Nat} {L : List Ent} {w : World} (h : obl L w) : obl (upd ops κ i L) w := by
  unfold upd
  cases κ i
  · exact obl_updR h
  · exact obl_updE h

/-- j does not wait for i. -/
def free1 (o : List Oper) (i j : Nat) : Prop := ∀ oj, o[j]? = some oj → ∀ e ∈ oj.after, Region.binds .any e = true → e.on ≠ i
theorem depsIn_cons {o : List Oper} {i j : Nat} (h : free1 o i j) (S : List Nat) : depsIn o (i :: S) j = depsIn o S j := by
  unfold depsIn
  cases ho : o[j]? with
  | none => rfl
  | some oj =>
    simp only
    rw [Bool.eq_iff_iff, List.all_eq_true, List.all_eq_true]
    refine forall_congr' fun e => forall_congr' fun he => ?_
    cases hb : Region.binds .any e
    · simp
    · have hne := h oj ho e (by simpa using he) hb
      simp only [cond_true, memN]
      have : Nat.beq i e.on = false := by
        cases hq : Nat.beq i e.on
        · rfl
        · exact absurd (beq_true hq).symm hne
      simp [this]

theorem depsIn_congr {o : List Oper} {S T : List Nat} (h : ∀ t, memN S t = memN T t) (j : Nat) : depsIn o S j = depsIn o T j := by
  unfold depsIn
  cases o[j]? with
  | none => rfl
  | some oj => simp only [h]

/-- lists of what must stay that differ only in how they are written. -/
inductive Same : List Ent → List Ent → Prop where
  | nil : Same [] []
  | cons {S T : List Nat} (χ : World → Prop) (h : ∀ t, memN S t = memN T t) {l m : List Ent} : Same l m → Same ((S, χ) :: l) ((T, χ) :: m)
theorem Same.refl : ∀ l : List Ent, Same l l
  | [] => .nil
  | (S, χ) :: r => .cons χ (fun _ => rfl) (Same.refl r)
theorem Same.obl {l m : List Ent} (h : Same l m) {w : World} (hm : obl m w) : Mx.obl l w := by
  induction h with
  | nil => trivial
  | cons χ _ _ ih => exact ⟨hm.1, ih hm.2⟩
theorem memN_cons_congr {S T : List Nat} (h : ∀ t, memN S t = memN T t) (i t : Nat) : memN (i :: S) t = memN (i :: T) t := by simp only [memN, h]
theorem Same.updR {l m : List Ent} (h : Same l m) (o : List Oper) (i : Nat) : Same (updR o i l) (updR o i m) := by
  induction h with
  | nil => exact .nil
  | @cons S T χ h _ _ _ ih =>
    simp only [Mx.updR, depsIn_congr h i]
    cases depsIn o T i
    · exact .cons χ h ih
    · exact .cons χ (memN_cons_congr h i) ih
theorem Same.updE {l m : List Ent} (h : Same l m) (o : List Oper) (i : Nat) : Same (updE o i l) (updE o i m) := by
  induction h with
  | nil => exact .nil
  | @cons S T χ h _ _ _ ih =>
    simp only [Mx.updE, depsIn_congr h i]
    cases depsIn o T i
    · exact ih
    · exact .cons χ (memN_cons_congr h i) ih
theorem Same.upd {l m : List Ent} (h : Same l m) (i : Nat) : Same (upd ops κ i l) (upd ops κ i m) := by
  unfold Mx.upd
  cases κ i
  · exact h.updR _ _
  · exact h.updE _ _
theorem wpL_same : ∀ (fuel : Nat) (listed : Array Bool) (l m : List Ent) (a : Act) (w : World), Same l m → wpL P ops Q κ fuel listed m a w → wpL P ops Q κ fuel listed l a w
  | 0, _, _, _, _, _, _, h => h
  | fuel + 1, _, l, m, _, _, hs, h => ⟨h.1, fun i hi => wpOp_mono (fun a' w' h' => ⟨(hs.upd i).obl h'.1, wpL_same fuel _ _ _ a' w' (hs.upd i) h'.2⟩) (h.2 i hi)⟩

theorem memN_swap (i j : Nat) (S : List Nat) (t : Nat) : memN (i :: j :: S) t = memN (j :: i :: S) t := by
  simp only [memN]
  cases Nat.beq i t <;> cases Nat.beq j t <;> rfl
theorem same_swapR {o : List Oper} {i j : Nat} (h1 : free1 o i j) (h2 : free1 o j i) : ∀ L : List Ent, Same (updR o i (updR o j L)) (updR o j (updR o i L))
  | [] => .nil
  | (S, χ) :: r => by
    simp only [updR]
    cases hj : depsIn o S j <;> cases hi : depsIn o S i <;> simp only [cond_true, cond_false, hi, hj, depsIn_cons h1, depsIn_cons h2]
    · exact .cons χ (fun _ => rfl) (same_swapR h1 h2 r)
    · exact .cons χ (fun _ => rfl) (same_swapR h1 h2 r)
    · exact .cons χ (fun _ => rfl) (same_swapR h1 h2 r)
    · exact .cons χ (memN_swap i j S) (same_swapR h1 h2 r)
theorem same_swapE {o : List Oper} {i j : Nat} (h1 : free1 o i j) (h2 : free1 o j i) : ∀ L : List Ent, Same (updR o i (updE o j L)) (updE o j (updR o i L))
  | [] => .nil
  | (S, χ) :: r => by
    simp only [updR, updE]
    cases hj : depsIn o S j <;> cases hi : depsIn o S i <;> simp only [cond_true, cond_false, hi, hj, depsIn_cons h1, depsIn_cons h2, updR]
    · exact same_swapE h1 h2 r
    · exact same_swapE h1 h2 r
    · exact .cons χ (fun _ => rfl) (same_swapE h1 h2 r)
    · exact .cons χ (memN_swap i j S) (same_swapE h1 h2 r)
theorem same_swap {i j : Nat} (h1 : free1 ops.toList i j) (h2 : free1 ops.toList j i) (hi : κ i = false) (L : List Ent) :
    Same (upd ops κ i (upd ops κ j L)) (upd ops κ j (upd ops κ i L)) := by
  simp only [upd, hi, cond_false]
  cases κ j
  · exact same_swapR h1 h2 L
  · exact same_swapE h1 h2 L

/-- **A reading that may come up now may be taken first.** -/
theorem wpL_first {i : Nat} {oi : Oper} {v : Value} {χ : World → Prop} (hi : ops[i]? = some oi) (hκ : κ i = false)
    (hsel : ∀ (j : Nat) (o : Oper) cs b, ops[j]? = some o → o.op ≠ .select cs b)
    (hQ : ∀ c a w, Q (.panic c) (a.put oi.dst v) w → Q (.panic c) a w) :
    ∀ (fuel : Nat) (listed : Array Bool) (S : List Nat) (L : List Ent) (a : Act) (w : World),
      (∀ t, t < ops.size → listed.getD t false = memN S t) →
      (∀ (j : Nat) (oj : Oper), ops[j]? = some oj → j ≠ i → listed.getD j true = false → (∀ e ∈ oj.after, Region.binds .any e = true → e.on ≠ i) → oi.apart ops oj = true) →
      (∀ (j : Nat) (oj : Oper), ops[j]? = some oj → ∀ e ∈ oj.after, Region.binds .any e = true → e.on < ops.size) →
      i ∈ Region.ready .any ops listed → YieldsIf P ops χ oi v a → χ w → obl L w →
      wpL P ops Q κ fuel (listed.setIfInBounds i true) ((S, χ) :: upd ops κ i L) (a.put oi.dst v) w → wpL P ops Q κ (fuel + 1) listed L a w := by
  intro fuel
  induction fuel with
  | zero =>
    intro listed S L a w hS hfree hon hr hy hχ hL H
    refine ⟨fun h => (by rw [h] at hr; cases hr), fun j hj => ?_⟩
    by_cases hji : j = i
    · subst hji; exact hy.wpOp hi hχ ⟨obl_upd hL, H⟩
    · have := ready_mono hj hji
      rw [H.1] at this
      cases this
  | succ fuel ih =>
    intro listed S L a w hS hfree hon hr hy hχ hL H
    refine ⟨fun h => (by rw [h] at hr; cases hr), fun j hj => ?_⟩
    by_cases hji : j = i
    · subst hji
      exact hy.wpOp hi hχ ⟨obl_upd hL, wpL_sub _ _ _ _ _ _ (.drop _ (Sub.refl _)) H⟩
    · have h1 := H.2 j (ready_mono hj hji)
      obtain ⟨hjun, oj, hoj, hall⟩ := mem_ready.1 hj
      have hnot : ∀ e ∈ oj.after, Region.binds .any e = true → e.on ≠ i := fun e he hb heq => by
        have h1 := hall e he hb
        have h0 := (mem_ready.1 hr).1
        rw [heq] at h1
        rcases Nat.lt_or_ge i listed.size with h' | h'
        · simp [h'] at h0 h1; rw [h0] at h1; cases h1
        · simp [Array.getElem?_eq_none h'] at h1
      have hnot' : ∀ e ∈ oi.after, Region.binds .any e = true → e.on ≠ j := fun e he hb heq => by
        obtain ⟨_, oi', hoi', hall'⟩ := mem_ready.1 hr
        rw [hi] at hoi'
        obtain rfl := Option.some.inj hoi'
        have h1 := hall' e he hb
        rw [heq] at h1
        rcases Nat.lt_or_ge j listed.size with h' | h'
        · simp [h'] at hjun h1; rw [hjun] at h1; cases h1
        · simp [Array.getElem?_eq_none h'] at h1
      have f1 : free1 ops.toList i j := fun o ho e he hb => by
        have : o = oj := by simpa [hoj] using ho.symm
        subst this; exact hnot e he hb
      have f2 : free1 ops.toList j i := fun o ho e he hb => by
        have : o = oi := by simpa [hi] using ho.symm
        subst this; exact hnot' e he hb
      have hdep : depsIn ops.toList S j = true := by
        unfold depsIn
        have : ops.toList[j]? = some oj := by simpa using hoj
        simp only [this]
        rw [List.all_eq_true]
        intro e he
        cases hb : Region.binds .any e
        · rfl
        · have he' : e ∈ oj.after := by simpa using he
          simp only [cond_true]
          rw [← hS e.on (hon j oj hoj e he' hb)]
          exact hall e he' hb
      have h2 := wpOp_putIf hoj (hfree j oj hoj hji hjun hnot) (fun cs b => hsel i oi cs b hi) (fun cs b => hsel j oj cs b hoj) hQ hy h1
      have hfree' : ∀ k ok, ops[k]? = some ok → k ≠ i → (listed.setIfInBounds j true).getD k true = false →
          (∀ e ∈ ok.after, Region.binds .any e = true → e.on ≠ i) → oi.apart ops ok = true := fun k ok hk hki hun hno => by
        refine hfree k ok hk hki ?_ hno
        by_cases hjk : j = k
        · subst hjk; exact hjun
        · rw [getD_set_ne true hjk] at hun; exact hun
      have hjlt : j < listed.size := by
        rcases Nat.lt_or_ge j listed.size with h' | h'
        · exact h'
        · simp [Array.getElem?_eq_none h'] at hjun
      have hS' : ∀ t, t < ops.size → (listed.setIfInBounds j true).getD t false = memN (j :: S) t := fun t ht => by
        simp only [memN]
        by_cases hjt : j = t
        · subst hjt
          simp [hjlt]
        · rw [getD_set_ne false hjt, hS t ht]
          have : Nat.beq j t = false := by
            cases hq : Nat.beq j t
            · rfl
            · exact absurd (beq_true hq) hjt
          simp [this]
      refine wpOp_mono (fun a' w' h3 => ?_) h2
      obtain ⟨hy', hob, hrest⟩ := h3
      -- the entry of i stays
      have hupd : upd ops κ j ((S, χ) :: upd ops κ i L) = (j :: S, χ) :: upd ops κ j (upd ops κ i L) := by
        simp only [upd]
        cases κ j <;> simp [updR, updE, hdep]
      rw [hupd] at hob hrest
      have hsw := same_swap (κ := κ) f1 f2 hκ L
      have hobj : obl (upd ops κ j L) w' := by
        -- what must stay behind j: read off the list behind i and j
        have hh := hob.2
        have hso := hsw.obl hh
        clear hrest hupd hob h1 h2
        revert hso
        simp only [upd, hκ, cond_false]
        generalize (bif κ j then updE ops.toList j L else updR ops.toList j L) = M
        intro hso
        induction M with
        | nil => trivial
        | cons e r ihM =>
          refine ⟨?_, ihM hso.2⟩
          have := hso.1
          cases hd : depsIn ops.toList e.1 i <;> simpa [hd] using this
      refine ⟨hobj, ih (listed.setIfInBounds j true) (j :: S) (upd ops κ j L) a' w' hS' hfree' hon (ready_mono hr (Ne.symm hji)) hy' hob.1 hobj ?_⟩
      rw [Array.setIfInBounds_comm _ _ hji]
      exact wpL_same _ _ _ _ _ _ (.cons χ (fun _ => rfl) hsw) hrest
end
end Go.Mx
