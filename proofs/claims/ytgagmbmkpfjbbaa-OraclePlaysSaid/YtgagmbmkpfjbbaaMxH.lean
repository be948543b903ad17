/- Code, loops and functions. -/
import Derived.Test.YtgagmbmkpfjbbaaMxG
set_option linter.unusedSimpArgs false
set_option linter.unusedVariables false
set_option linter.unnecessarySimpa false
namespace Go.Mx

theorem least (p : Nat → Prop) (h : ∃ m, p m) : ∃ k, p k ∧ ∀ j, p j → k ≤ j := by
  obtain ⟨m, hm⟩ := h
  induction m using Nat.strongRecOn with
  | _ m ih =>
    by_cases h : ∃ j, j < m ∧ p j
    · obtain ⟨j, hj, hp⟩ := h; exact ih j hj hp
    · exact ⟨m, hm, fun j hj => Nat.le_of_not_lt fun hlt => h ⟨j, hlt, hj⟩⟩

/-- a loop, its rounds ranked by a number that falls. -/
theorem wp_loop_ranked {P : Program} {Q : Exit → Act → World → Prop} {c : Code} (J : Nat → Act → World → Prop) {m : Nat} {a : Act} {w : World} (h0 : J m a w)
    (round : ∀ m a w, J m a w → c.wp P (Exit.then (fun a' w' => ∃ m', m' < m ∧ J m' a' w') Q) a w) : (Code.loop c).wp P Q a w := by
  classical
  let μ : Act → World → Nat := fun a w => if h : ∃ m, J m a w then Classical.choose (least (fun m => J m a w) h) else 0
  have hμ : ∀ a w (h : ∃ m, J m a w), J (μ a w) a w ∧ ∀ j, J j a w → μ a w ≤ j := fun a w h => by
    have hs := Classical.choose_spec (least (fun m => J m a w) h)
    simp only [μ, h, dif_pos]
    exact hs
  refine wp_loop (fun a w => ∃ m, J m a w) μ ⟨m, h0⟩ fun a w hI => ?_
  refine Code.wp_mono (fun e a' w' he => ?_) (round _ a w (hμ a w hI).1)
  cases e <;> try exact he
  obtain ⟨m', hlt, hJ⟩ := he
  exact ⟨⟨m', hJ⟩, Nat.lt_of_le_of_lt ((hμ a' w' ⟨m', hJ⟩).2 m' hJ) hlt⟩

/-- hints: for each loop's block: slots that stay, slots that turn and the shapes of what they hold. -/
abbrev Hints := List (Nat × List Nat × List (Nat × Sh))
def hget : Hints → Nat → Option (List Nat × List (Nat × Sh))
  | [], _ => none
  | p :: r, t => bif Nat.beq p.1 t then some p.2 else hget r t

abbrev Cont := Fs → World → Prop
structure Kx where
  n : Cont
  r : Cont
  ex : List (Nat × Cont)
def exget : List (Nat × Cont) → Nat → Option Cont
  | [], _ => none
  | p :: r, t => bif Nat.beq p.1 t then some p.2 else exget r t
def exmap (g : Cont → Cont) : List (Nat × Cont) → List (Nat × Cont)
  | [] => []
  | p :: r => (p.1, g p.2) :: exmap g r
theorem exget_exmap {g : Cont → Cont} : ∀ {l : List (Nat × Cont)} {t : Nat} {k : Cont}, exget (exmap g l) t = some k → ∃ k', exget l t = some k' ∧ k = g k'
  | [], _, _, h => by simp [exmap, exget] at h
  | p :: r, t, k, h => by
    simp only [exmap, exget] at h ⊢
    cases hb : Nat.beq p.1 t
    · simp only [hb, cond_false] at h ⊢; exact exget_exmap h
    · simp only [hb, cond_true, Option.some.injEq] at h ⊢; exact ⟨p.2, rfl, h.symm⟩

def getAll (f : Fs) : List Nat → Option (List Value)
  | [] => some []
  | t :: r => match get f t with | some v => (match getAll f r with | some vs => some (v :: vs) | none => none) | none => none
def zipF : List Nat → List Value → Fs
  | t :: r, v :: vs => (t, v) :: zipF r vs
  | _, _ => []
theorem getAll_zip {f : Fs} : ∀ {l : List Nat} {vs : List Value}, getAll f l = some vs → ∀ t v, get (zipF l vs) t = some v → get f t = some v
  | [], vs, h, t, v, hv => by simp [zipF, get] at hv
  | x :: r, vs, h, t, v, hv => by
    simp only [getAll] at h
    split at h
    · rename_i u hu
      split at h
      · rename_i us hus
        simp only [Option.some.injEq] at h
        subst h
        simp only [zipF, get] at hv
        cases hb : Nat.beq x t
        · simp only [hb, cond_false] at hv; exact getAll_zip hus t v hv
        · simp only [hb, cond_true, Option.some.injEq] at hv
          have := beq_true hb
          subst this; subst hv; exact hu
      · cases h
    · cases h
/-- facts of which a slot is among those of another list. -/
def keepF (g : Fs) : Fs → Fs
  | [] => []
  | p :: r => bif has g p.1 then p :: keepF g r else keepF g r
theorem get_keepF {g : Fs} : ∀ {f : Fs} {t : Nat}, get (keepF g f) t = if has g t then get f t else none
  | [], t => by simp [keepF, get]
  | p :: r, t => by
    simp only [keepF]
    cases hb : Nat.beq p.1 t
    · cases hh : has g p.1 <;> simp only [cond_true, cond_false, get, hb] <;> exact get_keepF
    · have := beq_true hb
      subst this
      cases hh : has g p.1
      · simp only [cond_false]; rw [get_keepF]; simp [hh]
      · simp [get, hh]
theorem has_get {f : Fs} {t : Nat} (h : has f t = false) : get f t = none := by
  induction f with
  | nil => rfl
  | cons p r ih =>
    simp only [has] at h
    simp only [get]
    cases hb : Nat.beq p.1 t
    · simp only [hb, cond_false] at h ⊢; exact ih h
    · simp [hb] at h
theorem get_has {f : Fs} {t : Nat} {v : Value} (h : get f t = some v) : has f t = true := by
  cases hh : has f t
  · rw [has_get hh] at h; cases h
  · rfl
def disjF (g : Fs) : Fs → Bool
  | [] => true
  | p :: r => bif has g p.1 then false else disjF g r
theorem disjF_spec {g : Fs} : ∀ {f : Fs}, disjF g f = true → ∀ t v, get f t = some v → has g t = false
  | [], _, t, v, h => by simp [get] at h
  | p :: r, hd, t, v, h => by
    simp only [disjF] at hd
    cases hh : has g p.1
    · simp only [hh, cond_false] at hd
      simp only [get] at h
      cases hb : Nat.beq p.1 t
      · simp only [hb, cond_false] at h; exact disjF_spec hd t v h
      · have := beq_true hb; subst this; exact hh
    · simp [hh] at hd
def subF (g : Fs) : Fs → Bool
  | [] => true
  | p :: r => bif has g p.1 then subF g r else false
theorem subF_spec {g : Fs} : ∀ {f : Fs}, subF g f = true → ∀ t v, get f t = some v → has g t = true
  | [], _, t, v, h => by simp [get] at h
  | p :: r, hd, t, v, h => by
    simp only [subF] at hd
    cases hh : has g p.1
    · simp [hh] at hd
    · simp only [hh, cond_true] at hd
      simp only [get] at h
      cases hb : Nat.beq p.1 t
      · simp only [hb, cond_false] at h; exact subF_spec hd t v h
      · have := beq_true hb; subst this; exact hh

def mcode (P : Program) (H : Hints) (N : Nat) : Code → Fs → Kx → Fs → World → Prop
  | .skip, _, K, f, w => K.n f w
  | .seq a b, lo, K, f, w => mcode P H N a lo { K with n := fun f w => mcode P H N b lo K f w } f w
  | .cond c x y, lo, K, f, w =>
    match ev (f ++ lo) c with
    | some (.bool b) => bif b then mcode P H N x lo K f w else mcode P H N y lo K f w
    | _ => False
  | .region _ ops draw, lo, K, f, w =>
    match draw with
    | false => mops P N ops.toList lo ops.toList [] f w K.n
    | true => bif regOk ops.toList then mdraw P N ops.toList lo ops.toList.length [] [] [] f w.drew K.n else False
  | .block id (.loop body), lo, K, f, w =>
    match hget H id with
    | none => False
    | some hs =>
      match getAll (f ++ lo) hs.1, getAll (f ++ lo) (hs.2.map (·.1)) with
      | some cv, some vv =>
        bif (subF (zipF hs.1 cv) lo && sfitsAll (hs.2.map (·.2)) vv) then
          ∃ (I : Nat → List Value → World → Prop) (m : Nat), I m vv w ∧ ∀ (m : Nat) (w : World), salls (hs.2.map (·.2)) fun vs => I m vs w →
            mcode P H N body (zipF hs.1 cv)
              { n := fun f' w' => bif disjF f' (zipF hs.1 cv) then
                      (match getAll f' (hs.2.map (·.1)) with
                       | some vs' => bif sfitsAll (hs.2.map (·.2)) vs' then ∃ m', m' < m ∧ I m' vs' w' else False
                       | none => False)
                    else False
                r := fun f' w' => K.r (f' ++ keepF f (zipF hs.1 cv)) w'
                ex := (id, fun f' w' => K.n (f' ++ keepF f (zipF hs.1 cv)) w') :: exmap (fun k f' w' => k (f' ++ keepF f (zipF hs.1 cv)) w') K.ex }
              (zipF (hs.2.map (·.1)) vs) w
        else False
      | _, _ => False
  | .block id c, lo, K, f, w => mcode P H N c lo { K with ex := (id, K.n) :: K.ex } f w
  | .exit id, _, K, f, w => match exget K.ex id with | some k => k f w | none => False
  | .ret, _, K, f, w => K.r f w
  | _, _, _, _, _ => False

def post (N : Nat) (lo : Fs) (K : Kx) : Exit → Act → World → Prop
  | .normal, a, w => ∃ f, Fr N (f ++ lo) a ∧ K.n f w
  | .ret, a, w => ∃ f, Fr N (f ++ lo) a ∧ K.r f w
  | .exit id, a, w => ∃ f k, exget K.ex id = some k ∧ Fr N (f ++ lo) a ∧ k f w
  | _, _, _ => False

section
variable {P : Program} {H : Hints} {N : Nat}

theorem has_some {f : Fs} {t : Nat} (h : has f t = true) : get f t ≠ none := by
  induction f with
  | nil => cases h
  | cons p r ih =>
    simp only [has] at h
    simp only [get]
    cases hb : Nat.beq p.1 t
    · simp only [hb, cond_false] at h ⊢; exact ih h
    · simp

theorem fr_conv {f f' f0 lo : Fs} {a : Act} (hf : Fr N (f' ++ f0) a)
    (hlo : ∀ t v, get lo t = some v → has f0 t = true) (h0 : ∀ t v, get f0 t = some v → get (f ++ lo) t = some v) : Fr N ((f' ++ keepF f f0) ++ lo) a := by
  refine ⟨hf.size, hf.defers, fun t v ht => hf.at_ t v ?_⟩
  rw [get_append, get_append, get_keepF] at ht
  rw [get_append]
  cases h1 : get f' t with
  | some u => simpa [h1] using ht
  | none =>
    simp only [h1, Option.none_or] at ht ⊢
    cases hh : has f t
    · simp only [hh, Bool.false_eq_true, if_false, Option.none_or] at ht
      cases h2 : get f0 t with
      | some u =>
        have := h0 t u h2
        rw [get_append, has_get hh, Option.none_or, ht] at this
        exact this.symm
      | none => exact absurd h2 (has_some (hlo t v ht))
    · simp only [hh, if_true] at ht
      cases h2 : get f0 t with
      | some u => simpa [h2] using ht
      | none =>
        simp only [h2, Option.none_or] at ht
        exact absurd h2 (has_some (hlo t v ht))

theorem mcode_block {id : Nat} {c : Code} (h : ∀ b, c ≠ .loop b) (lo : Fs) (K : Kx) (f : Fs) (w : World) :
    mcode P H N (.block id c) lo K f w = mcode P H N c lo { K with ex := (id, K.n) :: K.ex } f w := by
  cases c <;> first | rfl | exact absurd rfl (h _)

theorem mcode_ok (hm : P.follows .mixedOrders = true) (c : Code) (lo : Fs) (K : Kx) (f : Fs) (w : World) (a : Act)
    (h : mcode P H N c lo K f w) (hf : Fr N (f ++ lo) a) : c.wp P (post N lo K) a w := by
  have hp : ∀ (lo : Fs) (K : Kx) c a w, ¬ post N lo K (.panic c) a w := fun lo K c a w h => h
  match c, h with
  | .skip, h => exact wp_skip ⟨f, hf, h⟩
  | .seq x y, h =>
    refine wp_seq (Code.wp_mono (fun e a' w' he => ?_) (mcode_ok hm x lo _ f w a h hf))
    cases e <;> try exact he
    obtain ⟨f', hf', h'⟩ := he
    exact mcode_ok hm y lo K f' w' a' h' hf'
  | .cond c x y, h =>
    simp only [mcode] at h
    split at h
    · rename_i b hb
      have hc : a.eval c = .bool b := by
        have := hf.eval (x := c) (by rw [hb]; rfl)
        rw [this, rho, hb]; rfl
      refine wp_cond_split hc (fun ht => ?_) (fun ht => ?_)
      · subst ht; exact mcode_ok hm x lo K f w a h hf
      · subst ht; exact mcode_ok hm y lo K f w a h hf
    · exact h.elim
  | .region id ops draw, h =>
    have hQ : ∀ (f : Fs) (w : World) (a : Act), K.n f w → Fr N (f ++ lo) a → post N lo K .normal a w := fun f w a h hf => ⟨f, hf, h⟩
    have hd0 : DgOk [] (f ++ lo) := fun s b hs => by cases hs
    cases draw
    · simp only [mcode] at h
      have := mops_ok hQ ops.toList [] f w a h hf hd0
      exact wp_region_list (by simpa using this)
    · simp only [mcode] at h
      cases hr : regOk ops.toList
      · simp [hr] at h
      · simp only [hr, cond_true] at h
        refine wp_region_any hm (wpAny_of_L _ _ [] _ _ (κ := kap P ops.toList) ?_)
        have hl : Lst ops.toList.length (Array.replicate ops.size false) [] := ⟨by simp, fun t ht => by
          have : t < ops.size := by simpa using ht
          simp [memN, this]⟩
        have := mdraw_ok (lo := lo) hr hQ (hp lo K) ops.toList.length [] [] [] f w.drew (Array.replicate ops.size false) a hl trivial hf hd0 h
        simpa using this
  | .block id c, h =>
    by_cases hl : ∃ b, c = .loop b
    · obtain ⟨body, rfl⟩ := hl
      simp only [mcode] at h
      split at h
      · exact h.elim
      · rename_i hs hhs
        split at h
        · rename_i cv vv hcv hvv
          cases hc : (subF (zipF hs.1 cv) lo && sfitsAll (hs.2.map (·.2)) vv)
          · simp [hc] at h
          · simp only [hc, cond_true] at h
            rw [Bool.and_eq_true] at hc
            obtain ⟨hsub, hfit⟩ := hc
            obtain ⟨I, m, hI, hround⟩ := h
            have hlo : ∀ t v, get lo t = some v → has (zipF hs.1 cv) t = true := subF_spec hsub
            have h0 : ∀ t v, get (zipF hs.1 cv) t = some v → get (f ++ lo) t = some v := getAll_zip hcv
            refine wp_block (wp_loop_ranked (fun m a w => ∃ vs, I m vs w ∧ sfitsAll (hs.2.map (·.2)) vs = true ∧ Fr N (zipF (hs.2.map (·.1)) vs ++ zipF hs.1 cv) a) (m := m) ⟨vv, hI, hfit, ?_⟩ fun m a w hJ => ?_)
            · refine ⟨hf.size, hf.defers, fun t v ht => hf.at_ t v ?_⟩
              rw [get_append] at ht
              cases h1 : get (zipF (hs.2.map (·.1)) vv) t with
              | some u => rw [h1] at ht; obtain rfl : u = v := (by simpa using ht); exact getAll_zip hvv t u h1
              | none => rw [h1] at ht; exact h0 t v (by simpa using ht)
            · obtain ⟨vs, hIv, hfv, hfr⟩ := hJ
              have hb := salls_out (hround m w) hfv hIv
              refine Code.wp_mono (fun e a' w' he => ?_) (mcode_ok hm body _ _ _ w a hb hfr)
              cases e with
              | normal =>
                obtain ⟨f', hf', h'⟩ := he
                simp only at h'
                cases hd : disjF f' (zipF hs.1 cv)
                · simp [hd] at h'
                · simp only [hd, cond_true] at h'
                  split at h'
                  · rename_i vs' hvs'
                    cases hft : sfitsAll (hs.2.map (·.2)) vs'
                    · simp [hft] at h'
                    · simp only [hft, cond_true] at h'
                      obtain ⟨m', hlt, hI'⟩ := h'
                      refine ⟨m', hlt, vs', hI', hft, hf'.size, hf'.defers, fun t v ht => hf'.at_ t v ?_⟩
                      rw [get_append] at ht
                      rw [get_append]
                      cases h1 : get (zipF (hs.2.map (·.1)) vs') t with
                      | some u =>
                        rw [h1] at ht
                        obtain rfl : u = v := by simpa using ht
                        rw [getAll_zip hvs' t u h1]; rfl
                      | none =>
                        rw [h1] at ht
                        have h2 : get (zipF hs.1 cv) t = some v := by simpa using ht
                        rw [has_get (disjF_spec hd t v h2), h2]; rfl
                  · exact h'.elim
              | ret =>
                obtain ⟨f', hf', h'⟩ := he
                exact ⟨_, fr_conv hf' hlo h0, h'⟩
              | exit id' =>
                obtain ⟨f', k, hk, hf', h'⟩ := he
                simp only [exget] at hk
                simp only [Exit.then, Exit.inBlock]
                cases hq : Nat.beq id id'
                · simp only [hq, cond_false] at hk
                  have hne : id' ≠ id := fun e => by subst e; simp at hq
                  rw [if_neg hne]
                  obtain ⟨k', hk', rfl⟩ := exget_exmap hk
                  exact ⟨_, k', hk', fr_conv hf' hlo h0, h'⟩
                · have := beq_true hq
                  subst this
                  simp only [Nat.beq_refl, cond_true, Option.some.injEq] at hk
                  subst hk
                  simp only [if_true]
                  exact ⟨_, fr_conv hf' hlo h0, h'⟩
              | goto l => exact he.elim
              | panic ch => exact he.elim
              | outgrown => exact he.elim
        · exact h.elim
    · rw [mcode_block (fun b e => hl ⟨b, e⟩)] at h
      refine wp_block (Code.wp_mono (fun e a' w' he => ?_) (mcode_ok hm c lo _ f w a h hf))
      cases e with
      | normal => exact he
      | ret => exact he
      | exit id' =>
        obtain ⟨f', k, hk, hf', h'⟩ := he
        simp only [exget] at hk
        simp only [Exit.inBlock]
        cases hq : Nat.beq id id'
        · simp only [hq, cond_false] at hk
          have hne : id' ≠ id := fun e => by subst e; simp at hq
          rw [if_neg hne]
          exact ⟨f', k, hk, hf', h'⟩
        · have := beq_true hq
          subst this
          simp only [Nat.beq_refl, cond_true, Option.some.injEq] at hk
          subst hk
          simp only [if_true]
          exact ⟨f', hf', h'⟩
      | goto l => exact he.elim
      | panic ch => exact he.elim
      | outgrown => exact he.elim
  | .exit id, h =>
    simp only [mcode] at h
    split at h
    · rename_i k hk
      exact wp_exit ⟨f, k, hk, hf, h⟩
    · exact h.elim
  | .ret, h => exact wp_ret ⟨f, hf, h⟩
  | .loop _, h => exact h.elim
  | .rangeFunc .., h => exact h.elim
  | .scope _, h => exact h.elim
  | .label _, h => exact h.elim
  | .goto _, h => exact h.elim
  | .refuse _, h => exact h.elim
termination_by SizeOf.sizeOf c
end

/-! ### functions -/
def wrapR : List Value → Value
  | [v] => v
  | vs => .tuple vs.toArray
def mres (P : Program) (f : Fs) (w : World) : List ResultVar → List Value → (List Value → Prop) → Prop
  | [], acc, Φ => Φ acc
  | .tmp t :: r, acc, Φ => match get f t with | some v => mres P f w r (acc ++ [v]) Φ | none => False
  | .cell t ty :: r, acc, Φ => match get f t with | some (.pointer (some ad)) => mload P ty ad w (fun v _ => mres P f w r (acc ++ [v]) Φ) | _ => False
def argsF : List Value → Nat → Fs
  | [], _ => []
  | v :: r, i => (i, v) :: argsF r (i + 1)
/-- what a function asks, so that it hands back what R lets. -/
def mfunc (P : Program) (H : Hints) (k : Nat) (args : List Value) (R : Value → World → Prop) (w : World) : Prop :=
  match P.funcs[k]? with
  | some fn =>
    match fn.body with
    | some c =>
      bif Nat.ble args.length fn.ntmps then
        mcode P H fn.ntmps c [] { n := fun f w => mres P f w fn.results.toList [] (fun vs => R (wrapR vs) w), r := fun f w => mres P f w fn.results.toList [] (fun vs => R (wrapR vs) w), ex := [] } (argsF args 0) w
      else False
    | none => False
  | none => False

section
variable {P : Program} {H : Hints}
theorem get_argsF : ∀ {l : List Value} {i t : Nat} {v : Value}, get (argsF l i) t = some v → ∃ j, t = i + j ∧ l[j]? = some v
  | [], i, t, v, h => by simp [argsF, get] at h
  | x :: r, i, t, v, h => by
    simp only [argsF, get] at h
    cases hb : Nat.beq i t
    · simp only [hb, cond_false] at h
      obtain ⟨j, rfl, hj⟩ := get_argsF h
      exact ⟨j + 1, by omega, by simpa using hj⟩
    · simp only [hb, cond_true, Option.some.injEq] at h
      have := beq_true hb
      exact ⟨0, by omega, by simp [h]⟩

def resG (tmps : Array Value) : ResultVar → Sem Value
  | .tmp t => pure (tmps.getD t undef)
  | .cell b t => do loadVar t (← asAddr (tmps.getD b undef))
theorem results_eq (fn : Func) (tmps : Array Value) : results fn tmps = (do
    let vs ← fn.results.mapM (resG tmps)
    pure (if h : vs.size = 1 then vs[0] else .tuple vs)) := by
  unfold results
  congr 1

theorem mres_ok {n : Nat} {f : Fs} {w : World} {a : Act} (hf : Fr n f a) : ∀ (l : List ResultVar) (acc : List Value) (Φ : List Value → Prop), mres P f w l acc Φ →
    ∃ vs, (l.mapM (resG a.tmps)).run P w = .ok vs w ∧ Φ (acc ++ vs)
  | [], acc, Φ, h => ⟨[], by simp, by simpa [mres] using h⟩
  | .tmp t :: r, acc, Φ, h => by
    simp only [mres] at h
    split at h
    · rename_i v hv
      obtain ⟨vs, h1, h2⟩ := mres_ok hf r _ Φ h
      have hg : a.tmps[t]? = some v := hf.at_ t v hv
      refine ⟨v :: vs, ?_, by simpa using h2⟩
      rw [List.mapM_cons]
      have hgd : (resG a.tmps (.tmp t)).run P w = .ok v w := by simp [resG, hg]
      simp only [Sem.run_bind, Sem.run_pure, Result.andThen_ok, h1, hgd]
    · exact h.elim
  | .cell t ty :: r, acc, Φ, h => by
    simp only [mres] at h
    split at h
    · rename_i ad hv
      obtain ⟨v, χ, h1, h2, h3⟩ := run_loadVar h
      obtain ⟨vs, h4, h5⟩ := mres_ok hf r _ Φ h3
      have hg : a.tmps[t]? = some (.pointer (some ad)) := hf.at_ t _ hv
      refine ⟨v :: vs, ?_, by simpa using h5⟩
      rw [List.mapM_cons]
      have hgd : (resG a.tmps (.cell t ty)).run P w = .ok v w := by simp [resG, hg, asAddr, h2 w h1]
      simp only [Sem.run_bind, Sem.run_pure, Result.andThen_ok, hgd, h4]
    · exact h.elim

theorem results_ok {n : Nat} {f : Fs} {w : World} {a : Act} {fn : Func} (hf : Fr n f a) {R : Value → World → Prop} (h : mres P f w fn.results.toList [] (fun vs => R (wrapR vs) w)) :
    ∃ v, (results fn a.tmps).run P w = .ok v w ∧ R v w := by
  obtain ⟨vs, h1, h2⟩ := mres_ok hf _ _ _ h
  simp only [List.nil_append] at h2
  refine ⟨wrapR vs, ?_, h2⟩
  rw [results_eq]
  have e : fn.results = fn.results.toList.toArray := by simp
  rw [e, List.mapM_toArray]
  simp only [Sem.run_bind, Sem.run_map]
  rw [h1]
  simp only [Result.andThen_ok, Sem.run_pure, List.size_toArray]
  congr 1
  match vs with
  | [] => rfl
  | [v] => rfl
  | x :: y :: r => simp [wrapR]

/-- the function hands back what R lets. -/
theorem mfunc_ok (hm : P.follows .mixedOrders = true) {k : Nat} {args : List Value} {R : Value → World → Prop} {w : World} (h : mfunc P H k args R w) :
    Calls P k args.toArray w fun e w' => ∃ v, e = .returned v ∧ R v w' := by
  unfold mfunc at h
  split at h
  · rename_i fn hfn
    split at h
    · rename_i c hc
      cases hle : Nat.ble args.length fn.ntmps
      · simp [hle] at h
      · simp only [hle, cond_true] at h
        have hlen := Nat.le_of_ble_eq_true hle
        refine calls_of_wp hfn hc ?_
        have hfr : Fr fn.ntmps (argsF args 0 ++ []) { tmps := args.toArray ++ Array.replicate (fn.ntmps - args.toArray.size) undef, defers := [] } := by
          refine ⟨by simp; omega, rfl, fun t v ht => ?_⟩
          rw [List.append_nil] at ht
          obtain ⟨j, rfl, hj⟩ := get_argsF ht
          have hjl := (List.getElem?_eq_some_iff.1 hj).1
          rw [Nat.zero_add, Array.getElem?_append_left (by simpa using hjl)]
          simpa using hj
        refine Code.wp_mono (fun e a w' he => ?_) (mcode_ok hm c [] _ _ w _ h hfr)
        cases e with
        | normal =>
          obtain ⟨f, hf, h⟩ := he
          rw [List.append_nil] at hf
          obtain ⟨v, h1, h2⟩ := results_ok hf h
          exact ⟨hf.defers, v, h1, v, rfl, h2⟩
        | ret =>
          obtain ⟨f, hf, h⟩ := he
          rw [List.append_nil] at hf
          obtain ⟨v, h1, h2⟩ := results_ok hf h
          exact ⟨hf.defers, v, h1, v, rfl, h2⟩
        | exit id => obtain ⟨f, k, hk, _⟩ := he; cases hk
        | goto l => exact he.elim
        | panic ch => exact he.elim
        | outgrown => exact he.elim
    · exact h.elim
  · exact h.elim
end
/-- a new world, under a name. -/
def thenW (w : World) (K : World → Prop) : Prop := K w
theorem thenW_in {w : World} {K : World → Prop} (h : ∀ w', w' = w → K w') : thenW w K := h w rfl
/-- where a new block begins. -/
abbrev blk (n : Nat) : Addr := ⟨n, 0, none⟩
end Go.Mx
