/- Code that may panic; a function that defers a closure of its own. -/
import Derived.Test.YtoempemllkebkaaZA
import Derived.Recover
import Derived.Test.YtoempemllkebkaaZB
import Derived.ArgAppend
import Derived.Laws.StructEq
set_option linter.unusedSimpArgs false
set_option linter.unusedVariables false
set_option linter.unnecessarySimpa false
namespace Go.Mx

abbrev Pan := Fs → List PanicEntry → World → Prop
def pop1 (P : Program) (f : Fs) (o : Oper) (w : World) (K : RW) (Φ : Pan) : Prop :=
  match o.op with
  | .panic x =>
    (match ev f x with
    | some (.iface t v) => Φ f [{ v := .iface t v, recovered := false }] w
    | _ => False)
  | .call c =>
    (match c.callee with
    | .value g =>
      bif known f (opnds o.op) then
        (match rho f g with
        | .func (.func k) first cap => bif enters P k then Calls P k (first.toList ++ c.args.toList.map (rho f) ++ cap.toList).toArray w (fun e w' => (resEx P o.type fun v => e = .returned v ∧ K v w') ∨ ∃ ch, e = .panicked ch ∧ Φ f ch w') else False
        | _ => False)
      else False
    | _ => mopF P f o w K)
  | _ => mopF P f o w K
def pops (P : Program) (N : Nat) (ops : List Oper) (lo : Fs) (Φ : Pan) : List Oper → Dg → Fs → World → (Fs → World → Prop) → Prop
  | [], _, f, w, K => K f w
  | o :: rest, dg, f, w, K =>
    gask ops lo f dg o fun b dg f =>
      bif b then pop1 P (f ++ lo) o w (fun v w' => putK N o.dst v dg f fun dg f => pops P N ops lo Φ rest dg f w' K) Φ
      else putK N o.dst undef dg f fun dg f => pops P N ops lo Φ rest dg f w K

theorem pop1_wp {P : Program} {D : List Deferred} {n : Nat} {f : Fs} {a : Act} {o : Oper} {w : World} {K : RW} {Φ : Pan} {next : Act → World → Prop} {Q : Exit → Act → World → Prop}
    (hf : Fr D n f a) (h : pop1 P f o w K Φ) (hk : ∀ v w', K v w' → next (a.put o.dst v) w') (hQ : ∀ ch w', Φ f ch w' → Q (.panic ch) a w') : o.wp P a w next Q := by
  unfold pop1 at h
  split at h
  · rename_i x ho
    split at h
    · rename_i t v hv
      have he : a.eval x = .iface t v := by rw [hf.eval (by rw [hv]; rfl)]; unfold rho; rw [hv]; rfl
      have hr : (execOp a.eval o).run P w = .halt (.panic (.iface t v)) w := by
        simp only [execOp, ho, he, Instr.panic, Sem.run_bind]
        rfl
      unfold Oper.wp
      rw [hr]
      exact hQ _ _ h
    · exact h.elim
  · rename_i c ho
    split at h
    · rename_i g hg
      cases hkn : known f (opnds o.op)
      · simp [hkn] at h
      · simp only [hkn, cond_true] at h
        split at h
        · rename_i k first cap hfn
          cases hen : enters P k
          · simp [hen] at h
          · simp only [hen, cond_true] at h
            have hs : isSel o.op = false := by rw [ho]; rfl
            have hr : (execOp a.eval o).run P w = .ok (.enter k (first.toList ++ c.args.toList.map (rho f) ++ cap.toList).toArray) w := by
              rw [Q1U hf hkn hs]
              simp only [execOp, ho, resolve, hg, hfn, Deferred.ofValue, pure_bind, invoke, Sem.run_bind, Sem.run_pure, Result.andThen_ok, Q1t hen]
              congr 2
              apply Array.ext'
              simp
            unfold Oper.wp
            rw [hr, Oper.upon_enter]
            refine h.mono fun e w'' hh => ?_
            rcases hh with hh | ⟨ch, rfl, hh⟩
            · obtain ⟨v, rfl, h2⟩ := Q1h hh
              exact hk _ _ h2
            · exact hQ _ _ hh
        · exact h.elim
    · exact (mopF_ok hf h).wp hk
  · exact (mopF_ok hf h).wp hk

theorem pops_ok {D : List Deferred} {P : Program} {N : Nat} {ops : List Oper} {lo : Fs} {Φ : Pan} {Q : Exit → Act → World → Prop} {K : Fs → World → Prop}
    (hQ : ∀ f w a, K f w → Fr D N (f ++ lo) a → Q .normal a w) (hP : ∀ g ch w a, Φ g ch w → Fr D N g a → Q (.panic ch) a w) :
    ∀ (l : List Oper) (dg : Dg) (f : Fs) (w : World) (a : Act), pops P N ops lo Φ l dg f w K → Fr D N (f ++ lo) a → DgOk dg (f ++ lo) → wpList P ops.toArray Q l a w
  | [], dg, f, w, a, h, hf, hd => hQ f w a h hf
  | o :: rest, dg, f, w, a, h, hf, hd => by
    simp only [pops] at h
    obtain ⟨b, dg1, f1, hb, h, hf1, hd1⟩ := gask_ok (P := P) h hf hd
    unfold wpList
    cases b
    · rw [hb]
      simp only [cond_false] at h
      obtain ⟨dg2, f2, h, hf2, hd2⟩ := putK_ok h hf1 hd1
      exact pops_ok hQ hP rest dg2 f2 w _ h hf2 hd2
    · rw [hb]
      simp only [cond_true] at h
      refine .inl (pop1_wp hf1 h (fun v w' h => ?_) fun ch w' h => hP _ ch w' a h hf1)
      obtain ⟨dg2, f2, h, hf2, hd2⟩ := putK_ok h hf1 hd1
      exact pops_ok hQ hP rest dg2 f2 w' _ h hf2 hd2

def pcode (P : Program) (H : Hints) (N : Nat) (Φ : Pan) : Code → Fs → Kx → Fs → World → Prop
  | .skip, _, K, f, w => K.n f w
  | .seq a b, lo, K, f, w => pcode P H N Φ a lo { K with n := fun f w => pcode P H N Φ b lo K f w } f w
  | .cond c x y, lo, K, f, w =>
    match ev (f ++ lo) c with
    | some (.bool b) => bif b then pcode P H N Φ x lo K f w else pcode P H N Φ y lo K f w
    | _ => False
  | .region _ ops draw, lo, K, f, w =>
    match draw with
    | false => pops P N ops.toList lo Φ ops.toList [] f w K.n
    | true => bif regOk ops.toList then mdraw P N ops.toList lo ops.toList.length [] [] [] f w.drew K.n else False
  | .block id (.loop body), lo, K, f, w =>
    match hget H id with
    | none => False
    | some hs =>
      match getAll (f ++ lo) hs.1, getAll (f ++ lo) (hs.2.map (·.1)) with
      | some cv, some vv =>
        bif (subF (zipF hs.1 cv) lo && Q0K (hs.2.map (·.2)) vv) then
          ∃ (I : Nat → List Value → World → Prop) (m : Nat), I m vv w ∧ ∀ (m : Nat) (w : World), salls (hs.2.map (·.2)) fun vs => I m vs w →
            pcode P H N Φ body (zipF hs.1 cv)
              { n := fun f' w' => bif disjF f' (zipF hs.1 cv) then
                      (match getAll f' (hs.2.map (·.1)) with
                       | some vs' => bif Q0K (hs.2.map (·.2)) vs' then ∃ m', m' < m ∧ I m' vs' w' else False
                       | none => False)
                    else False
                r := fun f' w' => K.r (f' ++ keepF f (zipF hs.1 cv)) w'
                ex := (id, fun f' w' => K.n (f' ++ keepF f (zipF hs.1 cv)) w') :: exmap (fun k f' w' => k (f' ++ keepF f (zipF hs.1 cv)) w') K.ex }
              (zipF (hs.2.map (·.1)) vs) w
        else False
      | _, _ => False
  | .block id c, lo, K, f, w => pcode P H N Φ c lo { K with ex := (id, K.n) :: K.ex } f w
  | .exit id, _, K, f, w => match exget K.ex id with | some k => k f w | none => False
  | .ret, _, K, f, w => K.r f w
  | _, _, _, _, _ => False

def postP (D : List Deferred) (N : Nat) (lo : Fs) (K : Kx) (Φ : Pan) : Exit → Act → World → Prop
  | .normal, a, w => ∃ f, Fr D N (f ++ lo) a ∧ K.n f w
  | .ret, a, w => ∃ f, Fr D N (f ++ lo) a ∧ K.r f w
  | .exit id, a, w => ∃ f k, exget K.ex id = some k ∧ Fr D N (f ++ lo) a ∧ k f w
  | .panic ch, a, w => ∃ g, Fr D N g a ∧ Φ g ch w
  | _, _, _ => False

section
variable {P : Program} {H : Hints} {N : Nat} {D : List Deferred} {Φ : Pan}
theorem post_P {lo : Fs} {K : Kx} {e : Exit} {a : Act} {w : World} (h : post D N lo K e a w) : postP D N lo K Φ e a w := by
  cases e <;> first | exact h | exact h.elim
theorem Q2W {id : Nat} {c : Code} (h : ∀ b, c ≠ .loop b) (lo : Fs) (K : Kx) (f : Fs) (w : World) :
    pcode P H N Φ (.block id c) lo K f w = pcode P H N Φ c lo { K with ex := (id, K.n) :: K.ex } f w := by
  cases c <;> first | rfl | exact absurd rfl (h _)

theorem Q15 (hm : P.follows .mixedOrders = true) (c : Code) (lo : Fs) (K : Kx) (f : Fs) (w : World) (a : Act)
    (h : pcode P H N Φ c lo K f w) (hf : Fr D N (f ++ lo) a) : c.wp P (postP D N lo K Φ) a w := by
  match c, h with
  | .skip, h => exact wp_skip ⟨f, hf, h⟩
  | .seq x y, h =>
    refine wp_seq (Code.wp_mono (fun e a' w' he => ?_) (Q15 hm x lo _ f w a h hf))
    cases e <;> try exact he
    obtain ⟨f', hf', h'⟩ := he
    exact Q15 hm y lo K f' w' a' h' hf'
  | .cond c x y, h =>
    simp only [pcode] at h
    split at h
    · rename_i b hb
      have hc : a.eval c = .bool b := by
        have := hf.eval (x := c) (by rw [hb]; rfl)
        rw [this, rho, hb]; rfl
      refine wp_cond_split hc (fun ht => ?_) (fun ht => ?_)
      · subst ht; exact Q15 hm x lo K f w a h hf
      · subst ht; exact Q15 hm y lo K f w a h hf
    · exact h.elim
  | .region id ops draw, h =>
    have hd0 : DgOk [] (f ++ lo) := fun s b hs => by cases hs
    cases draw
    · simp only [pcode] at h
      have := pops_ok (Q := postP D N lo K Φ) (fun f w a h hf => ⟨f, hf, h⟩) (fun g ch w a h hf => ⟨g, hf, h⟩) ops.toList [] f w a h hf hd0
      exact wp_region_list (by simpa using this)
    · exact Code.wp_mono (fun e a' w' he => post_P he) (Q0S (H := H) hm (.region id ops true) lo K f w a h hf)
  | .block id c, h =>
    by_cases hl : ∃ b, c = .loop b
    · obtain ⟨body, rfl⟩ := hl
      simp only [pcode] at h
      split at h
      · exact h.elim
      · rename_i hs hhs
        split at h
        · rename_i cv vv hcv hvv
          cases hc : (subF (zipF hs.1 cv) lo && Q0K (hs.2.map (·.2)) vv)
          · simp [hc] at h
          · simp only [hc, cond_true] at h
            rw [Bool.and_eq_true] at hc
            obtain ⟨hsub, hfit⟩ := hc
            obtain ⟨I, m, hI, hround⟩ := h
            have hlo : ∀ t v, get lo t = some v → has (zipF hs.1 cv) t = true := Q1X hsub
            have h0 : ∀ t v, get (zipF hs.1 cv) t = some v → get (f ++ lo) t = some v := Q0T hcv
            refine wp_block (Q1q (fun m a w => ∃ vs, I m vs w ∧ Q0K (hs.2.map (·.2)) vs = true ∧ Fr D N (zipF (hs.2.map (·.1)) vs ++ zipF hs.1 cv) a) (m := m) ⟨vv, hI, hfit, ?_⟩ fun m a w hJ => ?_)
            · refine ⟨hf.size, hf.defers, fun t v ht => hf.at_ t v ?_⟩
              rw [Q0L] at ht
              cases h1 : get (zipF (hs.2.map (·.1)) vv) t with
              | some u => rw [h1] at ht; obtain rfl : u = v := (by simpa using ht); exact Q0T hvv t u h1
              | none => rw [h1] at ht; exact h0 t v (by simpa using ht)
            · obtain ⟨vs, hIv, hfv, hfr⟩ := hJ
              have hb := Q2a (hround m w) hfv hIv
              refine Code.wp_mono (fun e a' w' he => ?_) (Q15 hm body _ _ _ w a hb hfr)
              cases e with
              | normal =>
                obtain ⟨f', hf', h'⟩ := he
                simp only at h'
                cases hd : disjF f' (zipF hs.1 cv)
                · simp [hd] at h'
                · simp only [hd, cond_true] at h'
                  split at h'
                  · rename_i vs' hvs'
                    cases hft : Q0K (hs.2.map (·.2)) vs'
                    · simp [hft] at h'
                    · simp only [hft, cond_true] at h'
                      obtain ⟨m', hlt, hI'⟩ := h'
                      refine ⟨m', hlt, vs', hI', hft, hf'.size, hf'.defers, fun t v ht => hf'.at_ t v ?_⟩
                      rw [Q0L] at ht
                      rw [Q0L]
                      cases h1 : get (zipF (hs.2.map (·.1)) vs') t with
                      | some u =>
                        rw [h1] at ht
                        obtain rfl : u = v := by simpa using ht
                        rw [Q0T hvs' t u h1]; rfl
                      | none =>
                        rw [h1] at ht
                        have h2 : get (zipF hs.1 cv) t = some v := by simpa using ht
                        rw [has_get (Q1J hd t v h2), h2]; rfl
                  · exact h'.elim
              | ret =>
                obtain ⟨f', hf', h'⟩ := he
                exact ⟨_, fr_conv hf' hlo h0, h'⟩
              | exit id' =>
                obtain ⟨f', k, hk, hf', h'⟩ := he
                simp only [exget] at hk
                simp only [Exit.then, Exit.inBlock]
                cases hq : Nat.beq id id'
                · simp only [hq, cond_false] at hk
                  have hne : id' ≠ id := fun e => by subst e; simp at hq
                  rw [if_neg hne]
                  obtain ⟨k', hk', rfl⟩ := Q1u hk
                  exact ⟨_, k', hk', fr_conv hf' hlo h0, h'⟩
                · have := Q0E hq
                  subst this
                  simp only [Nat.beq_refl, cond_true, Option.some.injEq] at hk
                  subst hk
                  simp only [if_true]
                  exact ⟨_, fr_conv hf' hlo h0, h'⟩
              | goto l => exact he.elim
              | panic ch => exact he
              | outgrown => exact he.elim
        · exact h.elim
    · rw [Q2W (fun b e => hl ⟨b, e⟩)] at h
      refine wp_block (Code.wp_mono (fun e a' w' he => ?_) (Q15 hm c lo _ f w a h hf))
      cases e with
      | normal => exact he
      | ret => exact he
      | exit id' =>
        obtain ⟨f', k, hk, hf', h'⟩ := he
        simp only [exget] at hk
        simp only [Exit.inBlock]
        cases hq : Nat.beq id id'
        · simp only [hq, cond_false] at hk
          have hne : id' ≠ id := fun e => by subst e; simp at hq
          rw [if_neg hne]
          exact ⟨f', k, hk, hf', h'⟩
        · have := Q0E hq
          subst this
          simp only [Nat.beq_refl, cond_true, Option.some.injEq] at hk
          subst hk
          simp only [if_true]
          exact ⟨f', hf', h'⟩
      | goto l => exact he.elim
      | panic ch => exact he
      | outgrown => exact he.elim
  | .exit id, h =>
    simp only [pcode] at h
    split at h
    · rename_i k hk
      exact wp_exit ⟨f, k, hk, hf, h⟩
    · exact h.elim
  | .ret, h => exact wp_ret ⟨f, hf, h⟩
  | .loop _, h => exact h.elim
  | .rangeFunc .., h => exact h.elim
  | .scope _, h => exact h.elim
  | .label _, h => exact h.elim
  | .goto _, h => exact h.elim
  | .refuse _, h => exact h.elim
termination_by SizeOf.sizeOf c
end

def pfunc (P : Program) (H : Hints) (k : Nat) (args : List Value) (Φ : List PanicEntry → World → Prop) (R : RW) (w : World) : Prop :=
  match P.funcs[k]? with
  | some fn =>
    match fn.body with
    | some c =>
      bif Nat.ble args.length fn.ntmps then
        pcode P H fn.ntmps (fun _ ch w => Φ ch w) c [] { n := fun f w => mres P f w fn.results.toList [] (fun vs => R (wrapR vs) w), r := fun f w => mres P f w fn.results.toList [] (fun vs => R (wrapR vs) w), ex := [] } (argsF args 0) w
      else False
    | none => False
  | none => False
section
variable {P : Program} {H : Hints}
theorem fr_args {args : List Value} {n : Nat} (hlen : args.length ≤ n) : Fr [] n (argsF args 0 ++ []) { tmps := args.toArray ++ Array.replicate (n - args.toArray.size) undef, defers := [] } := by
  refine ⟨by simp; omega, rfl, fun t v ht => ?_⟩
  rw [List.append_nil] at ht
  obtain ⟨j, rfl, hj⟩ := Q1Z ht
  have hjl := (List.getElem?_eq_some_iff.1 hj).1
  rw [Nat.zero_add, Array.getElem?_append_left (by simpa using hjl)]
  simpa using hj
theorem Q1R (hm : P.follows .mixedOrders = true) {k : Nat} {args : List Value} {Φ : List PanicEntry → World → Prop} {R : RW} {w : World} (h : pfunc P H k args Φ R w) :
    Calls P k args.toArray w fun e w' => (∃ v, e = .returned v ∧ R v w') ∨ ∃ ch, e = .panicked ch ∧ Φ ch w' := by
  unfold pfunc at h
  split at h
  · rename_i fn hfn
    split at h
    · rename_i c hc
      cases hle : Nat.ble args.length fn.ntmps
      · simp [hle] at h
      · simp only [hle, cond_true] at h
        refine calls_of_wp hfn hc ?_
        refine Code.wp_mono (fun e a w' he => ?_) (Q15 hm c [] _ _ w _ h (fr_args (Nat.le_of_ble_eq_true hle)))
        cases e with
        | normal =>
          obtain ⟨f, hf, h⟩ := he
          rw [List.append_nil] at hf
          obtain ⟨v, h1, h2⟩ := Q0P hf h
          exact ⟨hf.defers, v, h1, .inl ⟨v, rfl, h2⟩⟩
        | ret =>
          obtain ⟨f, hf, h⟩ := he
          rw [List.append_nil] at hf
          obtain ⟨v, h1, h2⟩ := Q0P hf h
          exact ⟨hf.defers, v, h1, .inl ⟨v, rfl, h2⟩⟩
        | exit id => obtain ⟨f, k, hk, _⟩ := he; cases hk
        | goto l => exact he.elim
        | panic ch =>
          obtain ⟨g, hg, h⟩ := he
          exact ⟨hg.defers, .inr ⟨ch, rfl, h⟩⟩
        | outgrown => exact he.elim
    · exact h.elim
  · exact h.elim
def dfunc (P : Program) (H : Hints) (k : Nat) (args : List Value) (R : RW) (w : World) : Prop :=
  match P.funcs[k]? with
  | some fn =>
    match fn.body with
    | some (.seq A (.seq B (.seq (.region _ ops false) C))) =>
      bif Nat.ble args.length fn.ntmps then
        mcode P H fn.ntmps A [] ⟨fun f w => mcode P H fn.ntmps B [] ⟨fun f w =>
            (match ops.toList with
            | [o1, o2] =>
              (match o1.guard, o2.guard, o2.op, o2.dst with
              | none, none, .defer c, none =>
                (match c.callee, c.args.toList with
                | .value x, [] =>
                  mopF P f o1 w fun v w => putK fn.ntmps o1.dst v [] f fun _ f =>
                    match ev f x with
                    | some (.func (.func k') first caps) =>
                      bif enters P k' then
                        pcode P H fn.ntmps (fun g ch w => CallsD P k' (first ++ caps) (.panicking ch) w fun e u w' => ∃ v, e = .returned v ∧ settle u = .returning ∧ mres P g w' fn.results.toList [] (fun vs => R (wrapR vs) w')) C []
                          { n := fun _ _ => False, r := fun g w => CallsD P k' (first ++ caps) .returning w fun e u w' => ∃ v, e = .returned v ∧ settle u = .returning ∧ mres P g w' fn.results.toList [] (fun vs => R (wrapR vs) w'), ex := [] } f w
                      else False
                    | _ => False
                | _, _ => False)
              | _, _, _, _ => False)
            | _ => False),
            fun f w => mres P f w fn.results.toList [] (fun vs => R (wrapR vs) w), []⟩ f w,
          fun f w => mres P f w fn.results.toList [] (fun vs => R (wrapR vs) w), []⟩ (argsF args 0) w
      else False
    | _ => False
  | none => False
theorem Q2y {fn : Func} {tmps : Array Value} {D : List Deferred} {n : Nat} {g : Fs} {a : Act} (hg : Fr D n g a) {k : Nat} {first caps : Array Value} (hen : enters P k = true) {u : FrameMode} (hu : u ≠ .run) {w : World} {R : RW}
    (h : CallsD P k (first ++ caps) u w fun e u' w' => ∃ v, e = .returned v ∧ settle u' = .returning ∧ mres P g w' fn.results.toList [] (fun vs => R (wrapR vs) w')) :
    Leaves P fn a.tmps (fun e w' => ∃ v, e = .returned v ∧ R v w') [{ target := .fn (.func k) caps, args := first }] u w := by
  refine leaves_cons hu (by simp only [invoke, Q1t hen]) (h.mono fun e u' w' ⟨v, he, hs, hm⟩ => ?_)
  subst he
  show Leaves P fn a.tmps _ [] (settle u') w'
  rw [hs]
  obtain ⟨v, h1, h2⟩ := Q0P hg hm
  exact ⟨v, h1, v, rfl, h2⟩
theorem Q48 (hm : P.follows .mixedOrders = true) {k : Nat} {args : List Value} {R : RW} {w : World} (h : dfunc P H k args R w) :
    Calls P k args.toArray w fun e w' => ∃ v, e = .returned v ∧ R v w' := by
  unfold dfunc at h
  split at h
  · rename_i fn hfn
    split at h
    · rename_i A B id ops C hc
      cases hle : Nat.ble args.length fn.ntmps
      · simp [hle] at h
      · simp only [hle, cond_true] at h
        refine calls_of_wp_defers hfn hc ?_
        have hret : ∀ (lo f : Fs) (a : Act) (w : World), Fr [] fn.ntmps (f ++ []) a → mres P f w fn.results.toList [] (fun vs => R (wrapR vs) w) → bodyPostD P fn (fun e w' => ∃ v, e = .returned v ∧ R v w') .ret a w := fun lo f a w hf hr => by
          rw [List.append_nil] at hf
          obtain ⟨v, h1, h2⟩ := Q0P hf hr
          show Leaves P fn a.tmps _ a.defers .returning w
          rw [hf.defers]
          exact ⟨v, h1, v, rfl, h2⟩
        refine wp_seq (Code.wp_mono (fun e a w' he => ?_) (Q0S hm A [] _ _ w _ h (fr_args (Nat.le_of_ble_eq_true hle))))
        cases e with
        | ret => obtain ⟨f, hf, hr⟩ := he; exact hret [] f a w' hf hr
        | exit id => obtain ⟨f, k, hk, _⟩ := he; cases hk
        | goto l => exact he.elim
        | panic ch => exact he.elim
        | outgrown => exact he.elim
        | normal =>
          obtain ⟨f, hf, h⟩ := he
          refine wp_seq (Code.wp_mono (fun e a w' he => ?_) (Q0S hm B [] _ _ w' a h hf))
          cases e with
          | ret => obtain ⟨f, hf, hr⟩ := he; exact hret [] f a w' hf hr
          | exit id => obtain ⟨f, k, hk, _⟩ := he; cases hk
          | goto l => exact he.elim
          | panic ch => exact he.elim
          | outgrown => exact he.elim
          | normal =>
            obtain ⟨f, hf, h⟩ := he
            rw [List.append_nil] at hf
            split at h
            · rename_i o1 o2 hops
              split at h
              · rename_i c hg1 hg2 ho2 hd2
                split at h
                · rename_i x hcal hargs
                  refine wp_seq (wp_region_list ?_)
                  rw [hops]
                  have hops' : ops = [o1, o2].toArray := by rw [← hops]
                  rw [hops']
                  unfold wpList
                  have hw1 : Region.wanted o1 (yielded [o1, o2].toArray a.tmps) = true := by unfold Region.wanted; rw [hg1]
                  rw [if_pos hw1]
                  refine .inl ((mopF_ok hf h).wp fun v w2 h => ?_)
                  obtain ⟨dg2, f2, h, hf2, _⟩ := putK_ok (lo := []) (dg := []) h (by rw [List.append_nil]; exact hf) (fun s b hs => by cases hs)
                  rw [List.append_nil] at hf2
                  split at h
                  · rename_i k' first caps hev
                    cases hen : enters P k'
                    · simp [hen] at h
                    · simp only [hen, cond_true] at h
                      unfold wpList
                      have hw2 : Region.wanted o2 (yielded [o1, o2].toArray (a.put o1.dst v).tmps) = true := by unfold Region.wanted; rw [hg2]
                      rw [if_pos hw2]
                      refine .inl ?_
                      have hex : (a.put o1.dst v).eval x = .func (.func k') first caps := by rw [hf2.eval (by rw [hev]; rfl)]; unfold rho; rw [hev]; rfl
                      have hca : c.args = #[] := by apply Array.ext'; rw [hargs]
                      have hr : (execOp (a.put o1.dst v).eval o2).run P w2 = .ok (.defer { target := .fn (.func k') caps, args := first }) w2 := by
                        simp only [execOp, ho2, resolve, hcal, hca, hex, Deferred.ofValue, pure_bind, Sem.run_bind, Sem.run_pure, Result.andThen_ok]
                        simp
                      unfold Oper.wp
                      rw [hr, Oper.upon_defer, hd2]
                      unfold wpList
                      have hf3 : Fr [{ target := .fn (.func k') caps, args := first }] fn.ntmps (f2 ++ []) ({ a.put o1.dst v with defers := { target := .fn (.func k') caps, args := first } :: (a.put o1.dst v).defers } : Act) := by
                        rw [List.append_nil]
                        exact ⟨hf2.size, by show _ :: _ = _; rw [hf2.defers], hf2.at_⟩
                      refine Code.wp_mono (fun e a3 w3 he => ?_) (Q15 hm C [] _ f2 w2 _ h hf3)
                      cases e with
                      | normal => obtain ⟨_, _, h⟩ := he; exact h.elim
                      | ret =>
                        obtain ⟨g, hg, h⟩ := he
                        rw [List.append_nil] at hg
                        show Leaves P fn a3.tmps _ a3.defers .returning w3
                        rw [hg.defers]
                        exact Q2y (tmps := a3.tmps) hg hen (by simp) h
                      | exit id => obtain ⟨f, k, hk, _⟩ := he; cases hk
                      | goto l => exact he.elim
                      | panic ch =>
                        obtain ⟨g, hg, h⟩ := he
                        show Leaves P fn a3.tmps _ a3.defers (.panicking ch) w3
                        rw [hg.defers]
                        exact Q2y (tmps := a3.tmps) hg hen (by simp) h
                      | outgrown => exact he.elim
                  · exact h.elim
                · exact h.elim
              · exact h.elim
            · exact h.elim
    · exact h.elim
  · exact h.elim
end
def recV : FrameMode → Value × FrameMode
  | .panicking ({ v, recovered := false, goexit := false } :: older) => (v, .panicking ({ v, recovered := true } :: older))
  | u => (.nilIface, u)
def rfunc (P : Program) (H : Hints) (k : Nat) (args : List Value) (u : FrameMode) (R : Value → FrameMode → World → Prop) (w : World) : Prop :=
  match P.funcs[k]? with
  | some fn =>
    match fn.body with
    | some (.seq (.region _ ops false) C) =>
      bif Nat.ble args.length fn.ntmps then
        (match ops.toList with
        | [o1, o2] =>
          (match o1.guard, o1.op, o1.dst, o2.guard with
          | none, .call c, some d, none =>
            (match c.callee, c.args.toList with
            | .builtin .recover, [] =>
              bif Nat.blt d fn.ntmps then
                mopF P ((d, (recV u).1) :: argsF args 0) o2 w fun v w => putK fn.ntmps o2.dst v [] ((d, (recV u).1) :: argsF args 0) fun _ f =>
                  mcode P H fn.ntmps C [] ⟨fun f w => mres P f w fn.results.toList [] (fun vs => R (wrapR vs) (recV u).2 w), fun f w => mres P f w fn.results.toList [] (fun vs => R (wrapR vs) (recV u).2 w), []⟩ f w
              else False
            | _, _ => False)
          | _, _, _, _ => False)
        | _ => False)
      else False
    | _ => False
  | none => False
section
variable {P : Program} {H : Hints}
theorem recV_D (c : Frame) (cs : List Frame) (u : FrameMode) (hu : c.mode = u) :
    (match recoverD (c :: cs) with | some (v, cs') => (v, cs') | none => (.nilIface, c :: cs)) = ((recV u).1, { c with mode := (recV u).2 } :: cs) := by
  subst hu
  unfold recoverD recV
  simp only
  split <;> rename_i h
  · split at h
    · rename_i v older hm
      cases h
      rw [hm]
    · cases h
  · split at h
    · cases h
    · rename_i hn
      split
      · rename_i v older hm; exact absurd hm (hn v older)
      · rfl
theorem Q3i (hm : P.follows .mixedOrders = true) {k : Nat} {args : List Value} {u : FrameMode} {R : Value → FrameMode → World → Prop} {w : World} (h : rfunc P H k args u R w) :
    CallsD P k args.toArray u w fun e u' w' => ∃ v, e = .returned v ∧ R v u' w' := by
  unfold rfunc at h
  split at h
  · rename_i fn hfn
    split at h
    · rename_i id ops C hc
      cases hle : Nat.ble args.length fn.ntmps
      · simp [hle] at h
      · simp only [hle, cond_true] at h
        split at h
        · rename_i o1 o2 hops
          split at h
          · rename_i c d hg1 ho1 hd1 hg2
            split at h
            · rename_i hcal hargs
              cases hlt : Nat.blt d fn.ntmps
              · simp [hlt] at h
              · simp only [hlt, cond_true] at h
                refine callsD_of_wpS hfn hc fun c₀ cs hu => ?_
                refine wpS_seq (wpS_region ?_)
                have hops' : ops = #[o1, o2] := by apply Array.ext'; rw [hops]
                have hca : c.args = #[] := by apply Array.ext'; rw [hargs]
                have hf0 := fr_args (Nat.le_of_ble_eq_true hle)
                rw [List.append_nil] at hf0
                generalize ({ tmps := args.toArray ++ Array.replicate (fn.ntmps - args.toArray.size) undef, defers := [] } : Act) = a at *
                rw [hops']
                show wpOpsS P #[o1, o2] _ [0, 1] a (c₀ :: cs) w
                unfold wpOpsS
                have hw1 : Region.wanted o1 (yielded #[o1, o2] a.tmps) = true := by unfold Region.wanted; rw [hg1]
                show (if Region.wanted o1 (yielded #[o1, o2] a.tmps) = true then _ else _)
                rw [if_pos hw1]
                have hr1 : (execOp a.eval o1).run P w = .ok .recover w := by
                  simp only [execOp, ho1, resolve, hcal, hca]
                  rfl
                have hr1' : (execOp a.eval #[o1, o2][0]).run P w = .ok .recover w := hr1
                rw [hr1']
                have hrec := recV_D c₀ cs u hu
                have key : wpOpsS P #[o1, o2] (Exit.thenS (C.wpS P (bodyPostS P fn c₀ cs fun e u' w' => ∃ v, e = .returned v ∧ R v u' w')) (bodyPostS P fn c₀ cs fun e u' w' => ∃ v, e = .returned v ∧ R v u' w')) [1] (a.put o1.dst (recV u).1) ({ c₀ with mode := (recV u).2 } :: cs) w := by
                  have hf1 : Fr [] fn.ntmps ((d, (recV u).1) :: argsF args 0) (a.put o1.dst (recV u).1) := by rw [hd1]; exact hf0.put hlt _
                  unfold wpOpsS
                  have hw2 : Region.wanted o2 (yielded #[o1, o2] (a.put o1.dst (recV u).1).tmps) = true := by unfold Region.wanted; rw [hg2]
                  show (if Region.wanted o2 (yielded #[o1, o2] (a.put o1.dst (recV u).1).tmps) = true then _ else _)
                  rw [if_pos hw2]
                  have fin : ∀ v w2, putK fn.ntmps o2.dst v [] ((d, (recV u).1) :: argsF args 0) (fun _ f => mcode P H fn.ntmps C [] ⟨fun f w => mres P f w fn.results.toList [] (fun vs => R (wrapR vs) (recV u).2 w), fun f w => mres P f w fn.results.toList [] (fun vs => R (wrapR vs) (recV u).2 w), []⟩ f w2) →
                      wpOpsS P #[o1, o2] (Exit.thenS (C.wpS P (bodyPostS P fn c₀ cs fun e u' w' => ∃ v, e = .returned v ∧ R v u' w')) (bodyPostS P fn c₀ cs fun e u' w' => ∃ v, e = .returned v ∧ R v u' w')) [] ((a.put o1.dst (recV u).1).put o2.dst v) ({ c₀ with mode := (recV u).2 } :: cs) w2 := fun v w2 h => by
                    obtain ⟨dg2, f2, h, hf2, _⟩ := putK_ok (lo := []) (dg := []) h (by rw [List.append_nil]; exact hf1) (fun s b hs => by cases hs)
                    unfold wpOpsS
                    show C.wpS P _ _ _ _
                    refine wpS_of_wp (Code.wp_mono (fun e a3 w3 he => ?_) (Q0S hm C [] _ f2 w2 _ h hf2))
                    cases e with
                    | normal =>
                      obtain ⟨g, hg, h⟩ := he
                      rw [List.append_nil] at hg
                      obtain ⟨v, h1, h2⟩ := Q0P (R := fun v w => R v (recV u).2 w) hg h
                      exact ⟨hg.defers, _, rfl, v, h1, v, rfl, h2⟩
                    | ret =>
                      obtain ⟨g, hg, h⟩ := he
                      rw [List.append_nil] at hg
                      obtain ⟨v, h1, h2⟩ := Q0P (R := fun v w => R v (recV u).2 w) hg h
                      exact ⟨hg.defers, _, rfl, v, h1, v, rfl, h2⟩
                    | exit id => obtain ⟨f, k, hk, _⟩ := he; cases hk
                    | goto l => exact he.elim
                    | panic ch => exact he.elim
                    | outgrown => exact he.elim
                  have hok := mopF_ok hf1 h
                  unfold OpOk at hok
                  generalize hrun : (execOp (a.put o1.dst (recV u).1).eval o2).run P w = r at hok
                  have hrun' : (execOp (a.put o1.dst (recV u).1).eval #[o1, o2][1]).run P w = r := hrun
                  rw [hrun']
                  clear hrun hrun'
                  cases r with
                  | ok n w2 =>
                    cases n <;> simp only at hok
                    case value v => exact fin v w2 hok
                    case skip => exact fin undef w2 hok
                    case enter f args =>
                      show Calls P f args w2 _
                      exact hok.mono fun e w'' ⟨v, he, hv⟩ => by subst he; exact fin v w'' hv
                    all_goals exact hok.elim
                  | halt x w2 => exact hok.elim
                cases hrd : recoverD (c₀ :: cs) with
                | none =>
                  rw [hrd] at hrec
                  have h1 : Value.nilIface = (recV u).1 := congrArg Prod.fst hrec
                  have h2 : c₀ :: cs = { c₀ with mode := (recV u).2 } :: cs := congrArg Prod.snd hrec
                  show wpOpsS P #[o1, o2] _ [1] (a.put o1.dst .nilIface) (c₀ :: cs) w
                  rw [h1, h2]; exact key
                | some p =>
                  obtain ⟨v, cs'⟩ := p
                  rw [hrd] at hrec
                  have h1 : v = (recV u).1 := congrArg Prod.fst hrec
                  have h2 : cs' = { c₀ with mode := (recV u).2 } :: cs := congrArg Prod.snd hrec
                  show wpOpsS P #[o1, o2] _ [1] (a.put o1.dst v) cs' w
                  rw [h1, h2]; exact key
            · exact h.elim
          · exact h.elim
        · exact h.elim
    · exact h.elim
  · exact h.elim
end
end Go.Mx
set_option linter.unusedSectionVars false
namespace Go.Mx
section
variable {K K1 : Nat → Prop} {w w1 w' : World} {o o1 o' : Own} {p q j : Nat}
def setAll : List Value → Nat → List Value → List Value
  | cs, _, [] => cs
  | cs, k, v :: r => setAll (cs.set k v) (k + 1) r
def putsK (w : World) (a : Addr) : List Value → Nat → (World → Prop) → Prop
  | [], _, Φ => Φ w
  | v :: r, j, Φ => Q01 w (a.add j) ∧ thenW (w.setCell (a.add j) v) fun w' => putsK w' a r (j + 1) Φ
theorem Q1P : ∀ {vs u cs : List Value} {k : Nat}, setAll (u ++ cs) (u.length + k) vs = u ++ setAll cs k vs
  | [], _, _, _ => rfl
  | v :: r, u, cs, k => by
    simp only [setAll]
    rw [show (u ++ cs).set (u.length + k) v = u ++ cs.set k v by rw [List.set_append_right _ _ (by omega)]; congr 2; omega, Nat.add_assoc, Q1P]
theorem Q2g : ∀ {vs u cs : List Value}, vs.length = u.length → setAll (u ++ cs) 0 vs = vs ++ cs
  | [], [], _, _ => rfl
  | v :: r, x :: u, cs, h => by
    have := Q1P (vs := r) (u := [v]) (cs := u ++ cs) (k := 0)
    simp only [setAll, List.cons_append, List.set_cons_zero]
    simp only [List.length_cons, List.length_nil, List.cons_append, List.nil_append, Nat.add_zero] at this
    rw [this, Q2g (by simpa using h)]
  | [], _ :: _, _, h => by simp at h
  | _ :: _, [], _, h => by simp at h
theorem Q10 {w : World} {q : Nat} {t : TypeId} {vs cs : List Value} (h : Blk w q t (setAll cs (0 + 0) vs)) (hl : vs.length = cs.length) : Blk w q t vs := by
  have := Q2g (vs := vs) (u := cs) (cs := []) hl
  rw [List.append_nil, List.append_nil] at this
  rw [this] at h
  exact h
theorem Q0M {q k : Nat} {t : TypeId} : ∀ {vs cs : List Value} {j : Nat} {w : World} {Φ : World → Prop}, Blk w q t cs → k + j + vs.length ≤ cs.length → (∀ w', Ext (fun b => b = q) w w' → Blk w' q t (setAll cs (k + j) vs) → Φ w') → putsK w ((blk q).add k) vs j Φ
  | [], cs, j, w, Φ, hb, _, h => h w (Ext.refl _ _) hb
  | v :: r, cs, j, w, Φ, hb, hl, h => by
    simp only [List.length_cons] at hl
    have hc : cs[k + j]? = some (cs[k + j]'(by omega)) := List.getElem?_eq_getElem (by omega)
    refine ⟨by rw [add_add]; exact hb.cana hc, Q00 fun w2 e2 => ?_⟩
    rw [add_add, add_blk] at e2
    have X : Ext (fun b => b = q) w w2 := (Ext.refl (fun b => b = q) w).x_set (q := q) (i := k + j) rfl (.inl rfl) e2
    have hb2 := hb.seti (k + j) (t := t) (v := v) rfl e2
    exact Q0M hb2 (by simp; omega) fun w' X' hb' => h w' (X.trans X') hb'
end
theorem Ext.x_puts {m : Nat → Prop} {w0 w w' : World} {q : Nat} (h : Ext m w0 w) (X : Ext (fun b => b = q) w w') (hq : m q ∨ w0.heap.size ≤ q) : Ext m w0 w' :=
  ⟨X.os.trans h.os, X.tape.trans h.tape, X.output.trans h.output, Nat.le_trans h.size X.size, fun b hb hm => by
    refine (X.block b (Nat.lt_of_lt_of_le hb h.size) fun e => ?_).trans (h.block b hb hm)
    subst e
    rcases hq with hq | hq
    · exact hm hq
    · omega⟩
end Go.Mx
set_option maxRecDepth 100000
set_option maxHeartbeats 4000000
namespace Go.Proofs.Ytoempemllkebkaa
open Go Go.Mx Go.Proofs
def frmMust.M (k1 : Int) (Φ : List PanicEntry → World → Prop) (R : RW) (w : World) : Prop :=
 bif k1 != 0 then (
 Φ [{ v := .iface 33 (.int .i64 k1), recovered := false }] w) else (
 R (.tuple #[]) w)

theorem frmMust.ok (k1 : Int) {Φ : List PanicEntry → World → Prop} {R : RW} {w : World} (h : frmMust.M k1 Φ R w) : Calls Try.prog 61 #[.int .i64 k1] w fun e w' => (∃ v, e = .returned v ∧ R v w') ∨ ∃ ch, e = .panicked ch ∧ Φ ch w' :=
  Q1R follows (H := []) (args := [.int .i64 k1]) (cast (by kernel_rfl) h)

def frmEnt.M (b2 b3 : Addr) (Φ : List PanicEntry → World → Prop) (R : RW) (w : World) : Prop :=
 ∃ (b6 : Option Addr) (b8 b9 : Nat), w.cell? b2 = some (.slice b6 b8 b9) ∧
 Calls Try.prog 98 #[.slice b6 b8 b9] w fun aq aj => (∃ (ab ag al ay ax ad : Int) (a9 : Option Addr) (a8 aa : Nat) (ak ai : Int), aq = .returned (.tuple #[.agg #[.int .i64 ab, .int .i64 ag, .int .u64 al, .int .i64 ay, .int .i64 ax, .int .i64 ad, .slice a9 a8 aa, .int .u64 ak], .int .i64 ai]) ∧
 thenW (aj.alloc (.cells #[.int .i64 0, .int .i64 0, .int .u64 0, .int .i64 0, .int .i64 0, .int .i64 0, .slice none 0 0, .int .u64 0] 27)) fun b1 =>
 putsK b1 (blk aj.heap.size) [.int .i64 ab, .int .i64 ag, .int .u64 al, .int .i64 ay, .int .i64 ax, .int .i64 ad, .slice a9 a8 aa, .int .u64 ak] 0 fun b5 =>
 Calls Try.prog 61 #[.int .i64 ai] b5 fun ar ac => (ar = .returned (.tuple #[]) ∧
 ∃ (b7 : Option Addr), ac.cell? b3 = some (.pointer b7) ∧
 ∃ (a0 a4 a7 ah ae a2 : Int) (a3 : Option Addr) (a1 a5 : Nat) (af : Int), cellsAt ac (blk aj.heap.size) [.int .i64 a0, .int .i64 a4, .int .u64 a7, .int .i64 ah, .int .i64 ae, .int .i64 a2, .slice a3 a1 a5, .int .u64 af] 0 ∧
 b7.elim False fun a6 =>
 Q01 ac (a6.add 0) ∧
 thenW (ac.setCell (a6.add 0) (.int .i64 a0)) fun av =>
 Q01 av (a6.add 1) ∧
 thenW (av.setCell (a6.add 1) (.int .i64 a4)) fun ao =>
 Q01 ao (a6.add 2) ∧
 thenW (ao.setCell (a6.add 2) (.int .u64 a7)) fun b0 =>
 Q01 b0 (a6.add 3) ∧
 thenW (b0.setCell (a6.add 3) (.int .i64 ah)) fun ap =>
 Q01 ap (a6.add 4) ∧
 thenW (ap.setCell (a6.add 4) (.int .i64 ae)) fun au =>
 Q01 au (a6.add 5) ∧
 thenW (au.setCell (a6.add 5) (.int .i64 a2)) fun az =>
 Q01 az (a6.add 6) ∧
 thenW (az.setCell (a6.add 6) (.slice a3 a1 a5)) fun aw =>
 Q01 aw (a6.add 7) ∧
 thenW (aw.setCell (a6.add 7) (.int .u64 af)) fun b4 =>
 R (.tuple #[]) b4) ∨ ∃ (an : List PanicEntry), ar = .panicked an ∧
 Φ an ac) ∨ ∃ (am : List PanicEntry), aq = .panicked am ∧
 Φ am aj

theorem frmEnt.ok (a0 a1 : Addr) {Φ : List PanicEntry → World → Prop} {R : RW} {w : World} (h : frmEnt.M a0 a1 Φ R w) : Calls Try.prog 97 #[.pointer (some a0), .pointer (some a1)] w fun e w' => (∃ v, e = .returned v ∧ R v w') ∨ ∃ ch, e = .panicked ch ∧ Φ ch w' :=
  Q1R follows (H := []) (args := [.pointer (some a0), .pointer (some a1)]) (cast (by kernel_rfl) h)

def frmVec.M (a6 a7 : Addr) (Φ : List PanicEntry → World → Prop) (R : RW) (w : World) : Prop :=
 ∃ (a9 : Option Addr) (af ag : Nat), w.cell? a6 = some (.slice a9 af ag) ∧
 Calls Try.prog 93 #[.slice a9 af ag] w fun ac ae => (∃ (a1 : Option Addr) (a0 a2 : Nat) (a4 : Int), ac = .returned (.tuple #[.slice a1 a0 a2, .int .i64 a4]) ∧
 Calls Try.prog 61 #[.int .i64 a4] ae fun ad a3 => (ad = .returned (.tuple #[]) ∧
 ∃ (ah : Option Addr), a3.cell? a7 = some (.pointer ah) ∧
 ah.elim False fun aa =>
 Q01 a3 (((aa.add 1).add 18).add 0) ∧
 thenW (a3.setCell (((aa.add 1).add 18).add 0) (.slice a1 a0 a2)) fun a8 =>
 R (.tuple #[]) a8) ∨ ∃ (a5 : List PanicEntry), ad = .panicked a5 ∧
 Φ a5 a3) ∨ ∃ (ab : List PanicEntry), ac = .panicked ab ∧
 Φ ab ae

theorem frmVec.ok (a0 a1 : Addr) {Φ : List PanicEntry → World → Prop} {R : RW} {w : World} (h : frmVec.M a0 a1 Φ R w) : Calls Try.prog 92 #[.pointer (some a0), .pointer (some a1)] w fun e w' => (∃ v, e = .returned v ∧ R v w') ∨ ∃ ch, e = .panicked ch ∧ Φ ch w' :=
  Q1R follows (H := []) (args := [.pointer (some a0), .pointer (some a1)]) (cast (by kernel_rfl) h)

def Q1S.M (r1 : Option Addr) (Φ : List PanicEntry → World → Prop) (R : RW) (w : World) : Prop :=
 thenW (w.alloc (.cells #[.int .i64 0, .int .i64 0, .int .i64 0, .int .u64 0, .int .i64 0, .int .i64 0, .int .i64 0, .slice none 0 0, .int .u64 0, .int .i64 0, .int .i64 0, .int .u64 0, .int .i64 0, .int .i64 0, .int .i64 0, .slice none 0 0, .int .u64 0, .int .i64 0, .slice none 0 0, .int .u64 0] 38)) fun de =>
 r1.elim False fun a3 =>
 ∃ (bq : Option Addr), de.cell? (a3.add 0) = some (.pointer bq) ∧
 Calls Try.prog 54 #[.pointer bq, .int .i64 4] de fun dd dc => (∃ (cd : Int), dd = .returned (.int .i64 cd) ∧
 r1.elim False fun a9 =>
 Q01 dc (((a9.add 1).add 0).add 0) ∧
 thenW (dc.setCell (((a9.add 1).add 0).add 0) (.int .i64 cd)) fun db =>
 r1.elim False fun dj =>
 ∃ (cc : Int), db.cell? ((dj.add 1).add 0) = some (.int .i64 cc) ∧
 Calls Try.prog 60 #[.pointer r1, .int .i64 cc] db fun d4 da => (∃ (bg : Nat) (c6 bu : Array Value), d4 = .returned (.func (.func bg) c6 bu) ∧
 bif enters Try.prog bg then Calls Try.prog bg (c6.toList ++ ([] : List Value) ++ bu.toList).toArray da (fun cz cp => (cz = .returned (.tuple #[]) ∧
 r1.elim False fun dl =>
 ∃ (bi : Option Addr), cp.cell? (dl.add 0) = some (.pointer bi) ∧
 Calls Try.prog 56 #[.pointer bi] cp fun d5 cw => (∃ (cb : Int), d5 = .returned (.int .i64 cb) ∧
 Calls Try.prog 61 #[.int .i64 cb] cw fun d3 cr => (d3 = .returned (.tuple #[]) ∧
 r1.elim False fun dm =>
 ∃ (bp : Option Addr) (aj cg : Nat), cr.cell? (dm.add 21) = some (.slice bp aj cg) ∧
 ∃ (I0 : Nat → List Value → World → Prop) (dn : Nat), I0 dn [.int .i64 0] cr ∧ ∀ (df : Nat) (ca : World) (cs : Int), I0 df [.int .i64 cs] ca →
 bif decide (cs < (aj : Int)) then (
 bp.elim False fun dp =>
 0 ≤ (cs : Int) ∧ (cs : Int) < (aj : Int) ∧
 ∃ (cq : Nat) (cu d6 : Array Value), ca.cell? (dp.add (Int.toNat cs * 1)) = some (.func (.func cq) cu d6) ∧
 bif enters Try.prog cq then Calls Try.prog cq (cu.toList ++ ([] : List Value) ++ d6.toList).toArray ca (fun d2 cv => (d2 = .returned (.tuple #[]) ∧
 ∃ dg, dg < df ∧ I0 dg [.int .i64 (IntKind.i64.wrap (cs + 1))] cv) ∨ ∃ (cy : List PanicEntry), d2 = .panicked cy ∧
 Φ cy cv) else False) else (
 r1.elim False fun dk =>
 ∃ (c1 af aw bn bt br aq : Int) (b3 : Option Addr) (av bf : Nat) (bv ah b9 bl c0 c7 bb : Int) (b2 : Option Addr) (b1 ax : Nat) (c3 ch : Int) (cn : Option Addr) (cl cm : Nat) (cf : Int), cellsAt ca (dk.add 1) [.int .i64 c1, .int .i64 af, .int .i64 aw, .int .u64 bn, .int .i64 bt, .int .i64 br, .int .i64 aq, .slice b3 av bf, .int .u64 bv, .int .i64 ah, .int .i64 b9, .int .u64 bl, .int .i64 c0, .int .i64 c7, .int .i64 bb, .slice b2 b1 ax, .int .u64 c3, .int .i64 ch, .slice cn cl cm, .int .u64 cf] 0 ∧
 Calls Try.prog 16 #[.agg #[.int .i64 c1, .int .i64 af, .int .i64 aw, .int .u64 bn, .int .i64 bt, .int .i64 br, .int .i64 aq, .slice b3 av bf, .int .u64 bv, .int .i64 ah, .int .i64 b9, .int .u64 bl, .int .i64 c0, .int .i64 c7, .int .i64 bb, .slice b2 b1 ax, .int .u64 c3, .int .i64 ch, .slice cn cl cm, .int .u64 cf]] ca fun d8 ci => (∃ (bx : Bool), d8 = .returned (.bool bx) ∧
 bif !bx then (
 Φ [{ v := .iface 33 (.int .i64 4), recovered := false }] ci) else (
 r1.elim False fun di =>
 ∃ (c2 an be bo bw c5 b0 : Int) (bc : Option Addr) (b6 ba : Nat) (c8 ai az bm bz bs b8 : Int) (b4 : Option Addr) (au ar : Nat) (c4 ce : Int) (cj : Option Addr) (ck co : Nat) (c9 : Int), cellsAt ci (di.add 1) [.int .i64 c2, .int .i64 an, .int .i64 be, .int .u64 bo, .int .i64 bw, .int .i64 c5, .int .i64 b0, .slice bc b6 ba, .int .u64 c8, .int .i64 ai, .int .i64 az, .int .u64 bm, .int .i64 bz, .int .i64 bs, .int .i64 b8, .slice b4 au ar, .int .u64 c4, .int .i64 ce, .slice cj ck co, .int .u64 c9] 0 ∧
 putsK ci (blk w.heap.size) [.int .i64 c2, .int .i64 an, .int .i64 be, .int .u64 bo, .int .i64 bw, .int .i64 c5, .int .i64 b0, .slice bc b6 ba, .int .u64 c8, .int .i64 ai, .int .i64 az, .int .u64 bm, .int .i64 bz, .int .i64 bs, .int .i64 b8, .slice b4 au ar, .int .u64 c4, .int .i64 ce, .slice cj ck co, .int .u64 c9] 0 fun d7 =>
 ∃ (ay a1 a7 am ap bd ac : Int) (aa : Option Addr) (ab ad : Nat) (b7 a4 a8 al ag ae a5 : Int) (a2 : Option Addr) (a6 a0 : Nat) (ak ao : Int) (bk : Option Addr) (bj bh : Nat) (b5 : Int), cellsAt d7 (blk w.heap.size) [.int .i64 ay, .int .i64 a1, .int .i64 a7, .int .u64 am, .int .i64 ap, .int .i64 bd, .int .i64 ac, .slice aa ab ad, .int .u64 b7, .int .i64 a4, .int .i64 a8, .int .u64 al, .int .i64 ag, .int .i64 ae, .int .i64 a5, .slice a2 a6 a0, .int .u64 ak, .int .i64 ao, .slice bk bj bh, .int .u64 b5] 0 ∧
 R (.agg #[.int .i64 ay, .int .i64 a1, .int .i64 a7, .int .u64 am, .int .i64 ap, .int .i64 bd, .int .i64 ac, .slice aa ab ad, .int .u64 b7, .int .i64 a4, .int .i64 a8, .int .u64 al, .int .i64 ag, .int .i64 ae, .int .i64 a5, .slice a2 a6 a0, .int .u64 ak, .int .i64 ao, .slice bk bj bh, .int .u64 b5]) d7)) ∨ ∃ (cx : List PanicEntry), d8 = .panicked cx ∧
 Φ cx ci)) ∨ ∃ (d9 : List PanicEntry), d3 = .panicked d9 ∧
 Φ d9 cr) ∨ ∃ (d0 : List PanicEntry), d5 = .panicked d0 ∧
 Φ d0 cw) ∨ ∃ (ct : List PanicEntry), cz = .panicked ct ∧
 Φ ct cp) else False) ∨ ∃ (d1 : List PanicEntry), d4 = .panicked d1 ∧
 Φ d1 da) ∨ ∃ (dh : List PanicEntry), dd = .panicked dh ∧
 Φ dh dc

theorem Q1S.ok (r1 : Option Addr) {Φ : List PanicEntry → World → Prop} {R : RW} {w : World} (h : Q1S.M r1 Φ R w) : Calls Try.prog 34 #[.pointer r1] w fun e w' => (∃ v, e = .returned v ∧ R v w') ∨ ∃ ch, e = .panicked ch ∧ Φ ch w' :=
  Q1R follows (H := [(0, [0, 2, 31, 32], [(33, (.one (.int .i64)))])]) (args := [.pointer r1]) (cast (by kernel_rfl) h)

def frmBack.M (a0 ab : Addr) (pk : Int) (R : Value → FrameMode → World → Prop) (w : World) : Prop :=
 ∃ (b3 : Bool), (binOp .neq 20 (.iface 33 (.int .i64 pk)) (.nilIface)).run Try.prog w = .ok (.bool b3) w ∧
 bif b3 then (
 thenW (w.drew) fun ai =>
 ∃ (v5 : Int), (Instr.typeAssert (.iface 33 (.int .i64 pk)) 20 33 false).run Try.prog ai = .ok (.int .i64 v5) ai ∧
 Q01 ai (a0.add 0) ∧
 thenW (ai.setCell (a0.add 0) (.int .i64 0)) fun al =>
 Q01 al (a0.add 1) ∧
 thenW (al.setCell (a0.add 1) (.int .i64 0)) fun am =>
 Q01 am (a0.add 2) ∧
 thenW (am.setCell (a0.add 2) (.int .i64 0)) fun ak =>
 Q01 ak (a0.add 3) ∧
 thenW (ak.setCell (a0.add 3) (.int .u64 0)) fun an =>
 Q01 an (a0.add 4) ∧
 thenW (an.setCell (a0.add 4) (.int .i64 0)) fun ag =>
 Q01 ag (a0.add 5) ∧
 thenW (ag.setCell (a0.add 5) (.int .i64 0)) fun af =>
 Q01 af (a0.add 6) ∧
 thenW (af.setCell (a0.add 6) (.int .i64 0)) fun a2 =>
 Q01 a2 (a0.add 7) ∧
 thenW (a2.setCell (a0.add 7) (.slice none 0 0)) fun ac =>
 Q01 ac (a0.add 8) ∧
 thenW (ac.setCell (a0.add 8) (.int .u64 0)) fun a4 =>
 Q01 a4 (a0.add 9) ∧
 thenW (a4.setCell (a0.add 9) (.int .i64 0)) fun ad =>
 Q01 ad (a0.add 10) ∧
 thenW (ad.setCell (a0.add 10) (.int .i64 0)) fun aa =>
 Q01 aa (a0.add 11) ∧
 thenW (aa.setCell (a0.add 11) (.int .u64 0)) fun ah =>
 Q01 ah (a0.add 12) ∧
 thenW (ah.setCell (a0.add 12) (.int .i64 0)) fun a6 =>
 Q01 a6 (a0.add 13) ∧
 thenW (a6.setCell (a0.add 13) (.int .i64 0)) fun a3 =>
 Q01 a3 (a0.add 14) ∧
 thenW (a3.setCell (a0.add 14) (.int .i64 0)) fun a9 =>
 Q01 a9 (a0.add 15) ∧
 thenW (a9.setCell (a0.add 15) (.slice none 0 0)) fun a8 =>
 Q01 a8 (a0.add 16) ∧
 thenW (a8.setCell (a0.add 16) (.int .u64 0)) fun a5 =>
 Q01 a5 (a0.add 17) ∧
 thenW (a5.setCell (a0.add 17) (.int .i64 0)) fun a7 =>
 Q01 a7 (a0.add 18) ∧
 thenW (a7.setCell (a0.add 18) (.slice none 0 0)) fun ae =>
 Q01 ae (a0.add 19) ∧
 thenW (ae.setCell (a0.add 19) (.int .u64 0)) fun a1 =>
 (Instr.typeAssert (.iface 33 (.int .i64 pk)) 20 33 false).run Try.prog a1 = .ok (.int .i64 v5) a1 ∧
 Q01 a1 (ab.add 0) ∧
 thenW (a1.setCell (ab.add 0) (.int .i64 v5)) fun aj =>
 R (.tuple #[]) (.panicking [{ v := .iface 33 (.int .i64 pk), recovered := true }]) aj) else (
 R (.tuple #[]) (.panicking [{ v := .iface 33 (.int .i64 pk), recovered := true }]) w)

theorem frmBack.ok (a0 a1 : Addr) (pk : Int) {R : Value → FrameMode → World → Prop} {w : World} (h : frmBack.M a0 a1 pk R w) : CallsD Try.prog 32 #[.pointer (some a0), .pointer (some a1)] (.panicking [{ v := .iface 33 (.int .i64 pk), recovered := false }]) w fun e u' w' => ∃ v, e = .returned v ∧ R v u' w' :=
  Q3i follows (H := []) (args := [.pointer (some a0), .pointer (some a1)]) (cast (by kernel_rfl) h)

def frmDone.M (a0 a1 : Addr) (R : Value → FrameMode → World → Prop) (w : World) : Prop :=
 R (.tuple #[]) .returning w

theorem frmDone.ok (a0 a1 : Addr) {R : Value → FrameMode → World → Prop} {w : World} (h : frmDone.M a0 a1 R w) : CallsD Try.prog 32 #[.pointer (some a0), .pointer (some a1)] .returning w fun e u' w' => ∃ v, e = .returned v ∧ R v u' w' :=
  Q3i follows (H := []) (args := [.pointer (some a0), .pointer (some a1)]) (cast (by kernel_rfl) h)

def frmRead.M (f3 : Option Addr) (f2 f4 : Nat) (R : RW) (w : World) : Prop :=
 thenW (w.alloc (.cells #[.int .i64 0, .int .i64 0, .int .i64 0, .int .u64 0, .int .i64 0, .int .i64 0, .int .i64 0, .slice none 0 0, .int .u64 0, .int .i64 0, .int .i64 0, .int .u64 0, .int .i64 0, .int .i64 0, .int .i64 0, .slice none 0 0, .int .u64 0, .int .i64 0, .slice none 0 0, .int .u64 0] 38)) fun dx =>
 thenW (dx.alloc (.cells #[.int .i64 0] 33)) fun ez =>
 bif decide ((f2 : Int) > 4000) then (
 ∃ (e1 cg d8 ds ea e0 cn : Int) (cl : Option Addr) (cx cb : Nat) (du bt cw d9 dv dw cv : Int) (cc : Option Addr) (cj ca : Nat) (dn e7 : Int) (el : Option Addr) (ei eh : Nat) (e8 : Int), cellsAt ez (blk w.heap.size) [.int .i64 e1, .int .i64 cg, .int .i64 d8, .int .u64 ds, .int .i64 ea, .int .i64 e0, .int .i64 cn, .slice cl cx cb, .int .u64 du, .int .i64 bt, .int .i64 cw, .int .u64 d9, .int .i64 dv, .int .i64 dw, .int .i64 cv, .slice cc cj ca, .int .u64 dn, .int .i64 e7, .slice el ei eh, .int .u64 e8] 0 ∧
 putsK ez (blk w.heap.size) [.int .i64 e1, .int .i64 cg, .int .i64 d8, .int .u64 ds, .int .i64 ea, .int .i64 e0, .int .i64 cn, .slice cl cx cb, .int .u64 du, .int .i64 bt, .int .i64 cw, .int .u64 d9, .int .i64 dv, .int .i64 dw, .int .i64 cv, .slice cc cj ca, .int .u64 dn, .int .i64 e7, .slice el ei eh, .int .u64 e8] 0 fun eq =>
 Q01 eq ((blk dx.heap.size).add 0) ∧
 thenW (eq.setCell ((blk dx.heap.size).add 0) (.int .i64 3)) fun em =>
 ∃ (c9 an ay c2 c3 c6 ax : Int) (b5 : Option Addr) (b6 aw : Nat) (cy a9 bh bk ce cs av : Int) (bd : Option Addr) (au b2 : Nat) (c8 d2 : Int) (dr : Option Addr) (dq dt : Nat) (d0 : Int), cellsAt em (blk w.heap.size) [.int .i64 c9, .int .i64 an, .int .i64 ay, .int .u64 c2, .int .i64 c3, .int .i64 c6, .int .i64 ax, .slice b5 b6 aw, .int .u64 cy, .int .i64 a9, .int .i64 bh, .int .u64 bk, .int .i64 ce, .int .i64 cs, .int .i64 av, .slice bd au b2, .int .u64 c8, .int .i64 d2, .slice dr dq dt, .int .u64 d0] 0 ∧
 ∃ (ek : Int), em.cell? (blk dx.heap.size) = some (.int .i64 ek) ∧
 R (.tuple #[.agg #[.int .i64 c9, .int .i64 an, .int .i64 ay, .int .u64 c2, .int .i64 c3, .int .i64 c6, .int .i64 ax, .slice b5 b6 aw, .int .u64 cy, .int .i64 a9, .int .i64 bh, .int .u64 bk, .int .i64 ce, .int .i64 cs, .int .i64 av, .slice bd au b2, .int .u64 c8, .int .i64 d2, .slice dr dq dt, .int .u64 d0], .int .i64 ek]) em) else (
 Calls Try.prog 33 #[.slice f3 f2 f4] ez fun ep en => (∃ (e3 : Option Addr), ep = .returned (.pointer e3) ∧
 thenW (en.alloc (.cells #[.pointer e3, .int .i64 0, .int .i64 0, .int .i64 0, .int .u64 0, .int .i64 0, .int .i64 0, .int .i64 0, .slice none 0 0, .int .u64 0, .int .i64 0, .int .i64 0, .int .u64 0, .int .i64 0, .int .i64 0, .int .i64 0, .slice none 0 0, .int .u64 0, .int .i64 0, .slice none 0 0, .int .u64 0, .slice none 0 0] 72)) fun f0 =>
 Calls Try.prog 34 #[.pointer (some (blk en.heap.size))] f0 fun eo eu => (∃ (e5 ch dg dp eb ef d1 : Int) (cz : Option Addr) (d3 dc : Nat) (ed co dd dm e6 e9 d7 : Int) (d6 : Option Addr) (d5 dk : Nat) (dz eg : Int) (ew : Option Addr) (es ev : Nat) (ej : Int), eo = .returned (.agg #[.int .i64 e5, .int .i64 ch, .int .i64 dg, .int .u64 dp, .int .i64 eb, .int .i64 ef, .int .i64 d1, .slice cz d3 dc, .int .u64 ed, .int .i64 co, .int .i64 dd, .int .u64 dm, .int .i64 e6, .int .i64 e9, .int .i64 d7, .slice d6 d5 dk, .int .u64 dz, .int .i64 eg, .slice ew es ev, .int .u64 ej]) ∧
 putsK eu (blk w.heap.size) [.int .i64 e5, .int .i64 ch, .int .i64 dg, .int .u64 dp, .int .i64 eb, .int .i64 ef, .int .i64 d1, .slice cz d3 dc, .int .u64 ed, .int .i64 co, .int .i64 dd, .int .u64 dm, .int .i64 e6, .int .i64 e9, .int .i64 d7, .slice d6 d5 dk, .int .u64 dz, .int .i64 eg, .slice ew es ev, .int .u64 ej] 0 fun ex =>
 Q01 ex ((blk dx.heap.size).add 0) ∧
 thenW (ex.setCell ((blk dx.heap.size).add 0) (.int .i64 0)) fun f1 =>
 CallsD Try.prog 32 #[.pointer (some (blk w.heap.size)), .pointer (some (blk dx.heap.size))] .returning f1 fun e2 ee bw => ∃ (et : Value), e2 = .returned et ∧ settle ee = .returning ∧
 ∃ (c7 aj bc bz ct cr bf : Int) (b4 : Option Addr) (bb b7 : Nat) (c5 a7 b1 bu c4 cd az : Int) (b8 : Option Addr) (ba bg : Nat) (cp cq : Int) (dh : Option Addr) (de di : Nat) (cm : Int), cellsAt bw (blk w.heap.size) [.int .i64 c7, .int .i64 aj, .int .i64 bc, .int .u64 bz, .int .i64 ct, .int .i64 cr, .int .i64 bf, .slice b4 bb b7, .int .u64 c5, .int .i64 a7, .int .i64 b1, .int .u64 bu, .int .i64 c4, .int .i64 cd, .int .i64 az, .slice b8 ba bg, .int .u64 cp, .int .i64 cq, .slice dh de di, .int .u64 cm] 0 ∧
 ∃ (dy : Int), bw.cell? (blk dx.heap.size) = some (.int .i64 dy) ∧
 R (.tuple #[.agg #[.int .i64 c7, .int .i64 aj, .int .i64 bc, .int .u64 bz, .int .i64 ct, .int .i64 cr, .int .i64 bf, .slice b4 bb b7, .int .u64 c5, .int .i64 a7, .int .i64 b1, .int .u64 bu, .int .i64 c4, .int .i64 cd, .int .i64 az, .slice b8 ba bg, .int .u64 cp, .int .i64 cq, .slice dh de di, .int .u64 cm], .int .i64 dy]) bw) ∨ ∃ (ey : List PanicEntry), eo = .panicked ey ∧
 CallsD Try.prog 32 #[.pointer (some (blk w.heap.size)), .pointer (some (blk dx.heap.size))] (.panicking ey) eu fun e2 ee bw => ∃ (et : Value), e2 = .returned et ∧ settle ee = .returning ∧
 ∃ (bv a3 am b0 bj bx ap : Int) (aa : Option Addr) (ak ar : Nat) (br a2 al b3 bn bi ad : Int) (a5 : Option Addr) (ab ae : Nat) (bo cf : Int) (d4 : Option Addr) (db df : Nat) (ci : Int), cellsAt bw (blk w.heap.size) [.int .i64 bv, .int .i64 a3, .int .i64 am, .int .u64 b0, .int .i64 bj, .int .i64 bx, .int .i64 ap, .slice aa ak ar, .int .u64 br, .int .i64 a2, .int .i64 al, .int .u64 b3, .int .i64 bn, .int .i64 bi, .int .i64 ad, .slice a5 ab ae, .int .u64 bo, .int .i64 cf, .slice d4 db df, .int .u64 ci] 0 ∧
 ∃ (ec : Int), bw.cell? (blk dx.heap.size) = some (.int .i64 ec) ∧
 R (.tuple #[.agg #[.int .i64 bv, .int .i64 a3, .int .i64 am, .int .u64 b0, .int .i64 bj, .int .i64 bx, .int .i64 ap, .slice aa ak ar, .int .u64 br, .int .i64 a2, .int .i64 al, .int .u64 b3, .int .i64 bn, .int .i64 bi, .int .i64 ad, .slice a5 ab ae, .int .u64 bo, .int .i64 cf, .slice d4 db df, .int .u64 ci], .int .i64 ec]) bw) ∨ ∃ (er : List PanicEntry), ep = .panicked er ∧
 CallsD Try.prog 32 #[.pointer (some (blk w.heap.size)), .pointer (some (blk dx.heap.size))] (.panicking er) en fun e2 ee bw => ∃ (et : Value), e2 = .returned et ∧ settle ee = .returning ∧
 ∃ (bq a0 ag b9 c0 bs ac : Int) (ai : Option Addr) (aq ao : Nat) (c1 a1 ah be bl bm a6 : Int) (a4 : Option Addr) (af a8 : Nat) (bp cu : Int) (da : Option Addr) (dj dl : Nat) (ck : Int), cellsAt bw (blk w.heap.size) [.int .i64 bq, .int .i64 a0, .int .i64 ag, .int .u64 b9, .int .i64 c0, .int .i64 bs, .int .i64 ac, .slice ai aq ao, .int .u64 c1, .int .i64 a1, .int .i64 ah, .int .u64 be, .int .i64 bl, .int .i64 bm, .int .i64 a6, .slice a4 af a8, .int .u64 bp, .int .i64 cu, .slice da dj dl, .int .u64 ck] 0 ∧
 ∃ (e4 : Int), bw.cell? (blk dx.heap.size) = some (.int .i64 e4) ∧
 R (.tuple #[.agg #[.int .i64 bq, .int .i64 a0, .int .i64 ag, .int .u64 b9, .int .i64 c0, .int .i64 bs, .int .i64 ac, .slice ai aq ao, .int .u64 c1, .int .i64 a1, .int .i64 ah, .int .u64 be, .int .i64 bl, .int .i64 bm, .int .i64 a6, .slice a4 af a8, .int .u64 bp, .int .i64 cu, .slice da dj dl, .int .u64 ck], .int .i64 e4]) bw)

theorem frmRead.ok (a0 : Option Addr) (a2 a1 : Nat) {R : RW} {w : World} (h : frmRead.M a0 a2 a1 R w) : Calls Try.prog 13 #[.slice a0 a2 a1] w fun e w' => ∃ v, e = .returned v ∧ R v w' :=
  Q48 follows (H := []) (args := [.slice a0 a2 a1]) (cast (by kernel_rfl) h)

end Go.Proofs.Ytoempemllkebkaa
namespace Go.Proofs.Ytoempemllkebkaa
open Go Go.Mx Go.Proofs
def Q0j.M (r1 aj : Option Addr) (R : RW) (w : World) : Prop :=
 thenW (w.alloc (.cells #[.pointer aj] 118)) fun ah =>
 r1.elim False fun a4 =>
 ∃ (a7 : Option Addr), ah.cell? (a4.add 0) = some (.pointer a7) ∧
 Calls Try.prog 55 #[.pointer a7, .int .i64 4000] ah fun al ad => ∃ (a5 : Option Addr) (a6 a3 : Nat), al = .returned (.slice a5 a6 a3) ∧
 thenW (ad.alloc (.cells #[.slice none 0 0] 25)) fun ag =>
 Q01 ag ((blk ad.heap.size).add 0) ∧
 thenW (ag.setCell ((blk ad.heap.size).add 0) (.slice a5 a6 a3)) fun a9 =>
 r1.elim False fun ak =>
 ∃ (a2 : Option Addr) (a0 a1 : Nat), a9.cell? (ak.add 21) = some (.slice a2 a0 a1) ∧
 thenW (a9.alloc (.cells #[.func (.func 97) #[] #[.pointer (some (blk ad.heap.size)), .pointer (some (blk w.heap.size))]] 1)) fun ae =>
 ∃ (ab : Option Addr) (ac aa : Nat) (a8 : World), (Builtin.append_ #[70, 70] 70 #[.slice a2 a0 a1, .slice (some (blk a9.heap.size)) 1 1]).run Try.prog ae = .ok (.slice ab ac aa) a8 ∧
 r1.elim False fun ai =>
 Q01 a8 ((ai.add 21).add 0) ∧
 thenW (a8.setCell ((ai.add 21).add 0) (.slice ab ac aa)) fun af =>
 R (.tuple #[]) af

theorem Q0j.ok (r1 a0 : Option Addr) {R : RW} {w : World} (h : Q0j.M r1 a0 R w) : Calls Try.prog 91 #[.pointer r1, .pointer a0] w fun e w' => ∃ v, e = .returned v ∧ R v w' :=
  Q0b follows (H := []) (args := [.pointer r1, .pointer a0]) (cast (by kernel_rfl) h)

def Q0j.N (r1 ak : Option Addr) (R : RW) (w : World) : Prop :=
 ∀ (ae : World) (q4 : Nat), Ext no w ae → Blk ae q4 118 [.pointer ak] → w.heap.size ≤ q4 → q4 < ae.heap.size →
 ∃ a5 : Addr, r1 = some a5 ∧
 ∃ (a3 : Option Addr), ae.cell? (a5.add 0) = some (.pointer a3) ∧
 Calls Try.prog 55 #[.pointer a3, .int .i64 4000] ae fun al ah => ∃ (a4 : Option Addr) (a6 a7 : Nat), al = .returned (.slice a4 a6 a7) ∧
 ∀ (a8 : World) (ac : Nat), Ext no ah a8 → Blk a8 ac 25 [.slice none 0 0] → ah.heap.size ≤ ac → ac < a8.heap.size →
 Q01 a8 ((blk ac).add 0) ∧
 thenW (a8.setCell ((blk ac).add 0) (.slice a4 a6 a7)) fun ab =>
 ∃ (a2 : Option Addr) (a1 a0 : Nat), ab.cell? (a5.add 21) = some (.slice a2 a1 a0) ∧
 ∀ (a9 : World) (ai : Nat), Ext no ab a9 → Blk a9 ai 1 [.func (.func 97) #[] #[.pointer (some (blk ac)), .pointer (some (blk q4))]] → ab.heap.size ≤ ai → ai < a9.heap.size →
 ∃ (ad : Option Addr) (af ag : Nat) (aa : World), (Builtin.append_ #[70, 70] 70 #[.slice a2 a1 a0, .slice (some (blk ai)) 1 1]).run Try.prog a9 = .ok (.slice ad af ag) aa ∧
 Q01 aa ((a5.add 21).add 0) ∧
 thenW (aa.setCell ((a5.add 21).add 0) (.slice ad af ag)) fun aj =>
 R (.tuple #[]) aj

theorem Q0j.up (r1 ak : Option Addr) {R : RW} {w : World} (h : Q0j.N r1 ak R w) : Q0j.M r1 ak R w := by
  unfold Q0j.M
  unfold Q0j.N at h
  refine Q00 fun am e3 => ?_
  have h := h am w.heap.size ((Ext.refl no w).x_alloc e3) (Blk.of_new e3) ((Ext.refl no w)).size (Q0x e3)
  obtain ⟨a5, ag, h⟩ := h
  refine Q0s ag ?_
  obtain ⟨a3, ap, h⟩ := h
  refine ⟨a3, ap, ?_⟩
  refine h.mono fun aq a9 h => ?_
  obtain ⟨a4, a6, a7, he, h⟩ := h
  refine ⟨a4, a6, a7, he, ?_⟩
  refine Q00 fun aj aa => ?_
  have h := h aj a9.heap.size ((Ext.refl no a9).x_alloc aa) (Blk.of_new aa) ((Ext.refl no a9)).size (Q0x aa)
  obtain ⟨hcs, h⟩ := h
  refine ⟨hcs, Q00 fun a8 al => ?_⟩
  replace h := Q0V h al
  refine Q0s ag ?_
  obtain ⟨a2, a1, a0, ad, h⟩ := h
  refine ⟨a2, a1, a0, ad, ?_⟩
  refine Q00 fun af ai => ?_
  have h := h af a8.heap.size ((Ext.refl no a8).x_alloc ai) (Blk.of_new ai) ((Ext.refl no a8)).size (Q0x ai)
  obtain ⟨ab, ae, ah, ac, hr, h⟩ := h
  refine ⟨ab, ae, ah, ac, hr, ?_⟩
  refine Q0s ag ?_
  obtain ⟨hcs, h⟩ := h
  refine ⟨hcs, Q00 fun ao an => ?_⟩
  replace h := Q0V h an
  exact h

theorem Q0j.go (r1 a0 : Option Addr) {R : RW} {w : World} (h : Q0j.N r1 a0 R w) : Calls Try.prog 91 #[.pointer r1, .pointer a0] w fun e w' => ∃ v, e = .returned v ∧ R v w' := Q0j.ok r1 a0 (Q0j.up r1 a0 h)
abbrev Q08.J1 (ab : Addr) (R : RW) (ac : World) : Prop :=
 ∃ (an : Option Addr), ac.cell? ab = some (.pointer an) ∧
 an.elim False fun ap =>
 ∃ (a5 : Option Addr), ac.cell? (ap.add 0) = some (.pointer a5) ∧
 Calls Try.prog 55 #[.pointer a5, .int .i64 4000] ac fun al a8 => ∃ (a6 : Option Addr) (a3 a4 : Nat), al = .returned (.slice a6 a3 a4) ∧
 thenW (a8.alloc (.cells #[.slice none 0 0] 25)) fun af =>
 Q01 af ((blk a8.heap.size).add 0) ∧
 thenW (af.setCell ((blk a8.heap.size).add 0) (.slice a6 a3 a4)) fun aj =>
 thenW (aj.drew) fun a7 =>
 ∃ (ah : Option Addr), a7.cell? ab = some (.pointer ah) ∧
 ∃ (ai : Option Addr), a7.cell? ab = some (.pointer ai) ∧
 ai.elim False fun ao =>
 ∃ (a0 : Option Addr) (a2 a1 : Nat), a7.cell? (ao.add 21) = some (.slice a0 a2 a1) ∧
 thenW (a7.alloc (.cells #[.func (.func 92) #[] #[.pointer (some (blk a8.heap.size)), .pointer (some ab)]] 1)) fun aa =>
 aa.cell? (ao.add 21) = some (.slice a0 a2 a1) ∧
 aa.cell? ab = some (.pointer ai) ∧
 aa.cell? ab = some (.pointer ah) ∧
 ∃ (ag : Option Addr) (ad ae : Nat) (a9 : World), (Builtin.append_ #[70, 70] 70 #[.slice a0 a2 a1, .slice (some (blk a7.heap.size)) 1 1]).run Try.prog aa = .ok (.slice ag ad ae) a9 ∧
 a9.cell? ab = some (.pointer ah) ∧
 ah.elim False fun am =>
 Q01 a9 ((am.add 21).add 0) ∧
 thenW (a9.setCell ((am.add 21).add 0) (.slice ag ad ae)) fun ak =>
 R (.tuple #[]) ak

def Q08.M (r1 : Option Addr) (R : RW) (w : World) : Prop :=
 thenW (w.alloc (.cells #[.pointer r1] 67)) fun a8 =>
 thenW (a8.drew) fun a3 =>
 ∃ (x4 : Option Addr), a3.cell? (blk w.heap.size) = some (.pointer x4) ∧
 ∃ (x5 : Option Addr), a3.cell? (blk w.heap.size) = some (.pointer x5) ∧
 x5.elim False fun a6 =>
 ∃ (a0 : Option Addr), a3.cell? (a6.add 0) = some (.pointer a0) ∧
 Calls Try.prog 54 #[.pointer a0, .int .i64 7] a3 fun a7 a2 => ∃ (a1 : Int), a7 = .returned (.int .i64 a1) ∧
 a2.cell? (blk w.heap.size) = some (.pointer x4) ∧
 x4.elim False fun a5 =>
 Q01 a2 (((a5.add 1).add 17).add 0) ∧
 thenW (a2.setCell (((a5.add 1).add 17).add 0) (.int .i64 a1)) fun a4 =>
 Q08.J1 (blk w.heap.size) R a4

theorem Q08.ok (r1 : Option Addr) {R : RW} {w : World} (h : Q08.M r1 R w) : Calls Try.prog 78 #[.pointer r1] w fun e w' => ∃ v, e = .returned v ∧ R v w' :=
  Q0b follows (H := []) (args := [.pointer r1]) (cast (by kernel_rfl) h)

def Q08.N (r1 : Option Addr) (R : RW) (w : World) : Prop :=
 ∀ (af : World) (q3 : Nat), Ext no w af → Blk af q3 67 [.pointer r1] → w.heap.size ≤ q3 → q3 < af.heap.size →
 ∃ (x6 : Option Addr), af.cell? (blk q3) = some (.pointer x6) ∧
 ∃ (x8 : Option Addr), af.cell? (blk q3) = some (.pointer x8) ∧
 ∃ a9 : Addr, x8 = some a9 ∧
 ∃ (a6 : Option Addr), af.cell? (a9.add 0) = some (.pointer a6) ∧
 ∀ (ay : World), Ext no af ay →
 Calls Try.prog 54 #[.pointer a6, .int .i64 7] ay fun aq ae => ∃ (aa : Int), aq = .returned (.int .i64 aa) ∧
 ae.cell? (blk q3) = some (.pointer x6) ∧
 ∃ ap : Addr, x6 = some ap ∧
 Q01 ae (((ap.add 1).add 17).add 0) ∧
 thenW (ae.setCell (((ap.add 1).add 17).add 0) (.int .i64 aa)) fun ag =>
 ∃ (az : Option Addr), ag.cell? (blk q3) = some (.pointer az) ∧
 ∃ ax : Addr, az = some ax ∧
 ∃ (a4 : Option Addr), ag.cell? (ax.add 0) = some (.pointer a4) ∧
 Calls Try.prog 55 #[.pointer a4, .int .i64 4000] ag fun ar ak => ∃ (a3 : Option Addr) (a7 a5 : Nat), ar = .returned (.slice a3 a7 a5) ∧
 ∀ (ab : World) (ah : Nat), Ext no ak ab → Blk ab ah 25 [.slice none 0 0] → ak.heap.size ≤ ah → ah < ab.heap.size →
 Q01 ab ((blk ah).add 0) ∧
 thenW (ab.setCell ((blk ah).add 0) (.slice a3 a7 a5)) fun ac =>
 ∃ (am : Option Addr), ac.cell? (blk q3) = some (.pointer am) ∧
 ∃ (aw : Option Addr), ac.cell? (blk q3) = some (.pointer aw) ∧
 ∃ av : Addr, aw = some av ∧
 ∃ (a1 : Option Addr) (a2 a0 : Nat), ac.cell? (av.add 21) = some (.slice a1 a2 a0) ∧
 ∀ (a8 : World) (an : Nat), Ext no ac a8 → Blk a8 an 1 [.func (.func 92) #[] #[.pointer (some (blk ah)), .pointer (some (blk q3))]] → ac.heap.size ≤ an → an < a8.heap.size →
 a8.cell? (av.add 21) = some (.slice a1 a2 a0) ∧
 a8.cell? (blk q3) = some (.pointer aw) ∧
 a8.cell? (blk q3) = some (.pointer am) ∧
 ∃ (ai : Option Addr) (aj al : Nat) (ad : World), (Builtin.append_ #[70, 70] 70 #[.slice a1 a2 a0, .slice (some (blk an)) 1 1]).run Try.prog a8 = .ok (.slice ai aj al) ad ∧
 ad.cell? (blk q3) = some (.pointer am) ∧
 ∃ ao : Addr, am = some ao ∧
 Q01 ad ((ao.add 21).add 0) ∧
 thenW (ad.setCell ((ao.add 21).add 0) (.slice ai aj al)) fun au =>
 R (.tuple #[]) au

theorem Q08.up (r1 : Option Addr) {R : RW} {w : World} (h : Q08.N r1 R w) : Q08.M r1 R w := by
  unfold Q08.M
  unfold Q08.N at h
  refine Q00 fun b4 e2 => ?_
  have h := h b4 w.heap.size ((Ext.refl no w).x_alloc e2) (Blk.of_new e2) ((Ext.refl no w)).size (Q0x e2)
  refine Q00 fun bc e4 => ?_
  have ac := (Ext.refl no b4).x_drew e4
  obtain ⟨x6, bb, h⟩ := h
  refine ⟨x6, (ac).cell bb id, ?_⟩
  obtain ⟨x8, bg, h⟩ := h
  refine ⟨x8, (ac).cell bg id, ?_⟩
  obtain ⟨a9, bf, h⟩ := h
  refine Q0s bf ?_
  obtain ⟨a7, al, h⟩ := h
  refine ⟨a7, (ac).cell al id, ?_⟩
  have h := h bc ac
  refine h.mono fun b9 b5 h => ?_
  obtain ⟨aa, he, h⟩ := h
  refine ⟨aa, he, ?_⟩
  obtain ⟨ai, h⟩ := h
  refine ⟨ai, ?_⟩
  obtain ⟨bm, an, h⟩ := h
  refine Q0s an ?_
  obtain ⟨hcs, h⟩ := h
  refine ⟨hcs, Q00 fun bj bh => ?_⟩
  replace h := Q0V h bh
  first | unfold Q08.J1 | skip
  obtain ⟨be, ap, h⟩ := h
  refine ⟨be, ap, ?_⟩
  obtain ⟨bn, ax, h⟩ := h
  refine Q0s ax ?_
  obtain ⟨a3, au, h⟩ := h
  refine ⟨a3, au, ?_⟩
  refine h.mono fun ba ab h => ?_
  obtain ⟨a2, a8, a6, he, h⟩ := h
  refine ⟨a2, a8, a6, he, ?_⟩
  refine Q00 fun ad az => ?_
  have h := h ad ab.heap.size ((Ext.refl no ab).x_alloc az) (Blk.of_new az) ((Ext.refl no ab)).size (Q0x az)
  obtain ⟨hcs, h⟩ := h
  refine ⟨hcs, Q00 fun ar b6 => ?_⟩
  replace h := Q0V h b6
  refine Q00 fun av bi => ?_
  have a1 := (Ext.refl no ar).x_drew bi
  obtain ⟨b8, b1, h⟩ := h
  refine ⟨b8, (a1).cell b1 id, ?_⟩
  obtain ⟨bk, am, h⟩ := h
  refine ⟨bk, (a1).cell am id, ?_⟩
  obtain ⟨bo, af, h⟩ := h
  refine Q0s af ?_
  obtain ⟨a4, a5, a0, ag, h⟩ := h
  refine ⟨a4, a5, a0, (a1).cell ag id, ?_⟩
  refine Q00 fun aw ay => ?_
  have h := h aw av.heap.size (a1.x_alloc ay) (Blk.of_new ay) (a1).size (Q0x ay)
  obtain ⟨ae, b2, b0, h⟩ := h
  refine ⟨ae, b2, b0, ?_⟩
  obtain ⟨ao, aq, b3, ah, hr, h⟩ := h
  refine ⟨ao, aq, b3, ah, hr, ?_⟩
  obtain ⟨aj, h⟩ := h
  refine ⟨aj, ?_⟩
  obtain ⟨bl, ak, h⟩ := h
  refine Q0s ak ?_
  obtain ⟨hcs, h⟩ := h
  refine ⟨hcs, Q00 fun bd b7 => ?_⟩
  replace h := Q0V h b7
  exact h

theorem Q08.go (r1 : Option Addr) {R : RW} {w : World} (h : Q08.N r1 R w) : Calls Try.prog 78 #[.pointer r1] w fun e w' => ∃ v, e = .returned v ∧ R v w' := Q08.ok r1 (Q08.up r1 h)
def Q0n.M (r1 : Option Addr) (R : RW) (w : World) : Prop :=
 r1.elim False fun a2 =>
 Calls Try.prog 91 #[.pointer r1, .pointer (some ((a2.add 1).add 1))] w fun a0 a1 => a0 = .returned (.tuple #[]) ∧
 R (.tuple #[]) a1

theorem Q0n.ok (r1 : Option Addr) {R : RW} {w : World} (h : Q0n.M r1 R w) : Calls Try.prog 77 #[.pointer r1] w fun e w' => ∃ v, e = .returned v ∧ R v w' :=
  Q0b follows (H := []) (args := [.pointer r1]) (cast (by kernel_rfl) h)

def Q0n.N (r1 : Option Addr) (R : RW) (w : World) : Prop :=
 ∃ a2 : Addr, r1 = some a2 ∧
 Calls Try.prog 91 #[.pointer r1, .pointer (some ((a2.add 1).add 1))] w fun a0 a1 => a0 = .returned (.tuple #[]) ∧
 R (.tuple #[]) a1

theorem Q0n.up (r1 : Option Addr) {R : RW} {w : World} (h : Q0n.N r1 R w) : Q0n.M r1 R w := by
  unfold Q0n.M
  unfold Q0n.N at h
  obtain ⟨a2, a0, h⟩ := h
  refine Q0s a0 ?_
  refine h.mono fun a1 a3 h => ?_
  obtain ⟨he, h⟩ := h
  refine ⟨he, ?_⟩
  exact h

theorem Q0n.go (r1 : Option Addr) {R : RW} {w : World} (h : Q0n.N r1 R w) : Calls Try.prog 77 #[.pointer r1] w fun e w' => ∃ v, e = .returned v ∧ R v w' := Q0n.ok r1 (Q0n.up r1 h)
def Q0m.M (r1 : Option Addr) (R : RW) (w : World) : Prop :=
 Calls Try.prog 77 #[.pointer r1] w fun a1 a3 => a1 = .returned (.tuple #[]) ∧
 r1.elim False fun a4 =>
 Calls Try.prog 91 #[.pointer r1, .pointer (some ((a4.add 1).add 9))] a3 fun a0 a2 => a0 = .returned (.tuple #[]) ∧
 R (.tuple #[]) a2

theorem Q0m.ok (r1 : Option Addr) {R : RW} {w : World} (h : Q0m.M r1 R w) : Calls Try.prog 80 #[.pointer r1] w fun e w' => ∃ v, e = .returned v ∧ R v w' :=
  Q0b follows (H := []) (args := [.pointer r1]) (cast (by kernel_rfl) h)

def Q0m.N (r1 : Option Addr) (R : RW) (w : World) : Prop :=
 Calls Try.prog 77 #[.pointer r1] w fun a1 a3 => a1 = .returned (.tuple #[]) ∧
 ∃ a4 : Addr, r1 = some a4 ∧
 Calls Try.prog 91 #[.pointer r1, .pointer (some ((a4.add 1).add 9))] a3 fun a0 a2 => a0 = .returned (.tuple #[]) ∧
 R (.tuple #[]) a2

theorem Q0m.up (r1 : Option Addr) {R : RW} {w : World} (h : Q0m.N r1 R w) : Q0m.M r1 R w := by
  unfold Q0m.M
  unfold Q0m.N at h
  refine h.mono fun a2 a5 h => ?_
  obtain ⟨he, h⟩ := h
  refine ⟨he, ?_⟩
  obtain ⟨a4, a0, h⟩ := h
  refine Q0s a0 ?_
  refine h.mono fun a1 a3 h => ?_
  obtain ⟨he, h⟩ := h
  refine ⟨he, ?_⟩
  exact h

theorem Q0m.go (r1 : Option Addr) {R : RW} {w : World} (h : Q0m.N r1 R w) : Calls Try.prog 80 #[.pointer r1] w fun e w' => ∃ v, e = .returned v ∧ R v w' := Q0m.ok r1 (Q0m.up r1 h)
def Q0i.M (r1 : Option Addr) (R : RW) (w : World) : Prop :=
 Calls Try.prog 78 #[.pointer r1] w fun a6 a5 => a6 = .returned (.tuple #[]) ∧
 r1.elim False fun a4 =>
 ∃ (a0 : Option Addr), a5.cell? (a4.add 0) = some (.pointer a0) ∧
 Calls Try.prog 71 #[.pointer a0] a5 fun a7 a3 => ∃ (a1 : Int), a7 = .returned (.int .u64 a1) ∧
 r1.elim False fun a9 =>
 Q01 a3 (((a9.add 1).add 19).add 0) ∧
 thenW (a3.setCell (((a9.add 1).add 19).add 0) (.int .u64 a1)) fun a2 =>
 R (.tuple #[]) a2

theorem Q0i.ok (r1 : Option Addr) {R : RW} {w : World} (h : Q0i.M r1 R w) : Calls Try.prog 79 #[.pointer r1] w fun e w' => ∃ v, e = .returned v ∧ R v w' :=
  Q0b follows (H := []) (args := [.pointer r1]) (cast (by kernel_rfl) h)

def Q0i.N (r1 : Option Addr) (R : RW) (w : World) : Prop :=
 Calls Try.prog 78 #[.pointer r1] w fun a6 a5 => a6 = .returned (.tuple #[]) ∧
 ∃ a4 : Addr, r1 = some a4 ∧
 ∃ (a0 : Option Addr), a5.cell? (a4.add 0) = some (.pointer a0) ∧
 Calls Try.prog 71 #[.pointer a0] a5 fun a7 a3 => ∃ (a1 : Int), a7 = .returned (.int .u64 a1) ∧
 Q01 a3 (((a4.add 1).add 19).add 0) ∧
 thenW (a3.setCell (((a4.add 1).add 19).add 0) (.int .u64 a1)) fun a2 =>
 R (.tuple #[]) a2

theorem Q0i.up (r1 : Option Addr) {R : RW} {w : World} (h : Q0i.N r1 R w) : Q0i.M r1 R w := by
  unfold Q0i.M
  unfold Q0i.N at h
  refine h.mono fun a7 aa h => ?_
  obtain ⟨he, h⟩ := h
  refine ⟨he, ?_⟩
  obtain ⟨a4, a2, h⟩ := h
  refine Q0s a2 ?_
  obtain ⟨a0, a3, h⟩ := h
  refine ⟨a0, a3, ?_⟩
  refine h.mono fun a8 a9 h => ?_
  obtain ⟨a1, he, h⟩ := h
  refine ⟨a1, he, ?_⟩
  refine Q0s a2 ?_
  obtain ⟨hcs, h⟩ := h
  refine ⟨hcs, Q00 fun a5 a6 => ?_⟩
  replace h := Q0V h a6
  exact h

theorem Q0i.go (r1 : Option Addr) {R : RW} {w : World} (h : Q0i.N r1 R w) : Calls Try.prog 79 #[.pointer r1] w fun e w' => ∃ v, e = .returned v ∧ R v w' := Q0i.ok r1 (Q0i.up r1 h)
def Q0k.M (r1 : Option Addr) (n2 : Int) (R : RW) (w : World) : Prop :=
 bif n2 == 1 then (
 R (.func (.func 77) #[.pointer r1] #[]) w) else (
 bif n2 == 2 then (
 R (.func (.func 78) #[.pointer r1] #[]) w) else (
 bif n2 == 3 then (
 R (.func (.func 79) #[.pointer r1] #[]) w) else (
 bif n2 == 4 then (
 R (.func (.func 80) #[.pointer r1] #[]) w) else (
 R (.func (.func 81) #[] #[]) w))))

theorem Q0k.ok (r1 : Option Addr) (n2 : Int) {R : RW} {w : World} (h : Q0k.M r1 n2 R w) : Calls Try.prog 60 #[.pointer r1, .int .i64 n2] w fun e w' => ∃ v, e = .returned v ∧ R v w' :=
  Q0b follows (H := []) (args := [.pointer r1, .int .i64 n2]) (cast (by kernel_rfl) h)

def Q0k.N (r1 : Option Addr) (n2 : Int) (R : RW) (w : World) : Prop :=
 (n2 = 1 →
 R (.func (.func 77) #[.pointer r1] #[]) w) ∧
 (n2 ≠ 1 →
 (n2 = 2 →
 R (.func (.func 78) #[.pointer r1] #[]) w) ∧
 (n2 ≠ 2 →
 (n2 = 3 →
 R (.func (.func 79) #[.pointer r1] #[]) w) ∧
 (n2 ≠ 3 →
 (n2 = 4 →
 R (.func (.func 80) #[.pointer r1] #[]) w) ∧
 (n2 ≠ 4 →
 R (.func (.func 81) #[] #[]) w))))

theorem Q0k.up (r1 : Option Addr) (n2 : Int) {R : RW} {w : World} (h : Q0k.N r1 n2 R w) : Q0k.M r1 n2 R w := by
  unfold Q0k.M
  unfold Q0k.N at h
  refine bif_of (fun c3 => ?_) (fun c3 => ?_)
  ·have h := h.1 (beq_t c3)
   exact h
  have h := h.2 (beq_f c3)
  refine bif_of (fun c4 => ?_) (fun c4 => ?_)
  ·have h := h.1 (beq_t c4)
   exact h
  have h := h.2 (beq_f c4)
  refine bif_of (fun c5 => ?_) (fun c5 => ?_)
  ·have h := h.1 (beq_t c5)
   exact h
  have h := h.2 (beq_f c5)
  refine bif_of (fun c6 => ?_) (fun c6 => ?_)
  ·have h := h.1 (beq_t c6)
   exact h
  have h := h.2 (beq_f c6)
  exact h

theorem Q0k.go (r1 : Option Addr) (n2 : Int) {R : RW} {w : World} (h : Q0k.N r1 n2 R w) : Calls Try.prog 60 #[.pointer r1, .int .i64 n2] w fun e w' => ∃ v, e = .returned v ∧ R v w' := Q0k.ok r1 n2 (Q0k.up r1 n2 h)
def Q0h.M  (R : RW) (w : World) : Prop :=
 R (.tuple #[]) w

theorem Q0h.ok  {R : RW} {w : World} (h : Q0h.M  R w) : Calls Try.prog 81 #[] w fun e w' => ∃ v, e = .returned v ∧ R v w' :=
  Q0b follows (H := []) (args := []) (cast (by kernel_rfl) h)

def Q0h.N  (R : RW) (w : World) : Prop :=
 R (.tuple #[]) w

theorem Q0h.up  {R : RW} {w : World} (h : Q0h.N  R w) : Q0h.M  R w := by
  unfold Q0h.M
  unfold Q0h.N at h
  exact h

theorem Q0h.go  {R : RW} {w : World} (h : Q0h.N  R w) : Calls Try.prog 81 #[] w fun e w' => ∃ v, e = .returned v ∧ R v w' := Q0h.ok  (Q0h.up  h)
def Q0J.M (ay : Option Addr) (b0 az : Nat) (ag ai an aq ao ak : Int) (ah : Option Addr) (aj am : Nat) (ap : Int) (R : RW) (w : World) : Prop :=
 thenW (w.alloc (.cells #[.int .i64 ag, .int .i64 ai, .int .u64 an, .int .i64 aq, .int .i64 ao, .int .i64 ak, .slice ah aj am, .int .u64 ap] 27)) fun ar =>
 ∃ (a0 a4 ac af ad a7 : Int) (a2 : Option Addr) (a9 ab : Nat) (ae : Int), cellsAt ar (blk w.heap.size) [.int .i64 a0, .int .i64 a4, .int .u64 ac, .int .i64 af, .int .i64 ad, .int .i64 a7, .slice a2 a9 ab, .int .u64 ae] 0 ∧
 Calls Try.prog 58 #[.agg #[.int .i64 a0, .int .i64 a4, .int .u64 ac, .int .i64 af, .int .i64 ad, .int .i64 a7, .slice a2 a9 ab, .int .u64 ae]] ar fun av au => ∃ (a5 : Option Addr) (a3 a6 : Nat) (al : Int), av = .returned (.tuple #[.slice a5 a3 a6, .int .i64 al]) ∧
 Calls Try.prog 29 #[.slice ay b0 az, .slice a5 a3 a6] au fun aw ax => ∃ (a1 : Option Addr) (aa a8 : Nat), aw = .returned (.slice a1 aa a8) ∧
 R (.slice a1 aa a8) ax

theorem Q0J.ok (aa : Option Addr) (ac ab : Nat) (a0 a5 a6 a9 a8 a2 : Int) (a1 : Option Addr) (a3 a4 : Nat) (a7 : Int) {R : RW} {w : World} (h : Q0J.M aa ac ab a0 a5 a6 a9 a8 a2 a1 a3 a4 a7 R w) : Calls Try.prog 27 #[.slice aa ac ab, .agg #[.int .i64 a0, .int .i64 a5, .int .u64 a6, .int .i64 a9, .int .i64 a8, .int .i64 a2, .slice a1 a3 a4, .int .u64 a7]] w fun e w' => ∃ v, e = .returned v ∧ R v w' :=
  Q0b follows (H := []) (args := [.slice aa ac ab, .agg #[.int .i64 a0, .int .i64 a5, .int .u64 a6, .int .i64 a9, .int .i64 a8, .int .i64 a2, .slice a1 a3 a4, .int .u64 a7]]) (cast (by kernel_rfl) h)

def Q0J.N (am : Option Addr) (ao an : Nat) (a6 a8 ad ag ae aa : Int) (a7 : Option Addr) (a9 ab : Nat) (af : Int) (R : RW) (w : World) : Prop :=
 ∀ (ah : World), Ext no w ah →
 Calls Try.prog 58 #[.agg #[.int .i64 a6, .int .i64 a8, .int .u64 ad, .int .i64 ag, .int .i64 ae, .int .i64 aa, .slice a7 a9 ab, .int .u64 af]] ah fun ai al => ∃ (a3 : Option Addr) (a0 a5 : Nat) (ac : Int), ai = .returned (.tuple #[.slice a3 a0 a5, .int .i64 ac]) ∧
 Calls Try.prog 29 #[.slice am ao an, .slice a3 a0 a5] al fun ak aj => ∃ (a1 : Option Addr) (a2 a4 : Nat), ak = .returned (.slice a1 a2 a4) ∧
 R (.slice a1 a2 a4) aj

theorem Q0J.up (ak : Option Addr) (an al : Nat) (a0 a2 a6 ad aa a4 : Int) (a1 : Option Addr) (a3 a5 : Nat) (ab : Int) {R : RW} {w : World} (h : Q0J.N ak an al a0 a2 a6 ad aa a4 a1 a3 a5 ab R w) : Q0J.M ak an al a0 a2 a6 ad aa a4 a1 a3 a5 ab R w := by
  unfold Q0J.M
  unfold Q0J.N at h
  refine Q00 fun aj am => ?_
  have ah := Blk.of_new am
  have au := ((Ext.refl no w)).size
  have ai := (Ext.refl no w).x_alloc am
  refine ⟨a0, a2, a6, ad, aa, a4, a1, a3, a5, ab, ⟨ah.celli 0 rfl rfl, ah.celli 1 rfl rfl, ah.celli 2 rfl rfl, ah.celli 3 rfl rfl, ah.celli 4 rfl rfl, ah.celli 5 rfl rfl, ah.celli 6 rfl rfl, ah.celli 7 rfl rfl, trivial⟩, ?_⟩
  have h := h aj ai
  refine h.mono fun ao ar h => ?_
  obtain ⟨ac, a7, af, ag, he, h⟩ := h
  refine ⟨ac, a7, af, ag, he, ?_⟩
  refine h.mono fun aq ap h => ?_
  obtain ⟨a8, a9, ae, he, h⟩ := h
  refine ⟨a8, a9, ae, he, ?_⟩
  exact h

theorem Q0J.go (aa : Option Addr) (ac ab : Nat) (a0 a5 a6 a9 a8 a2 : Int) (a1 : Option Addr) (a3 a4 : Nat) (a7 : Int) {R : RW} {w : World} (h : Q0J.N aa ac ab a0 a5 a6 a9 a8 a2 a1 a3 a4 a7 R w) : Calls Try.prog 27 #[.slice aa ac ab, .agg #[.int .i64 a0, .int .i64 a5, .int .u64 a6, .int .i64 a9, .int .i64 a8, .int .i64 a2, .slice a1 a3 a4, .int .u64 a7]] w fun e w' => ∃ v, e = .returned v ∧ R v w' := Q0J.ok aa ac ab a0 a5 a6 a9 a8 a2 a1 a3 a4 a7 (Q0J.up aa ac ab a0 a5 a6 a9 a8 a2 a1 a3 a4 a7 h)
def Q0t.M (az b3 b8 bb bc b4 : Int) (b6 : Option Addr) (b7 b5 : Nat) (ba : Int) (R : RW) (w : World) : Prop :=
 thenW (w.alloc (.cells #[.int .i64 az, .int .i64 b3, .int .u64 b8, .int .i64 bb, .int .i64 bc, .int .i64 b4, .slice b6 b7 b5, .int .u64 ba] 27)) fun be =>
 thenW (be.alloc (.cells #[.int .i64 0, .int .i64 0, .int .i64 0, .int .u64 0, .int .i64 0, .int .i64 0, .int .i64 0, .slice none 0 0, .int .u64 0, .int .i64 0, .int .i64 0, .int .u64 0, .int .i64 0, .int .i64 0, .int .i64 0, .slice none 0 0, .int .u64 0, .int .i64 0, .slice none 0 0, .int .u64 0] 38)) fun bd =>
 ∃ (af an av b2 b0 ap : Int) (am : Option Addr) (ar au : Nat) (b1 : Int), cellsAt bd (blk w.heap.size) [.int .i64 af, .int .i64 an, .int .u64 av, .int .i64 b2, .int .i64 b0, .int .i64 ap, .slice am ar au, .int .u64 b1] 0 ∧
 putsK bd (blk be.heap.size) [.int .i64 1, .int .i64 af, .int .i64 an, .int .u64 av, .int .i64 b2, .int .i64 b0, .int .i64 ap, .slice am ar au, .int .u64 b1, .int .i64 0, .int .i64 0, .int .u64 0, .int .i64 0, .int .i64 0, .int .i64 0, .slice none 0 0, .int .u64 0, .int .i64 0, .slice none 0 0, .int .u64 0] 0 fun b9 =>
 ∃ (aj a1 a7 ad ae ai a2 : Int) (a8 : Option Addr) (a6 ab : Nat) (ah a0 a9 ac ag al a4 : Int) (a3 : Option Addr) (aa a5 : Nat) (ak ao : Int) (ax : Option Addr) (ay aw : Nat) (aq : Int), cellsAt b9 (blk be.heap.size) [.int .i64 aj, .int .i64 a1, .int .i64 a7, .int .u64 ad, .int .i64 ae, .int .i64 ai, .int .i64 a2, .slice a8 a6 ab, .int .u64 ah, .int .i64 a0, .int .i64 a9, .int .u64 ac, .int .i64 ag, .int .i64 al, .int .i64 a4, .slice a3 aa a5, .int .u64 ak, .int .i64 ao, .slice ax ay aw, .int .u64 aq] 0 ∧
 R (.agg #[.int .i64 aj, .int .i64 a1, .int .i64 a7, .int .u64 ad, .int .i64 ae, .int .i64 ai, .int .i64 a2, .slice a8 a6 ab, .int .u64 ah, .int .i64 a0, .int .i64 a9, .int .u64 ac, .int .i64 ag, .int .i64 al, .int .i64 a4, .slice a3 aa a5, .int .u64 ak, .int .i64 ao, .slice ax ay aw, .int .u64 aq]) b9

theorem Q0t.ok (a0 a2 a6 a8 a9 a5 : Int) (a1 : Option Addr) (a3 a4 : Nat) (a7 : Int) {R : RW} {w : World} (h : Q0t.M a0 a2 a6 a8 a9 a5 a1 a3 a4 a7 R w) : Calls Try.prog 20 #[.agg #[.int .i64 a0, .int .i64 a2, .int .u64 a6, .int .i64 a8, .int .i64 a9, .int .i64 a5, .slice a1 a3 a4, .int .u64 a7]] w fun e w' => ∃ v, e = .returned v ∧ R v w' :=
  Q0b follows (H := []) (args := [.agg #[.int .i64 a0, .int .i64 a2, .int .u64 a6, .int .i64 a8, .int .i64 a9, .int .i64 a5, .slice a1 a3 a4, .int .u64 a7]]) (cast (by kernel_rfl) h)

def Q0t.N (a0 a3 a6 a9 aa a5 : Int) (a1 : Option Addr) (a2 a4 : Nat) (a8 : Int) (R : RW) (w : World) : Prop :=
 ∀ (a7 : World), Ext no w a7 →
 R (.agg #[.int .i64 1, .int .i64 a0, .int .i64 a3, .int .u64 a6, .int .i64 a9, .int .i64 aa, .int .i64 a5, .slice a1 a2 a4, .int .u64 a8, .int .i64 0, .int .i64 0, .int .u64 0, .int .i64 0, .int .i64 0, .int .i64 0, .slice none 0 0, .int .u64 0, .int .i64 0, .slice none 0 0, .int .u64 0]) a7

theorem Q0t.up (a0 a1 a7 a9 aa a2 : Int) (a4 : Option Addr) (a5 a3 : Nat) (a8 : Int) {R : RW} {w : World} (h : Q0t.N a0 a1 a7 a9 aa a2 a4 a5 a3 a8 R w) : Q0t.M a0 a1 a7 a9 aa a2 a4 a5 a3 a8 R w := by
  unfold Q0t.M
  unfold Q0t.N at h
  refine Q00 fun an e9 => ?_
  have ab := Blk.of_new e9
  have am := ((Ext.refl no w)).size
  have ag := (Ext.refl no w).x_alloc e9
  refine Q00 fun al ad => ?_
  have a6 := Blk.of_new ad
  have aj := (ag).size
  have ah := Nat.ne_of_lt ab.lt
  have ab := ab.x_alloc ad
  have ac := ag.x_alloc ad
  refine ⟨a0, a1, a7, a9, aa, a2, a4, a5, a3, a8, ⟨ab.celli 0 rfl rfl, ab.celli 1 rfl rfl, ab.celli 2 rfl rfl, ab.celli 3 rfl rfl, ab.celli 4 rfl rfl, ab.celli 5 rfl rfl, ab.celli 6 rfl rfl, ab.celli 7 rfl rfl, trivial⟩, ?_⟩
  refine Q0M (k := 0) (j := 0) a6 (by exact Nat.le_of_ble_eq_true rfl) fun ae ai ak => ?_
  have af := ac.x_puts ai (.inr aj)
  have a6 := Q10 ak rfl
  refine ⟨1, a0, a1, a7, a9, aa, a2, a4, a5, a3, a8, 0, 0, 0, 0, 0, 0, none, 0, 0, 0, 0, none, 0, 0, 0, ⟨a6.celli 0 rfl rfl, a6.celli 1 rfl rfl, a6.celli 2 rfl rfl, a6.celli 3 rfl rfl, a6.celli 4 rfl rfl, a6.celli 5 rfl rfl, a6.celli 6 rfl rfl, a6.celli 7 rfl rfl, a6.celli 8 rfl rfl, a6.celli 9 rfl rfl, a6.celli 10 rfl rfl, a6.celli 11 rfl rfl, a6.celli 12 rfl rfl, a6.celli 13 rfl rfl, a6.celli 14 rfl rfl, a6.celli 15 rfl rfl, a6.celli 16 rfl rfl, a6.celli 17 rfl rfl, a6.celli 18 rfl rfl, a6.celli 19 rfl rfl, trivial⟩, ?_⟩
  have h := h ae af
  exact h

theorem Q0t.go (a0 a2 a6 a8 a9 a5 : Int) (a1 : Option Addr) (a3 a4 : Nat) (a7 : Int) {R : RW} {w : World} (h : Q0t.N a0 a2 a6 a8 a9 a5 a1 a3 a4 a7 R w) : Calls Try.prog 20 #[.agg #[.int .i64 a0, .int .i64 a2, .int .u64 a6, .int .i64 a8, .int .i64 a9, .int .i64 a5, .slice a1 a3 a4, .int .u64 a7]] w fun e w' => ∃ v, e = .returned v ∧ R v w' := Q0t.ok a0 a2 a6 a8 a9 a5 a1 a3 a4 a7 (Q0t.up a0 a2 a6 a8 a9 a5 a1 a3 a4 a7 h)
theorem Q0t.run (a0 a2 a6 a8 a9 a5 : Int) (a1 : Option Addr) (a3 a4 : Nat) (a7 : Int) {V : Value} {Q : World → Prop} {w : World} (h : Q0t.N a0 a2 a6 a8 a9 a5 a1 a3 a4 a7 (fun v w' => v = V ∧ Q w') w) : Calls Try.prog 20 #[.agg #[.int .i64 a0, .int .i64 a2, .int .u64 a6, .int .i64 a8, .int .i64 a9, .int .i64 a5, .slice a1 a3 a4, .int .u64 a7]] w (Ret V Q) := (Q0t.go a0 a2 a6 a8 a9 a5 a1 a3 a4 a7 h).mono fun e w' ⟨v, he, hv, hq⟩ => ⟨by rw [he, hv], hq⟩

def Q0y.M (cr b6 bk c8 cn cq bu : Int) (bz : Option Addr) (c4 br : Nat) (cm aq ba bo ch c6 b3 : Int) (be : Option Addr) (bd b5 : Nat) (cf co : Int) (cw : Option Addr) (d0 d1 : Nat) (cs ca au b9 bh cd cg b8 : Int) (b4 : Option Addr) (bb b0 : Nat) (cb ap bf bs c7 ce b7 : Int) (b2 : Option Addr) (bc b1 : Nat) (c5 cp : Int) (d4 : Option Addr) (cu cv : Nat) (ct : Int) (R : RW) (w : World) : Prop :=
 thenW (w.alloc (.cells #[.int .i64 cr, .int .i64 b6, .int .i64 bk, .int .u64 c8, .int .i64 cn, .int .i64 cq, .int .i64 bu, .slice bz c4 br, .int .u64 cm, .int .i64 aq, .int .i64 ba, .int .u64 bo, .int .i64 ch, .int .i64 c6, .int .i64 b3, .slice be bd b5, .int .u64 cf, .int .i64 co, .slice cw d0 d1, .int .u64 cs] 38)) fun ar =>
 thenW (ar.alloc (.cells #[.int .i64 ca, .int .i64 au, .int .i64 b9, .int .u64 bh, .int .i64 cd, .int .i64 cg, .int .i64 b8, .slice b4 bb b0, .int .u64 cb, .int .i64 ap, .int .i64 bf, .int .u64 bs, .int .i64 c7, .int .i64 ce, .int .i64 b7, .slice b2 bc b1, .int .u64 c5, .int .i64 cp, .slice d4 cu cv, .int .u64 ct] 38)) fun a0 =>
 ∃ (bx : Int), a0.cell? ((blk w.heap.size).add 0) = some (.int .i64 bx) ∧
 ∃ (bn : Int), a0.cell? ((blk ar.heap.size).add 0) = some (.int .i64 bn) ∧
 bif bx == bn then (
 ∃ (ci : Int), a0.cell? ((blk w.heap.size).add 17) = some (.int .i64 ci) ∧
 ∃ (cl : Int), a0.cell? ((blk ar.heap.size).add 17) = some (.int .i64 cl) ∧
 bif ci == cl then (
 ∃ (ck : Int), a0.cell? ((blk w.heap.size).add 19) = some (.int .u64 ck) ∧
 ∃ (cj : Int), a0.cell? ((blk ar.heap.size).add 19) = some (.int .u64 cj) ∧
 bif ck == cj then (
 ∃ (a1 af aw bm bp a6 : Int) (ag : Option Addr) (aj a7 : Nat) (bi : Int), cellsAt a0 ((blk w.heap.size).add 1) [.int .i64 a1, .int .i64 af, .int .u64 aw, .int .i64 bm, .int .i64 bp, .int .i64 a6, .slice ag aj a7, .int .u64 bi] 0 ∧
 ∃ (a2 ac ax bv c1 aa : Int) (a9 : Option Addr) (al a8 : Nat) (bw : Int), cellsAt a0 ((blk ar.heap.size).add 1) [.int .i64 a2, .int .i64 ac, .int .u64 ax, .int .i64 bv, .int .i64 c1, .int .i64 aa, .slice a9 al a8, .int .u64 bw] 0 ∧
 Calls Try.prog 30 #[.agg #[.int .i64 a1, .int .i64 af, .int .u64 aw, .int .i64 bm, .int .i64 bp, .int .i64 a6, .slice ag aj a7, .int .u64 bi], .agg #[.int .i64 a2, .int .i64 ac, .int .u64 ax, .int .i64 bv, .int .i64 c1, .int .i64 aa, .slice a9 al a8, .int .u64 bw]] a0 fun d9 c9 => ∃ (bl : Bool), d9 = .returned (.bool bl) ∧
 bif bl then (
 ∃ (a3 ab ay bg bj a5 : Int) (ah : Option Addr) (ao ak : Nat) (c2 : Int), cellsAt c9 ((blk w.heap.size).add 9) [.int .i64 a3, .int .i64 ab, .int .u64 ay, .int .i64 bg, .int .i64 bj, .int .i64 a5, .slice ah ao ak, .int .u64 c2] 0 ∧
 ∃ (a4 an av c3 bq ae : Int) (ad : Option Addr) (ai am : Nat) (c0 : Int), cellsAt c9 ((blk ar.heap.size).add 9) [.int .i64 a4, .int .i64 an, .int .u64 av, .int .i64 c3, .int .i64 bq, .int .i64 ae, .slice ad ai am, .int .u64 c0] 0 ∧
 Calls Try.prog 30 #[.agg #[.int .i64 a3, .int .i64 ab, .int .u64 ay, .int .i64 bg, .int .i64 bj, .int .i64 a5, .slice ah ao ak, .int .u64 c2], .agg #[.int .i64 a4, .int .i64 an, .int .u64 av, .int .i64 c3, .int .i64 bq, .int .i64 ae, .slice ad ai am, .int .u64 c0]] c9 fun d8 cc => ∃ (bt : Bool), d8 = .returned (.bool bt) ∧
 bif bt then (
 ∃ (cy : Option Addr) (d3 d2 : Nat), cc.cell? ((blk w.heap.size).add 18) = some (.slice cy d3 d2) ∧
 ∃ (cx : Option Addr) (cz d5 : Nat), cc.cell? ((blk ar.heap.size).add 18) = some (.slice cx cz d5) ∧
 Calls Try.prog 31 #[.slice cy d3 d2, .slice cx cz d5] cc fun d6 d7 => ∃ (az : Bool), d6 = .returned (.bool az) ∧
 R (.bool az) d7) else (
 R (.bool false) cc)) else (
 R (.bool false) c9)) else (
 R (.bool false) a0)) else (
 R (.bool false) a0)) else (
 R (.bool false) a0)

theorem Q0y.ok (b4 a8 ao b1 b5 b6 an : Int) (ap : Option Addr) (aq al : Nat) (b8 a2 ae ak b3 az a5 : Int) (ag : Option Addr) (a6 ai : Nat) (b2 ba : Int) (bf : Option Addr) (bg bh : Nat) (b9 ar a0 ad aj ax ay ac : Int) (ab : Option Addr) (af a4 : Nat) (aw a1 ah am av b0 a9 : Int) (aa : Option Addr) (a3 a7 : Nat) (au bb : Int) (be : Option Addr) (bc bd : Nat) (b7 : Int) {R : RW} {w : World} (h : Q0y.M b4 a8 ao b1 b5 b6 an ap aq al b8 a2 ae ak b3 az a5 ag a6 ai b2 ba bf bg bh b9 ar a0 ad aj ax ay ac ab af a4 aw a1 ah am av b0 a9 aa a3 a7 au bb be bc bd b7 R w) : Calls Try.prog 12 #[.agg #[.int .i64 b4, .int .i64 a8, .int .i64 ao, .int .u64 b1, .int .i64 b5, .int .i64 b6, .int .i64 an, .slice ap aq al, .int .u64 b8, .int .i64 a2, .int .i64 ae, .int .u64 ak, .int .i64 b3, .int .i64 az, .int .i64 a5, .slice ag a6 ai, .int .u64 b2, .int .i64 ba, .slice bf bg bh, .int .u64 b9], .agg #[.int .i64 ar, .int .i64 a0, .int .i64 ad, .int .u64 aj, .int .i64 ax, .int .i64 ay, .int .i64 ac, .slice ab af a4, .int .u64 aw, .int .i64 a1, .int .i64 ah, .int .u64 am, .int .i64 av, .int .i64 b0, .int .i64 a9, .slice aa a3 a7, .int .u64 au, .int .i64 bb, .slice be bc bd, .int .u64 b7]] w fun e w' => ∃ v, e = .returned v ∧ R v w' :=
  Q0b follows (H := []) (args := [.agg #[.int .i64 b4, .int .i64 a8, .int .i64 ao, .int .u64 b1, .int .i64 b5, .int .i64 b6, .int .i64 an, .slice ap aq al, .int .u64 b8, .int .i64 a2, .int .i64 ae, .int .u64 ak, .int .i64 b3, .int .i64 az, .int .i64 a5, .slice ag a6 ai, .int .u64 b2, .int .i64 ba, .slice bf bg bh, .int .u64 b9], .agg #[.int .i64 ar, .int .i64 a0, .int .i64 ad, .int .u64 aj, .int .i64 ax, .int .i64 ay, .int .i64 ac, .slice ab af a4, .int .u64 aw, .int .i64 a1, .int .i64 ah, .int .u64 am, .int .i64 av, .int .i64 b0, .int .i64 a9, .slice aa a3 a7, .int .u64 au, .int .i64 bb, .slice be bc bd, .int .u64 b7]]) (cast (by kernel_rfl) h)

def Q0y.N (ao ae aw bc bf bh au : Int) (az : Option Addr) (b1 aq : Nat) (bg a5 ak b2 bd ba ab : Int) (am : Option Addr) (ac a8 : Nat) (b3 ay : Int) (bl : Option Addr) (bm bn : Nat) (ax a6 a2 aj ap b7 b8 ai : Int) (ah : Option Addr) (al aa : Nat) (b6 a4 an ar b5 bb af : Int) (ag : Option Addr) (a9 ad : Nat) (b4 b0 : Int) (bk : Option Addr) (bi bj : Nat) (av : Int) (R : RW) (w : World) : Prop :=
 (ao = a6 →
 (ay = b0 →
 (ax = av →
 ∀ (a0 : World) (bs br : Nat), Ext no w a0 → Priv w a0 [bs, br] →
 Calls Try.prog 30 #[.agg #[.int .i64 ae, .int .i64 aw, .int .u64 bc, .int .i64 bf, .int .i64 bh, .int .i64 au, .slice az b1 aq, .int .u64 bg], .agg #[.int .i64 a2, .int .i64 aj, .int .u64 ap, .int .i64 b7, .int .i64 b8, .int .i64 ai, .slice ah al aa, .int .u64 b6]] a0 fun bq b9 => ∃ (a1 : Bool), bq = .returned (.bool a1) ∧
 Keep [bs, br] a0 b9 ∧
 (a1 = true →
 Calls Try.prog 30 #[.agg #[.int .i64 a5, .int .i64 ak, .int .u64 b2, .int .i64 bd, .int .i64 ba, .int .i64 ab, .slice am ac a8, .int .u64 b3], .agg #[.int .i64 a4, .int .i64 an, .int .u64 ar, .int .i64 b5, .int .i64 bb, .int .i64 af, .slice ag a9 ad, .int .u64 b4]] b9 fun bp be => ∃ (a3 : Bool), bp = .returned (.bool a3) ∧
 Keep [bs, br] b9 be ∧
 (a3 = true →
 Calls Try.prog 31 #[.slice bl bm bn, .slice bk bi bj] be fun bo bt => ∃ (a7 : Bool), bo = .returned (.bool a7) ∧
 R (.bool a7) bt) ∧
 (a3 = false →
 R (.bool false) be)) ∧
 (a1 = false →
 R (.bool false) b9)) ∧
 (ax ≠ av →
 ∀ (a0 : World), Ext no w a0 →
 R (.bool false) a0)) ∧
 (ay ≠ b0 →
 ∀ (a0 : World), Ext no w a0 →
 R (.bool false) a0)) ∧
 (ao ≠ a6 →
 ∀ (a0 : World), Ext no w a0 →
 R (.bool false) a0)

theorem Q0y.up (bb aa am ay b7 ba aq : Int) (ar : Option Addr) (au ao : Nat) (b6 a1 ae an b5 aw a7 : Int) (ai : Option Addr) (ah a9 : Nat) (b3 b8 : Int) (bg : Option Addr) (bh bi : Nat) (bc az a2 ad al b1 b4 ac : Int) (a8 : Option Addr) (af a4 : Nat) (b0 a0 aj ap ax b2 ab : Int) (a6 : Option Addr) (ag a5 : Nat) (av b9 : Int) (bj : Option Addr) (be bf : Nat) (bd : Int) {R : RW} {w : World} (h : Q0y.N bb aa am ay b7 ba aq ar au ao b6 a1 ae an b5 aw a7 ai ah a9 b3 b8 bg bh bi bc az a2 ad al b1 b4 ac a8 af a4 b0 a0 aj ap ax b2 ab a6 ag a5 av b9 bj be bf bd R w) : Q0y.M bb aa am ay b7 ba aq ar au ao b6 a1 ae an b5 aw a7 ai ah a9 b3 b8 bg bh bi bc az a2 ad al b1 b4 ac a8 af a4 b0 a0 aj ap ax b2 ab a6 ag a5 av b9 bj be bf bd R w := by
  unfold Q0y.M
  unfold Q0y.N at h
  refine Q00 fun bu bz => ?_
  have a3 := Blk.of_new bz
  have c7 := ((Ext.refl no w)).size
  have bp := (Ext.refl no w).x_alloc bz
  refine Q00 fun bl bw => ?_
  have ak := Blk.of_new bw
  have c0 := (bp).size
  have bx := Nat.ne_of_lt a3.lt
  have a3 := a3.x_alloc bw
  have bm := bp.x_alloc bw
  refine ⟨bb, a3.celli 0 rfl rfl, ?_⟩
  refine ⟨az, ak.celli 0 rfl rfl, ?_⟩
  refine bif_fo (fun bq => ?_) (fun bq => ?_)
  ·have h := h.2 (beq_f bq)
   have h := h bl bm
   exact h
  have h := h.1 (beq_t bq)
  refine ⟨b8, a3.celli 17 rfl rfl, ?_⟩
  refine ⟨b9, ak.celli 17 rfl rfl, ?_⟩
  refine bif_fo (fun bv => ?_) (fun bv => ?_)
  ·have h := h.2 (beq_f bv)
   have h := h bl bm
   exact h
  have h := h.1 (beq_t bv)
  refine ⟨bc, a3.celli 19 rfl rfl, ?_⟩
  refine ⟨bd, ak.celli 19 rfl rfl, ?_⟩
  refine bif_fo (fun br => ?_) (fun br => ?_)
  ·have h := h.2 (beq_f br)
   have h := h bl bm
   exact h
  have h := h.1 (beq_t br)
  refine ⟨aa, am, ay, b7, ba, aq, ar, au, ao, b6, ⟨a3.celli 1 rfl rfl, a3.celli 2 rfl rfl, a3.celli 3 rfl rfl, a3.celli 4 rfl rfl, a3.celli 5 rfl rfl, a3.celli 6 rfl rfl, a3.celli 7 rfl rfl, a3.celli 8 rfl rfl, trivial⟩, ?_⟩
  refine ⟨a2, ad, al, b1, b4, ac, a8, af, a4, b0, ⟨ak.celli 1 rfl rfl, ak.celli 2 rfl rfl, ak.celli 3 rfl rfl, ak.celli 4 rfl rfl, ak.celli 5 rfl rfl, ak.celli 6 rfl rfl, ak.celli 7 rfl rfl, ak.celli 8 rfl rfl, trivial⟩, ?_⟩
  have h := h bl (w.heap.size) (bu.heap.size) bm (Priv.cons c7 a3.lt (Priv.cons c0 ak.lt Priv.nil))
  refine h.mono fun c6 c1 h => ?_
  obtain ⟨bo, he, hk, h⟩ := h
  refine ⟨bo, he, ?_⟩
  have a3 := hk.blk a3 (by simp)
  have ak := hk.blk ak (by simp)
  refine bif_fo (fun bt => ?_) (fun bt => ?_)
  ·have h := h.2 bt
   exact h
  have h := h.1 bt
  refine ⟨a1, ae, an, b5, aw, a7, ai, ah, a9, b3, ⟨a3.celli 9 rfl rfl, a3.celli 10 rfl rfl, a3.celli 11 rfl rfl, a3.celli 12 rfl rfl, a3.celli 13 rfl rfl, a3.celli 14 rfl rfl, a3.celli 15 rfl rfl, a3.celli 16 rfl rfl, trivial⟩, ?_⟩
  refine ⟨a0, aj, ap, ax, b2, ab, a6, ag, a5, av, ⟨ak.celli 9 rfl rfl, ak.celli 10 rfl rfl, ak.celli 11 rfl rfl, ak.celli 12 rfl rfl, ak.celli 13 rfl rfl, ak.celli 14 rfl rfl, ak.celli 15 rfl rfl, ak.celli 16 rfl rfl, trivial⟩, ?_⟩
  refine h.mono fun c4 c5 h => ?_
  obtain ⟨bn, he, hk, h⟩ := h
  refine ⟨bn, he, ?_⟩
  have a3 := hk.blk a3 (by simp)
  have ak := hk.blk ak (by simp)
  refine bif_fo (fun bs => ?_) (fun bs => ?_)
  ·have h := h.2 bs
   exact h
  have h := h.1 bs
  refine ⟨bg, bh, bi, a3.celli 18 rfl rfl, ?_⟩
  refine ⟨bj, be, bf, ak.celli 18 rfl rfl, ?_⟩
  refine h.mono fun c3 c2 h => ?_
  obtain ⟨bk, he, h⟩ := h
  refine ⟨bk, he, ?_⟩
  exact h

theorem Q0y.go (b4 a8 ao b1 b5 b6 an : Int) (ap : Option Addr) (aq al : Nat) (b8 a2 ae ak b3 az a5 : Int) (ag : Option Addr) (a6 ai : Nat) (b2 ba : Int) (bf : Option Addr) (bg bh : Nat) (b9 ar a0 ad aj ax ay ac : Int) (ab : Option Addr) (af a4 : Nat) (aw a1 ah am av b0 a9 : Int) (aa : Option Addr) (a3 a7 : Nat) (au bb : Int) (be : Option Addr) (bc bd : Nat) (b7 : Int) {R : RW} {w : World} (h : Q0y.N b4 a8 ao b1 b5 b6 an ap aq al b8 a2 ae ak b3 az a5 ag a6 ai b2 ba bf bg bh b9 ar a0 ad aj ax ay ac ab af a4 aw a1 ah am av b0 a9 aa a3 a7 au bb be bc bd b7 R w) : Calls Try.prog 12 #[.agg #[.int .i64 b4, .int .i64 a8, .int .i64 ao, .int .u64 b1, .int .i64 b5, .int .i64 b6, .int .i64 an, .slice ap aq al, .int .u64 b8, .int .i64 a2, .int .i64 ae, .int .u64 ak, .int .i64 b3, .int .i64 az, .int .i64 a5, .slice ag a6 ai, .int .u64 b2, .int .i64 ba, .slice bf bg bh, .int .u64 b9], .agg #[.int .i64 ar, .int .i64 a0, .int .i64 ad, .int .u64 aj, .int .i64 ax, .int .i64 ay, .int .i64 ac, .slice ab af a4, .int .u64 aw, .int .i64 a1, .int .i64 ah, .int .u64 am, .int .i64 av, .int .i64 b0, .int .i64 a9, .slice aa a3 a7, .int .u64 au, .int .i64 bb, .slice be bc bd, .int .u64 b7]] w fun e w' => ∃ v, e = .returned v ∧ R v w' := Q0y.ok b4 a8 ao b1 b5 b6 an ap aq al b8 a2 ae ak b3 az a5 ag a6 ai b2 ba bf bg bh b9 ar a0 ad aj ax ay ac ab af a4 aw a1 ah am av b0 a9 aa a3 a7 au bb be bc bd b7 (Q0y.up b4 a8 ao b1 b5 b6 an ap aq al b8 a2 ae ak b3 az a5 ag a6 ai b2 ba bf bg bh b9 ar a0 ad aj ax ay ac ab af a4 aw a1 ah am av b0 a9 aa a3 a7 au bb be bc bd b7 h)
theorem Q0y.run (b4 a8 ao b2 b5 bb an : Int) (ap : Option Addr) (aq al : Nat) (b7 a2 ae ak b3 b0 a5 : Int) (ag : Option Addr) (a6 ai : Nat) (au b9 : Int) (bf : Option Addr) (bg bh : Nat) (b8 ar a0 ad aj ay az ac : Int) (ab : Option Addr) (af a4 : Nat) (ax a1 ah am aw b1 a9 : Int) (aa : Option Addr) (a3 a7 : Nat) (av ba : Int) (be : Option Addr) (bc bd : Nat) (b6 : Int) {V : Value} {Q : World → Prop} {w : World} (h : Q0y.N b4 a8 ao b2 b5 bb an ap aq al b7 a2 ae ak b3 b0 a5 ag a6 ai au b9 bf bg bh b8 ar a0 ad aj ay az ac ab af a4 ax a1 ah am aw b1 a9 aa a3 a7 av ba be bc bd b6 (fun v w' => v = V ∧ Q w') w) : Calls Try.prog 12 #[.agg #[.int .i64 b4, .int .i64 a8, .int .i64 ao, .int .u64 b2, .int .i64 b5, .int .i64 bb, .int .i64 an, .slice ap aq al, .int .u64 b7, .int .i64 a2, .int .i64 ae, .int .u64 ak, .int .i64 b3, .int .i64 b0, .int .i64 a5, .slice ag a6 ai, .int .u64 au, .int .i64 b9, .slice bf bg bh, .int .u64 b8], .agg #[.int .i64 ar, .int .i64 a0, .int .i64 ad, .int .u64 aj, .int .i64 ay, .int .i64 az, .int .i64 ac, .slice ab af a4, .int .u64 ax, .int .i64 a1, .int .i64 ah, .int .u64 am, .int .i64 aw, .int .i64 b1, .int .i64 a9, .slice aa a3 a7, .int .u64 av, .int .i64 ba, .slice be bc bd, .int .u64 b6]] w (Ret V Q) := (Q0y.go b4 a8 ao b2 b5 bb an ap aq al b7 a2 ae ak b3 b0 a5 ag a6 ai au b9 bf bg bh b8 ar a0 ad aj ay az ac ab af a4 ax a1 ah am aw b1 a9 aa a3 a7 av ba be bc bd b6 h).mono fun e w' ⟨v, he, hv, hq⟩ => ⟨by rw [he, hv], hq⟩

abbrev Q0C.J1 (ao : Option Addr) (ah : Nat) (R : RW) (af : World) : Prop :=
 Calls Try.prog 26 #[.slice none 0 0, .int .u64 (IntKind.u64.wrap (ah : Int))] af fun ae ai => ∃ (a4 : Option Addr) (a3 a5 : Nat), ae = .returned (.slice a4 a3 a5) ∧
 ∃ (I0 : Nat → List Value → World → Prop) (am : Nat), I0 am [.slice a4 a3 a5, .int .i64 0] ai ∧ ∀ (al : Nat) (a6 : World) (a9 : Option Addr) (a7 a8 : Nat) (aa : Int), I0 al [.slice a9 a7 a8, .int .i64 aa] a6 →
 bif decide (aa < (ah : Int)) then (
 ao.elim False fun an =>
 0 ≤ (aa : Int) ∧ (aa : Int) < (ah : Int) ∧
 ∃ (ab : Option Addr) (ad ac : Nat), a6.cell? (an.add (Int.toNat aa * 1)) = some (.slice ab ad ac) ∧
 Calls Try.prog 29 #[.slice a9 a7 a8, .slice ab ad ac] a6 fun aj ag => ∃ (a1 : Option Addr) (a0 a2 : Nat), aj = .returned (.slice a1 a0 a2) ∧
 ∃ ak, ak < al ∧ I0 ak [.slice a1 a0 a2, .int .i64 (IntKind.i64.wrap (aa + 1))] ag) else (
 R (.tuple #[.slice a9 a7 a8, .int .i64 0]) a6)

def Q0C.M (a3 : Option Addr) (a1 a4 : Nat) (R : RW) (w : World) : Prop :=
 bif decide ((a1 : Int) > 1000) then (
 R (.tuple #[.slice none 0 0, .int .i64 3]) w) else (
 Calls Try.prog 52 #[.slice a3 a1 a4, .func (.func 53) #[] #[]] w fun a5 a2 => ∃ (a0 : Bool), a5 = .returned (.bool a0) ∧
 bif a0 then (
 R (.tuple #[.slice none 0 0, .int .i64 3]) a2) else (
 Q0C.J1 a3 a1 R a2))

theorem Q0C.ok (a2 : Option Addr) (a0 a1 : Nat) {R : RW} {w : World} (h : Q0C.M a2 a0 a1 R w) : Calls Try.prog 21 #[.slice a2 a0 a1] w fun e w' => ∃ v, e = .returned v ∧ R v w' :=
  Q0b follows (H := [(0, [18, 19], [(4, (.one .slice)), (20, (.one (.int .i64)))])]) (args := [.slice a2 a0 a1]) (cast (by kernel_rfl) h)

def Q0C.N (am : Option Addr) (ab an : Nat) (R : RW) (w : World) : Prop :=
 ((ab : Int) > 1000 →
 R (.tuple #[.slice none 0 0, .int .i64 3]) w) ∧
 ((ab : Int) ≤ 1000 →
 Calls Try.prog 52 #[.slice am ab an, .func (.func 53) #[] #[]] w fun ap ai => ∃ (a0 : Bool), ap = .returned (.bool a0) ∧
 (a0 = true →
 R (.tuple #[.slice none 0 0, .int .i64 3]) ai) ∧
 (a0 = false →
 Calls Try.prog 26 #[.slice none 0 0, .int .u64 (IntKind.u64.wrap (ab : Int))] ai fun ao ar => ∃ (a8 : Option Addr) (a7 a6 : Nat), ao = .returned (.slice a8 a7 a6) ∧
 ∃ (I0 : Nat → List Value → World → Prop) (aq : Nat), I0 aq [.slice a8 a7 a6, .int .i64 0] ar ∧ ∀ (al : Nat) (a4 : World) (aa : Option Addr) (a9 ac : Nat) (a5 : Int), I0 al [.slice aa a9 ac, .int .i64 a5] a4 →
 (a5 < (ab : Int) →
 ∃ aj : Addr, am = some aj ∧
 0 ≤ (a5 : Int) ∧ (a5 : Int) < (ab : Int) ∧
 ∃ (ae : Option Addr) (af ad : Nat), a4.cell? (aj.add (Int.toNat a5 * 1)) = some (.slice ae af ad) ∧
 Calls Try.prog 29 #[.slice aa a9 ac, .slice ae af ad] a4 fun ah ag => ∃ (a2 : Option Addr) (a1 a3 : Nat), ah = .returned (.slice a2 a1 a3) ∧
 (-9223372036854775808 : Int) ≤ (a5 + 1) ∧ (a5 + 1) < 9223372036854775808 ∧
 ∃ ak, ak < al ∧ I0 ak [.slice a2 a1 a3, .int .i64 (a5 + 1)] ag) ∧
 ((ab : Int) ≤ a5 →
 R (.tuple #[.slice aa a9 ac, .int .i64 0]) a4)))

theorem Q0C.up (aj : Option Addr) (ai ah : Nat) {R : RW} {w : World} (h : Q0C.N aj ai ah R w) : Q0C.M aj ai ah R w := by
  unfold Q0C.M
  unfold Q0C.N at h
  refine bif_of (fun c2 => ?_) (fun c2 => ?_)
  ·have h := h.1 (of_decide_eq_true c2)
   exact h
  have h := h.2 (Int.not_lt.1 (of_decide_eq_false c2))
  refine h.mono fun az aw h => ?_
  obtain ⟨a0, he, h⟩ := h
  refine ⟨a0, he, ?_⟩
  refine bif_of (fun c6 => ?_) (fun c6 => ?_)
  ·have h := h.1 c6
   exact h
  have h := h.2 c6
  first | unfold Q0C.J1 | skip
  refine h.mono fun ax b0 h => ?_
  obtain ⟨a6, a5, a4, he, h⟩ := h
  refine ⟨a6, a5, a4, he, ?_⟩
  obtain ⟨I0, au, h0, h⟩ := h
  refine ⟨I0, au, h0, fun av a8 ab a7 ad ar hI => ?_⟩
  have h := h av a8 ab a7 ad ar hI
  refine bif_fo (fun ae => ?_) (fun ae => ?_)
  ·have h := h.2 (Int.not_lt.1 (of_decide_eq_false ae))
   exact h
  have h := h.1 (of_decide_eq_true ae)
  obtain ⟨ay, aa, h⟩ := h
  refine Q0s aa ?_
  obtain ⟨ao, ak, h⟩ := h
  refine ⟨ao, ak, ?_⟩
  obtain ⟨ac, af, a9, ag, h⟩ := h
  refine ⟨ac, af, a9, ag, ?_⟩
  refine h.mono fun ap al h => ?_
  obtain ⟨a2, a1, a3, he, h⟩ := h
  refine ⟨a2, a1, a3, he, ?_⟩
  obtain ⟨am, aq, h⟩ := h
  try rw [w64 am aq]
  obtain ⟨an, hk, h⟩ := h
  exact ⟨an, hk, h⟩

theorem Q0C.go (a2 : Option Addr) (a0 a1 : Nat) {R : RW} {w : World} (h : Q0C.N a2 a0 a1 R w) : Calls Try.prog 21 #[.slice a2 a0 a1] w fun e w' => ∃ v, e = .returned v ∧ R v w' := Q0C.ok a2 a0 a1 (Q0C.up a2 a0 a1 h)
end Go.Proofs.Ytoempemllkebkaa
namespace Go.Mx
def SeqQ : List (Nat × (World → List Value → Prop)) → World → List Value → Prop
  | [], _, cs => cs = []
  | q :: r, W, cs => ∃ x y, cs = x ++ y ∧ x.length = q.1 ∧ q.2 W x ∧ SeqQ r W y
def Q1z (P : Program) : List Field → Nat → List (Nat × (World → List Value → Prop)) → Nat → Prop
  | [], off, [], size => off = size
  | f :: r, off, q :: s, size => (f.offset = off ∧ P.cellsOf f.type = q.1 ∧ Opens P f.type q.2) ∧ Q1z P r (off + q.1) s size
  | _, _, _, _ => False
theorem seq_of {P : Program} {W : World} {cs : List Value} : ∀ {l : List Field} {off : Nat} {qs : List (Nat × (World → List Value → Prop))} {size : Nat}, Q1z P l off qs size → cs.length = size →
    (∀ (i : Nat) (f : Field), l[i]? = some f → ∀ Q, Opens P f.type Q → Q W ((cs.drop f.offset).take (P.cellsOf f.type))) → off ≤ cs.length → (∀ q ∈ qs, True) → SeqQ qs W (cs.drop off)
  | [], off, [], size, h, hl, _, _, _ => by
    simp only [Q1z] at h
    simp only [SeqQ]
    exact List.drop_eq_nil_of_le (by omega)
  | f :: r, off, q :: s, size, h, hl, hf, hle, _ => by
    obtain ⟨⟨h1, h2, h3⟩, h4⟩ := h
    have h0 := hf 0 f rfl q.2 h3
    rw [h1, h2] at h0
    have hsz : ∀ {l : List Field} {off : Nat} {qs : List (Nat × (World → List Value → Prop))}, Q1z P l off qs size → off ≤ size := by
      intro l
      induction l with
      | nil => intro off qs h; cases qs with | nil => exact Nat.le_of_eq h | cons _ _ => exact h.elim
      | cons f r ih => intro off qs h; cases qs with | nil => exact h.elim | cons q s => have := ih h.2; omega
    have hle2 := hsz h4
    refine ⟨(cs.drop off).take q.1, cs.drop (off + q.1), ?_, ?_, h0, ?_⟩
    · rw [← List.drop_drop, List.take_append_drop]
    · rw [List.length_take, List.length_drop]; omega
    · exact seq_of h4 hl (fun i f hi => hf (i + 1) f (by simpa using hi)) (by omega) (fun _ _ => trivial)
  | [], _, _ :: _, _, h, _, _, _, _ => h.elim
  | _ :: _, _, [], _, h, _, _, _, _ => h.elim
theorem Q3U {P : Program} {t : TypeId} {fs : Array Field} {size : Nat} {qs : List (Nat × (World → List Value → Prop))} (ht : P.underlying t = some (.struct fs)) (hs : P.cellsOf t = size) (h : Q1z P fs.toList 0 qs size) : Opens P t (SeqQ qs) :=
  (Q13 ht hs).mono fun W cs ⟨hl, hf⟩ => seq_of (off := 0) h hl (fun i f hi => hf i f (by rw [← Array.getElem?_toList]; exact hi)) (Nat.zero_le _) fun _ _ => trivial
section
variable {α : Type} {f : α → List Value} {n : Nat} {w : World} {a : Option Addr} {l : List α}
end
end Go.Mx
namespace Go.Mx
section
variable {K K1 : Nat → Prop} {w w1 w' w0 : World} {o o1 o' o0 : Own} {p q j k N : Nat} {e : TypeId} {size n c : Nat} {a : Option Addr} {cs : List Value}
end
end Go.Mx
namespace Go.Mx
open Go
section
variable {P : Program} {w w' : World} {q k : Nat} {t e : TypeId} {cs vs : List Value}
theorem Grows.ne {w : World} {o : Own} {sz n c g b : Nat} {a : Option Addr} {cs' : List Value} (h : Grows e sz w o g a n c cs) (hb : Blk w b t cs') (hte : t ≠ e) : ∀ ad, a = some ad → ad.block ≠ b := by
  intro ad ha hq
  rcases h.own.2 with ⟨hv, h0⟩ | ⟨q, cap, cur, hv, hle, hgb, _⟩
  · cases hv; cases ha
  · cases hv; cases ha
    simp only at hq
    subst hq
    unfold Blk at hb
    rw [hb] at hgb
    cases hgb
    exact hte rfl
end
end Go.Mx
set_option maxRecDepth 20000
namespace Go.Proofs.Ytoempemllkebkaa
open Go Go.Mx Go.Proofs
open W (OwnB Rd numR countR doneR)
theorem inf1 : (Try.prog.info? 1).map (fun i => (i.zero, i.size, i.bytes)) = some (some (.nilFunc), 1, 8) := by kernel_rfl
def FP.zero : FP := ⟨Fr.zero, none, 0, none, 0, none, 0⟩
structure FP.own (w : World) (o : Own) (x : FP) : Prop where
  e : Row w o x.ea (bytesV x.r.e.body)
  f : Row w o x.fa (bytesV x.r.f.body)
  v : Row w o x.va (hsC x.r.v)
def rgC (p : Nat) (x : FP) (la : Option Addr) (n c : Nat) : List Value := .pointer (some (blk p)) :: (x.C ++ [.slice la n c])
structure RG (w : World) (o : Own) (p q : Nat) (bs : List UInt8) (k : Int) (x : FP) (L : List Value) : Prop where
  rd : Rd w p bs k
  mem : ∃ la lc, Blk w q 72 (rgC p x la L.length lc) ∧ Go.Mx.Grows 1 1 w o q la L.length lc L ∧ (∀ ad, la = some ad → p < ad.block)
  tp : o p = some p
  tq : o q = some q
  pq : p < q
  ok : x.own w o
  fl : bs.length < 1000000
section
variable {w w' w1 : World} {o o' o1 : Own} {p q b t : Nat} {bs : List UInt8} {k : Int} {x : FP} {L : List Value} {K : Nat → Prop}
theorem FP.own.at (h : x.own w o) : x.at w := ⟨h.e.1, h.f.1, h.v.1⟩
theorem FP.own.step (h : x.own w o) (s : Step K w o w' o') : x.own w' o' := ⟨h.e.step s, h.f.step s, h.v.step s⟩
theorem FP.own.zero (w : World) (o : Own) : FP.zero.own w o := ⟨Row.nil _ _ _, Row.nil _ _ _, Row.nil _ _ _⟩
theorem RG.lt (h : RG w o p q bs k x L) : q < w.heap.size := by obtain ⟨_, _, b, _⟩ := h.mem; exact b.lt
theorem RG.no (h : RG w o p q bs k x L) (s : Step no w o w' o') (X : Ext no w w') : RG w' o' p q bs k x L := by
  obtain ⟨la, lc, b, g, hl⟩ := h.mem
  exact ⟨h.rd.no X, ⟨la, lc, s.blk b h.tq id, g.step s id, hl⟩, by rw [s.own h.rd.lt]; exact h.tp, by rw [s.own b.lt]; exact h.tq, h.pq, h.ok.step s, h.fl⟩
theorem RG.read (h : RG w o p q bs k x L) (ok : Tags w o) (X : Ext (fun b => b = p) w w') {bs' : List UInt8} {k' : Int} (hr : Rd w' p bs' k') (hl : bs'.length ≤ bs.length) :
    Step (fun j => j = p) w o w' (grow w o) ∧ RG w' (grow w o) p q bs' k' x L := by
  obtain ⟨la, lc, b, g, hla⟩ := h.mem
  have s : Step (fun j => j = p) w o w' (grow w o) := Step.of_ext X ok fun b hb _ => by subst hb; exact h.tp
  have hqp : q ≠ p := by have := h.pq; omega
  exact ⟨s, hr, ⟨la, lc, s.blk b h.tq hqp, g.step s hqp, hla⟩, by rw [s.own h.rd.lt]; exact h.tp, by rw [s.own b.lt]; exact h.tq, h.pq, h.ok.step s, by have := h.fl; omega⟩
theorem RG.put (h : RG w o p q bs k x L) (ok : Tags w o) (X : Ext (fun b => b = q) w w') {x' : FP} {la : Option Addr} {lc : Nat} (b : Blk w q 72 (rgC p x la L.length lc)) (b' : Blk w' q 72 (rgC p x' la L.length lc)) (hx : x'.own w' (grow w o)) :
    Step (fun j => j = q) w o w' (grow w o) ∧ RG w' (grow w o) p q bs k x' L := by
  obtain ⟨la0, lc0, b0, g, hla⟩ := h.mem
  have hc := (b0.celli (a := (blk q).add 21) 21 rfl (show (rgC p x la0 L.length lc0)[21]? = some (.slice la0 L.length lc0) from rfl)).symm.trans (b.celli (a := (blk q).add 21) 21 rfl (show (rgC p x la L.length lc)[21]? = some (.slice la L.length lc) from rfl))
  cases hc
  have s : Step (fun j => j = q) w o w' (grow w o) := Step.of_ext X ok fun b hb _ => by subst hb; exact h.tq
  have hgq : ∀ ad, la = some ad → ad.block ≠ q := g.ne b (by decide)
  exact ⟨s, h.rd.up X fun b hb => by subst hb; exact h.pq, ⟨la, lc, b', g.keep X hgq fun b hb => grow_lt hb, hla⟩, by rw [s.own h.rd.lt]; exact h.tp, by rw [s.own b.lt]; exact h.tq, h.pq, hx, h.fl⟩
theorem RG.far (h : RG w o p q bs k x L) {m : Nat → Prop} (s : Step K w o w' o') (X : Ext m w w') (hm : ∀ b, m b → q < b) (hk : ¬ K q) : RG w' o' p q bs k x L := by
  obtain ⟨la, lc, b, g, hl⟩ := h.mem
  exact ⟨h.rd.up X fun b hb => by have := hm b hb; have := h.pq; omega, ⟨la, lc, s.blk b h.tq hk, g.step s hk, hl⟩, by rw [s.own h.rd.lt]; exact h.tp, by rw [s.own b.lt]; exact h.tq, h.pq, h.ok.step s, h.fl⟩
theorem RG.later (h : RG w o p q bs k x L) (ok : Tags w o) (hL : L.length < 100) {v : Value} {qb : Nat} (hv : v.oneCell' = true) (hb : Blk w qb 1 [v]) {la : Option Addr} {n lc : Nat} (hc : w.cell? ((blk q).add 21) = some (.slice la n lc)) :
    ∃ a' c' w1, (Builtin.append_ #[70, 70] 70 #[.slice la n lc, .slice (some (blk qb)) 1 1]).run Try.prog w = .ok (.slice a' (L.length + 1) c') w1 ∧ Ext (fun b => ∃ ad, la = some ad ∧ b = ad.block) w w1 ∧ Q01 w1 (((blk q).add 21).add 0) ∧
      (∀ w', w' = w1.setCell (((blk q).add 21).add 0) (.slice a' (L.length + 1) c') → ∃ o', Step (fun j => j = q) w o w' o' ∧ RG w' o' p q bs k x (L ++ [v])) := by
  obtain ⟨la0, lc0, b, g, hla⟩ := h.mem
  have hc' := hc.symm.trans (b.celli (a := (blk q).add 21) 21 rfl (show (rgC p x la0 L.length lc0)[21]? = some (.slice la0 L.length lc0) from rfl))
  cases hc'
  obtain ⟨i, hi, hz, hs, hby⟩ := info_of inf1
  obtain ⟨a', c', w1, o1, r1, s1, g1, e1, e2⟩ := g.push (P := Try.prog) (ty := 70) Try.underlying70 hi hz hs hby (by rfl) (by decide) ok b.lt (xa := some (blk qb)) (m := 1) (xc := 1) (news := [v]) (by rfl) (RowAt.of_blk hb) (fun u hu => by rw [List.mem_singleton.1 hu]; exact hv) (by omega) (by omega)
  have hgq : ∀ ad, la = some ad → ad.block ≠ q := g.ne b (by decide)
  have hbk : w1.heap[q]? = w.heap[q]? := e1 q b.lt fun ad ha e => hgq ad ha e.symm
  have b1 : Blk w1 q 72 (rgC p x la L.length lc) := by unfold Blk at b ⊢; rw [hbk]; exact b
  have X1 : Ext (fun b => ∃ ad, la = some ad ∧ b = ad.block) w w1 := ⟨s1.ext.os, s1.ext.tape, s1.ext.output, s1.ext.size, fun b hb hn => e1 b hb fun ad ha hb' => hn ⟨ad, ha, hb'⟩⟩
  refine ⟨a', c', w1, r1, X1, b1.cani 21 rfl rfl, fun w' e => ?_⟩
  have X2 : Ext (fun b => b = q) w1 w' := (Ext.refl (fun b => b = q) w1).x_set (q := q) (i := 21) rfl (.inl rfl) e
  have tq1 : o1 q = some q := by rw [s1.own b.lt]; exact h.tq
  have s2 : Step (fun j => j = q) w1 o1 w' (grow w1 o1) := Step.of_ext X2 s1.ok fun b hb _ => by subst hb; exact tq1
  have b2 := b1.seti 21 rfl e
  have hgq1 : ∀ ad, a' = some ad → ad.block ≠ q := fun ad ha => by
    rcases e2 ad ha with ⟨b0, hb0, e⟩ | e
    · rw [e]; exact hgq b0 hb0
    · rw [e]; have := b.lt; omega
  refine ⟨_, s1.trans s2, ?_, ⟨a', c', ?_, ?_, fun ad ha => ?_⟩, ?_, ?_, h.pq, (h.ok.step s1).step s2, h.fl⟩
  · exact (h.rd.up X1 fun b ⟨ad, ha, hb⟩ => by rw [hb]; exact hla ad ha).up X2 fun b hb => by subst hb; exact h.pq
  · rw [List.length_append]; exact b2
  · rw [List.length_append]; exact g1.keep X2 hgq1 fun b hb => grow_lt hb
  · rcases e2 ad ha with ⟨b0, hb0, e⟩ | e
    · rw [e]; exact hla b0 hb0
    · rw [e]; exact h.rd.lt
  · rw [s2.own (Nat.lt_of_lt_of_le h.rd.lt X1.size), s1.own h.rd.lt]; exact h.tp
  · rw [s2.own (Nat.lt_of_lt_of_le b.lt X1.size)]; exact tq1
theorem RG.ptr (h : RG w o p q bs k x L) : w.cell? ((blk q).add 0) = some (.pointer (some (blk p))) := by
  obtain ⟨la, lc, b, _⟩ := h.mem
  exact b.celli 0 rfl rfl
theorem RG.laterC (h : RG w o p q bs k x L) : ∃ la lc, w.cell? ((blk q).add 21) = some (.slice la L.length lc) ∧ RowAt w la L := by
  obtain ⟨la, lc, b, g, _⟩ := h.mem
  exact ⟨la, lc, b.celli 21 rfl rfl, g.row⟩
/-! ### the parts that are looked at in the end -/
def toV (q : Nat) : Nat → Value
  | 0 => .pointer (some (((blk q).add 1).add 1))
  | 1 => .pointer (some (((blk q).add 1).add 9))
  | _ => .pointer (some (blk q))
def toF : Nat → Nat
  | 0 => 97
  | 1 => 97
  | _ => 92
def toT : Nat → Nat
  | 0 => 118
  | 1 => 118
  | _ => 67
def Tk (w : World) (o : Own) (q : Nat) (v : Value) (c : Nat × List UInt8) : Prop :=
  ∃ (b t : Nat) (xa : Option Addr) (xc : Nat), v = .func (.func (toF c.1)) #[] #[.pointer (some (blk b)), .pointer (some (blk t))] ∧ Blk w b 25 [.slice xa c.2.length xc] ∧ o b = some b ∧ Row w o xa (bytesV c.2) ∧ c.2.length ≤ xc ∧ c.2.length < 1000000 ∧ Blk w t (toT c.1) [toV q c.1] ∧ o t = none
theorem free_of {tt : TypeId} {cs : List Value} (hb : Blk w b tt cs) (ho : o b = none) (s : Step K w o w' o') : Blk w' b tt cs ∧ o' b = none := by
  have e : w'.heap[b]? = w.heap[b]? := s.at hb.lt fun k hk => by rw [ho] at hk; cases hk
  exact ⟨by unfold Blk at hb ⊢; rw [e]; exact hb, by rw [s.own hb.lt]; exact ho⟩
theorem Tk.step {v : Value} {c : Nat × List UInt8} (h : Tk w o q v c) (s : Step K w o w' o') (hk : ∀ b cs, Blk w b 25 cs → ¬ K b) : Tk w' o' q v c := by
  obtain ⟨b, t, xa, xc, e, hb, tb, hr, hc, hl, ht, tt⟩ := h
  obtain ⟨ht', tt'⟩ := free_of ht tt s
  exact ⟨b, t, xa, xc, e, s.blk hb tb (hk _ _ hb), by rw [s.own hb.lt]; exact tb, hr.step s, hc, hl, ht', tt'⟩
def Fr.put (f : Fr) (c : Nat × List UInt8) : Fr × Int :=
  match c.1 with
  | 0 => ({ f with e := (readE c.2).1 }, (readE c.2).2)
  | 1 => ({ f with f := (readE c.2).1 }, (readE c.2).2)
  | _ => ({ f with v := (readV c.2).1 }, (readV c.2).2)
end
abbrev kindP (k : Int) : PanicEntry := { v := .iface 33 (.int .i64 k), recovered := false }
theorem Q1D (k : Int) (w : World) : Calls Try.prog 61 #[.int .i64 k] w fun e w' => (k = 0 ∧ e = .returned (.tuple #[]) ∧ w' = w) ∨ (k ≠ 0 ∧ e = .panicked [kindP k] ∧ w' = w) := by
  refine (frmMust.ok k (Φ := fun ch w' => k ≠ 0 ∧ ch = [kindP k] ∧ w' = w) (R := fun v w' => k = 0 ∧ v = .tuple #[] ∧ w' = w) ?_).mono fun e w' h => ?_
  · unfold frmMust.M
    by_cases hk : k = 0
    · subst hk; exact ⟨rfl, rfl, rfl⟩
    · rw [show (k != 0) = true by simpa using hk, cond_true]
      exact ⟨hk, rfl, rfl⟩
  · rcases h with ⟨v, he, hk, hv, hw⟩ | ⟨ch, he, hk, hc, hw⟩
    · exact .inl ⟨hk, by rw [he, hv], hw⟩
    · exact .inr ⟨hk, by rw [he, hc], hw⟩
end Go.Proofs.Ytoempemllkebkaa
namespace Go.Proofs.Ytoempemllkebkaa
open Go Go.Mx Go.Proofs
open W (OwnB Rd numR countR doneR)
section
variable {w w' w1 : World} {o o' o1 : Own} {p q b t : Nat} {bs : List UInt8} {k : Int} {x : FP} {L : List Value} {K : Nat → Prop}
def LkR (w : World) (o : Own) (p q : Nat) (bs : List UInt8) (k : Int) (x : FP) (L : List Value) (r : Fr × Int) (e : Ending) (w' : World) : Prop :=
  ∃ o' x', Step (fun j => j = q) w o w' o' ∧ RG w' o' p q bs k x' L ∧ (∃ la lc, w.cell? ((blk q).add 21) = some (.slice la L.length lc) ∧ w'.cell? ((blk q).add 21) = some (.slice la L.length lc)) ∧ ((r.2 = 0 ∧ e = .returned (.tuple #[]) ∧ x'.r = r.1) ∨ (r.2 ≠ 0 ∧ e = .panicked [kindP r.2]))
theorem lkR_of {r : Fr × Int} {e : Ending} (h : (∃ v, e = .returned v ∧ (v = .tuple #[] ∧ LkR w o p q bs k x L r (.returned (.tuple #[])) w')) ∨ ∃ ch, e = .panicked ch ∧ (ch = [kindP r.2] ∧ LkR w o p q bs k x L r (.panicked [kindP r.2]) w')) : LkR w o p q bs k x L r e w' := by
  rcases h with ⟨v, he, hv, h⟩ | ⟨ch, he, hc, h⟩
  · rw [he, hv]; exact h
  · rw [he, hc]; exact h
theorem look0 (A : RG w o p q bs k x L) (ok : Tags w o) {c : List UInt8} {b t : Nat} {xa : Option Addr} {xc : Nat} (hb : Blk w b 25 [.slice xa c.length xc]) (hr : Row w o xa (bytesV c)) (hc : c.length ≤ xc) (hl : c.length < 1000000) (ht : Blk w t (toT 0) [toV q 0]) (tt : o t = none) :
    Calls Try.prog 97 #[.pointer (some (blk b)), .pointer (some (blk t))] w (LkR w o p q bs k x L (x.r.put (0, c))) := by
  refine (frmEnt.ok (blk b) (blk t) (Φ := fun ch w' => ch = [kindP (x.r.put (0, c)).2] ∧ LkR w o p q bs k x L (x.r.put (0, c)) (.panicked [kindP (x.r.put (0, c)).2]) w') (R := fun v w' => v = .tuple #[] ∧ LkR w o p q bs k x L (x.r.put (0, c)) (.returned (.tuple #[])) w') ?_).mono fun e w' h => lkR_of h
  unfold frmEnt.M
  refine ⟨_, _, _, hb.celli 0 rfl rfl, ?_⟩
  refine (Read_spec hr.1 hc hl).mono fun e w14 ⟨ea, ec, he, hrow, hfr, X14⟩ => .inl ⟨_, _, _, _, _, _, _, _, _, _, _, he, Q00 fun w16 e16 => ?_⟩
  have s14 := Step.of_no X14 ok
  have A14 := A.no s14 X14
  have b16 : Blk w16 w14.heap.size 27 [.int .i64 0, .int .i64 0, .int .u64 0, .int .i64 0, .int .i64 0, .int .i64 0, .slice none 0 0, .int .u64 0] := by subst e16; exact Blk.new _ _ _
  have X16 : Ext no w14 w16 := by subst e16; exact (Ext.refl _ _).alloc _
  obtain ⟨z, hz⟩ : ∃ z, w14.heap.size = z := ⟨_, rfl⟩
  rw [hz] at b16 ⊢
  have s16 := (Step.of_no X16 s14.ok).tag (p := z) (j := z) (by omega) b16.lt
  have A16 := A14.no s16 X16
  have hqz : q < z := by have := A14.lt; omega
  refine Q0M (k := 0) b16 (by show 0 + 0 + 8 ≤ 8; decide) fun w17 X17 b17 => ?_
  have s17 : Step (fun j => j = z) w16 _ w17 _ := Step.of_ext X17 s16.ok fun b hb _ => by subst hb; exact Q0R
  have A17 := A16.far s17 X17 (fun b hb => by omega) (fun e => by omega)
  have b17' : Blk w17 z 27 (entC (readE c).1 ea ec) := b17
  obtain ⟨la, lc, bq0, _, _⟩ := id A.mem
  have bq14 := s14.blk bq0 A.tq id
  have bq16 := s16.blk bq14 A14.tq id
  have bq := s17.blk bq16 A16.tq (fun e => by omega)
  have hs : Step (fun j => j = q) w o w17 _ := ((s14.none.trans s16.none).trans' s17 fun j hj => .inr (by rw [hj, ← hz]; exact X14.size))
  refine (Q1D (readE c).2 w17).mono fun e w19 h => ?_
  rcases h with ⟨hk, he, hw⟩ | ⟨hk, he, hw⟩
  · subst hw
    obtain ⟨ht14, tt14⟩ := free_of ht tt s14
    obtain ⟨ht16, tt16⟩ := free_of ht14 tt14 s16
    obtain ⟨ht17, tt17⟩ := free_of ht16 tt16 s17
    refine .inl ⟨he, _, ht17.celli 0 rfl rfl, _, _, _, _, _, _, _, _, _, _, ⟨b17'.celli 0 rfl rfl, b17'.celli 1 rfl rfl, b17'.celli 2 rfl rfl, b17'.celli 3 rfl rfl, b17'.celli 4 rfl rfl, b17'.celli 5 rfl rfl, b17'.celli 6 rfl rfl, b17'.celli 7 rfl rfl, trivial⟩, ?_⟩
    show putsK w19 ((blk q).add 2) [.int .i64 _, .int .i64 _, .int .u64 _, .int .i64 _, .int .i64 _, .int .i64 _, .slice _ _ _, .int .u64 _] 0 _
    refine Q0M (k := 2) bq (by show 2 + 0 + 8 ≤ 22; decide) fun w38 X38 b38 => ⟨rfl, ?_⟩
    have hrow0 : Row w14 (grow w o) ea (bytesV (readE c).1.body) := Row.fresh hrow fun ad ha => hfr ad ha
    have s38 : Step (fun j => j = q) w19 _ w38 _ := Step.of_ext X38 s17.ok fun b hb _ => by subst hb; exact A17.tq
    have b38' : Blk w38 q 72 (rgC p { x with r := { x.r with e := (readE c).1 }, ea := ea, ec := ec } la L.length lc) := b38
    obtain ⟨s38', A38⟩ := A17.put s17.ok X38 (x' := { x with r := { x.r with e := (readE c).1 }, ea := ea, ec := ec }) bq b38' ⟨((hrow0.step s16).step s17).step s38, A17.ok.f.step s38, A17.ok.v.step s38⟩
    exact ⟨_, _, hs.trans s38', A38, ⟨la, lc, bq0.celli 21 rfl rfl, b38'.celli 21 rfl rfl⟩, .inl ⟨hk, rfl, rfl⟩⟩
  · subst hw
    exact .inr ⟨_, he, rfl, _, x, hs, A17, ⟨la, lc, bq0.celli 21 rfl rfl, bq.celli 21 rfl rfl⟩, .inr ⟨hk, rfl⟩⟩
theorem look1 (A : RG w o p q bs k x L) (ok : Tags w o) {c : List UInt8} {b t : Nat} {xa : Option Addr} {xc : Nat} (hb : Blk w b 25 [.slice xa c.length xc]) (hr : Row w o xa (bytesV c)) (hc : c.length ≤ xc) (hl : c.length < 1000000) (ht : Blk w t (toT 1) [toV q 1]) (tt : o t = none) :
    Calls Try.prog 97 #[.pointer (some (blk b)), .pointer (some (blk t))] w (LkR w o p q bs k x L (x.r.put (1, c))) := by
  refine (frmEnt.ok (blk b) (blk t) (Φ := fun ch w' => ch = [kindP (x.r.put (1, c)).2] ∧ LkR w o p q bs k x L (x.r.put (1, c)) (.panicked [kindP (x.r.put (1, c)).2]) w') (R := fun v w' => v = .tuple #[] ∧ LkR w o p q bs k x L (x.r.put (1, c)) (.returned (.tuple #[])) w') ?_).mono fun e w' h => lkR_of h
  unfold frmEnt.M
  refine ⟨_, _, _, hb.celli 0 rfl rfl, ?_⟩
  refine (Read_spec hr.1 hc hl).mono fun e w14 ⟨ea, ec, he, hrow, hfr, X14⟩ => .inl ⟨_, _, _, _, _, _, _, _, _, _, _, he, Q00 fun w16 e16 => ?_⟩
  have s14 := Step.of_no X14 ok
  have A14 := A.no s14 X14
  have b16 : Blk w16 w14.heap.size 27 [.int .i64 0, .int .i64 0, .int .u64 0, .int .i64 0, .int .i64 0, .int .i64 0, .slice none 0 0, .int .u64 0] := by subst e16; exact Blk.new _ _ _
  have X16 : Ext no w14 w16 := by subst e16; exact (Ext.refl _ _).alloc _
  obtain ⟨z, hz⟩ : ∃ z, w14.heap.size = z := ⟨_, rfl⟩
  rw [hz] at b16 ⊢
  have s16 := (Step.of_no X16 s14.ok).tag (p := z) (j := z) (by omega) b16.lt
  have A16 := A14.no s16 X16
  have hqz : q < z := by have := A14.lt; omega
  refine Q0M (k := 0) b16 (by show 0 + 0 + 8 ≤ 8; decide) fun w17 X17 b17 => ?_
  have s17 : Step (fun j => j = z) w16 _ w17 _ := Step.of_ext X17 s16.ok fun b hb _ => by subst hb; exact Q0R
  have A17 := A16.far s17 X17 (fun b hb => by omega) (fun e => by omega)
  have b17' : Blk w17 z 27 (entC (readE c).1 ea ec) := b17
  obtain ⟨la, lc, bq0, _, _⟩ := id A.mem
  have bq14 := s14.blk bq0 A.tq id
  have bq16 := s16.blk bq14 A14.tq id
  have bq := s17.blk bq16 A16.tq (fun e => by omega)
  have hs : Step (fun j => j = q) w o w17 _ := ((s14.none.trans s16.none).trans' s17 fun j hj => .inr (by rw [hj, ← hz]; exact X14.size))
  refine (Q1D (readE c).2 w17).mono fun e w19 h => ?_
  rcases h with ⟨hk, he, hw⟩ | ⟨hk, he, hw⟩
  · subst hw
    obtain ⟨ht14, tt14⟩ := free_of ht tt s14
    obtain ⟨ht16, tt16⟩ := free_of ht14 tt14 s16
    obtain ⟨ht17, tt17⟩ := free_of ht16 tt16 s17
    refine .inl ⟨he, _, ht17.celli 0 rfl rfl, _, _, _, _, _, _, _, _, _, _, ⟨b17'.celli 0 rfl rfl, b17'.celli 1 rfl rfl, b17'.celli 2 rfl rfl, b17'.celli 3 rfl rfl, b17'.celli 4 rfl rfl, b17'.celli 5 rfl rfl, b17'.celli 6 rfl rfl, b17'.celli 7 rfl rfl, trivial⟩, ?_⟩
    show putsK w19 ((blk q).add 10) [.int .i64 _, .int .i64 _, .int .u64 _, .int .i64 _, .int .i64 _, .int .i64 _, .slice _ _ _, .int .u64 _] 0 _
    refine Q0M (k := 10) bq (by show 10 + 0 + 8 ≤ 22; decide) fun w38 X38 b38 => ⟨rfl, ?_⟩
    have hrow0 : Row w14 (grow w o) ea (bytesV (readE c).1.body) := Row.fresh hrow fun ad ha => hfr ad ha
    have s38 : Step (fun j => j = q) w19 _ w38 _ := Step.of_ext X38 s17.ok fun b hb _ => by subst hb; exact A17.tq
    have b38' : Blk w38 q 72 (rgC p { x with r := { x.r with f := (readE c).1 }, fa := ea, fc := ec } la L.length lc) := b38
    obtain ⟨s38', A38⟩ := A17.put s17.ok X38 (x' := { x with r := { x.r with f := (readE c).1 }, fa := ea, fc := ec }) bq b38' ⟨A17.ok.e.step s38, ((hrow0.step s16).step s17).step s38, A17.ok.v.step s38⟩
    exact ⟨_, _, hs.trans s38', A38, ⟨la, lc, bq0.celli 21 rfl rfl, b38'.celli 21 rfl rfl⟩, .inl ⟨hk, rfl, rfl⟩⟩
  · subst hw
    exact .inr ⟨_, he, rfl, _, x, hs, A17, ⟨la, lc, bq0.celli 21 rfl rfl, bq.celli 21 rfl rfl⟩, .inr ⟨hk, rfl⟩⟩
theorem look2 (A : RG w o p q bs k x L) (ok : Tags w o) {c : List UInt8} {b t : Nat} {xa : Option Addr} {xc : Nat} (hb : Blk w b 25 [.slice xa c.length xc]) (hr : Row w o xa (bytesV c)) (hc : c.length ≤ xc) (hl : c.length < 1000000) (ht : Blk w t (toT 2) [toV q 2]) (tt : o t = none) :
    Calls Try.prog 92 #[.pointer (some (blk b)), .pointer (some (blk t))] w (LkR w o p q bs k x L (x.r.put (2, c))) := by
  refine (frmVec.ok (blk b) (blk t) (Φ := fun ch w' => ch = [kindP (x.r.put (2, c)).2] ∧ LkR w o p q bs k x L (x.r.put (2, c)) (.panicked [kindP (x.r.put (2, c)).2]) w') (R := fun v w' => v = .tuple #[] ∧ LkR w o p q bs k x L (x.r.put (2, c)) (.returned (.tuple #[])) w') ?_).mono fun e w' h => lkR_of h
  unfold frmVec.M
  refine ⟨_, _, _, hb.celli 0 rfl rfl, ?_⟩
  refine (Q3F hr.1 hc hl).mono fun e w14 ⟨ra, rc, he, hO, X14⟩ => .inl ⟨_, _, _, _, he, ?_⟩
  have s14 := Step.of_no X14 ok
  have A14 := A.no s14 X14
  obtain ⟨la, lc, bq0, _, _⟩ := id A.mem
  have bq := s14.blk bq0 A.tq id
  refine (Q1D (readV c).2 w14).mono fun e w19 h => ?_
  rcases h with ⟨hk, he, hw⟩ | ⟨hk, he, hw⟩
  · subst hw
    obtain ⟨ht14, tt14⟩ := free_of ht tt s14
    refine .inl ⟨he, _, ht14.celli 0 rfl rfl, ?_⟩
    show Q01 w19 ((blk q).add 19) ∧ thenW (w19.setCell ((blk q).add 19) _) _
    refine ⟨bq.cani 19 rfl rfl, Q00 fun w38 e38 => ⟨rfl, ?_⟩⟩
    have X38 : Ext (fun b => b = q) w19 w38 := (Ext.refl (fun b => b = q) w19).x_set (q := q) (i := 19) rfl (.inl rfl) e38
    have b38 := bq.seti 19 rfl e38
    have hrow0 : Row w19 (grow w o) ra (hsC (readV c).1) := Row.fresh hO.row fun ad ha => (hO.fr ad ha).1
    have s38 : Step (fun j => j = q) w19 _ w38 _ := Step.of_ext X38 s14.ok fun b hb _ => by subst hb; exact A14.tq
    obtain ⟨s38', A38⟩ := A14.put s14.ok X38 (x' := { x with r := { x.r with v := (readV c).1 }, va := ra, vc := rc }) bq b38 ⟨A14.ok.e.step s38, A14.ok.f.step s38, hrow0.step s38⟩
    exact ⟨_, _, s14.none.trans s38', A38, ⟨la, lc, bq0.celli 21 rfl rfl, b38.celli 21 rfl rfl⟩, .inl ⟨hk, rfl, rfl⟩⟩
  · subst hw
    exact .inr ⟨_, he, rfl, _, x, s14.none, A14, ⟨la, lc, bq0.celli 21 rfl rfl, bq.celli 21 rfl rfl⟩, .inr ⟨hk, rfl⟩⟩
theorem Q3X (A : RG w o p q bs k x L) (ok : Tags w o) {c : Nat × List UInt8} {v : Value} (T : Tk w o q v c) :
    ∃ kk ff gg, v = .func (.func kk) ff gg ∧ enters Try.prog kk = true ∧ Calls Try.prog kk (ff.toList ++ ([] : List Value) ++ gg.toList).toArray w (LkR w o p q bs k x L (x.r.put c)) := by
  obtain ⟨b, t, xa, xc, e, hb, tb, hr, hc, hl, ht, tt⟩ := T
  obtain ⟨i, c⟩ := c
  match i with
  | 0 => exact ⟨_, _, _, e, by kernel_rfl, look0 A ok hb hr hc hl ht tt⟩
  | 1 => exact ⟨_, _, _, e, by kernel_rfl, look1 A ok hb hr hc hl ht tt⟩
  | n + 2 => exact ⟨_, _, _, e, by kernel_rfl, look2 A ok hb hr hc hl ht tt⟩
end
end Go.Proofs.Ytoempemllkebkaa
namespace Go.Proofs.Ytoempemllkebkaa
open Go Go.Mx Go.Proofs
open W (OwnB Rd numR countR doneR)
section
variable {w w' w1 : World} {o o' o1 : Own} {p q b t : Nat} {bs : List UInt8} {k : Int} {x : FP} {L : List Value} {K : Nat → Prop}
abbrev PQ (p q : Nat) : Nat → Prop := fun j => j = p ∨ j = q
def Tks (w : World) (o : Own) (q : Nat) (L : List Value) (l : List (Nat × List UInt8)) : Prop := L.length = l.length ∧ ∀ (i : Nat) (v : Value) (c : Nat × List UInt8), L[i]? = some v → l[i]? = some c → Tk w o q v c
theorem Tks.nil (w : World) (o : Own) (q : Nat) : Tks w o q [] [] := ⟨rfl, fun i v c h => by simp at h⟩
theorem Tks.step {l : List (Nat × List UInt8)} (h : Tks w o q L l) (s : Step K w o w' o') (hk : ∀ b cs, Blk w b 25 cs → ¬ K b) : Tks w' o' q L l := ⟨h.1, fun i v c h1 h2 => (h.2 i v c h1 h2).step s hk⟩
theorem Tks.push {l : List (Nat × List UInt8)} (h : Tks w o q L l) {v : Value} {c : Nat × List UInt8} (hv : Tk w o q v c) : Tks w o q (L ++ [v]) (l ++ [c]) := by
  refine ⟨by simp [h.1], fun i u d h1 h2 => ?_⟩
  by_cases hi : i < L.length
  · rw [List.getElem?_append_left hi] at h1
    rw [List.getElem?_append_left (by rw [← h.1]; exact hi)] at h2
    exact h.2 i u d h1 h2
  · rw [List.getElem?_append_right (by omega)] at h1
    rw [List.getElem?_append_right (by rw [← h.1]; omega), ← h.1] at h2
    cases hj : i - L.length with
    | zero => rw [hj] at h1 h2; simp at h1 h2; subst h1; subst h2; exact hv
    | succ n => rw [hj] at h1; simp at h1
theorem RG.notB (A : RG w o p q bs k x L) : ∀ b cs, Blk w b 25 cs → ¬ PQ p q b := fun b cs hb h => by
  rcases h with h | h
  · subst h
    obtain ⟨a, c, h1, _⟩ := A.rd
    have : some (Obj.cells cs.toArray 25) = some (Obj.cells _ 100) := hb.symm.trans h1
    cases this
  · subst h
    obtain ⟨la, lc, h1, _⟩ := A.mem
    have : some (Obj.cells cs.toArray 25) = some (Obj.cells _ 72) := hb.symm.trans h1
    cases this
def PtR (w : World) (o : Own) (p q : Nat) (s : RS) (f : Fr) (l : List (Nat × List UInt8)) (e : Ending) (w' : World) : Prop :=
  e = .returned (.tuple #[]) ∧ ∃ o' x' L', Step (PQ p q) w o w' o' ∧ RG w' o' p q s.1 s.2 x' L' ∧ Tks w' o' q L' l ∧ x'.r = f
theorem Q2o (A : RG w o p q bs k x L) (ok : Tags w o) (hL : L.length < 50) {i t : Nat} (ht : Blk w t (toT i) [toV q i]) (tt : o t = none) {Φ : World → Prop}
    (hΦ : ∀ w' o' v, Step (PQ p q) w o w' o' → RG w' o' p q (bytesR 4000 (bs, k)).2.1 (bytesR 4000 (bs, k)).2.2 x (L ++ [v]) → Tk w' o' q v (i, (bytesR 4000 (bs, k)).1) → Φ w') :
    Calls Try.prog 55 #[.pointer (some (blk p)), .int .i64 4000] w fun ee9 ww10 => ∃ (bytes8a : Option Addr) (bytes8n bytes8c : Nat), ee9 = .returned (.slice bytes8a bytes8n bytes8c) ∧
      ∀ (ww11 : World) (q12 : Nat), Ext no ww10 ww11 → Blk ww11 q12 25 [.slice none 0 0] → ww10.heap.size ≤ q12 → q12 < ww11.heap.size →
      Q01 ww11 ((blk q12).add 0) ∧
      thenW (ww11.setCell ((blk q12).add 0) (.slice bytes8a bytes8n bytes8c)) fun ww13 => Blk ww13 t (toT i) [toV q i] ∧
      ∃ (later15a : Option Addr) (later15n later15c : Nat), ww13.cell? ((blk q).add 21) = some (.slice later15a later15n later15c) ∧
      ∀ (ww16 : World) (q17 : Nat), Ext no ww13 ww16 → Blk ww16 q17 1 [.func (.func (toF i)) #[] #[.pointer (some (blk q12)), .pointer (some (blk t))]] → ww13.heap.size ≤ q17 → q17 < ww16.heap.size →
      Blk ww16 t (toT i) [toV q i] ∧ ww16.cell? ((blk q).add 21) = some (.slice later15a later15n later15c) ∧
      ∃ (a18a : Option Addr) (a18n a18c : Nat) (ww19 : World), (Builtin.append_ #[70, 70] 70 #[.slice later15a later15n later15c, .slice (some (blk q17)) 1 1]).run Try.prog ww16 = .ok (.slice a18a a18n a18c) ww19 ∧ Blk ww19 t (toT i) [toV q i] ∧
      Q01 ww19 (((blk q).add 21).add 0) ∧
      thenW (ww19.setCell (((blk q).add 21).add 0) (.slice a18a a18n a18c)) Φ := by
  refine (Q1Y A.rd A.fl (m := 4000) (by decide)).mono fun e w10 ⟨xa, xc, he, hO, hr, X10⟩ => ⟨_, _, _, he, fun w11 q12 X11 b11 hq12 hq12' => ?_⟩
  have hl := Q2t 4000 (bs, k)
  obtain ⟨s10, A10⟩ := A.read ok X10 hr hl.1
  have hrow : Row w10 (grow w o) xa (bytesV (bytesR 4000 (bs, k)).1) := Row.fresh hO.row fun ad ha => (hO.fr ad ha).1
  have s11 := (Step.of_no X11 s10.ok).tag (p := q12) (j := q12) hq12 hq12'
  have z10 := X10.size
  have z11 := X11.size
  have hqlt := A.lt
  have A11 := A10.far s11 X11 (fun b hb => hb.elim) id
  refine ⟨b11.cani 0 rfl rfl, Q00 fun w13 e13 => ?_⟩
  have X13 : Ext (fun b => b = q12) w11 w13 := (Ext.refl (fun b => b = q12) w11).x_set (q := q12) (i := 0) rfl (.inl rfl) e13
  have s13 : Step (fun j => j = q12) w11 _ w13 _ := Step.of_ext X13 s11.ok fun b hb _ => by subst hb; exact Q0R
  have A13 := A11.far s13 X13 (fun b hb => by omega) (fun e => by omega)
  have b13 : Blk w13 q12 25 [.slice xa (bytesR 4000 (bs, k)).1.length xc] := b11.seti 0 rfl e13
  have t13 := (s13.own b11.lt).trans (show _ = some q12 from Q0R)
  obtain ⟨la, lc, bq, gq, _⟩ := id A13.mem
  obtain ⟨ht10, tt10⟩ := free_of ht tt s10
  obtain ⟨ht11, tt11⟩ := free_of ht10 tt10 s11
  obtain ⟨ht13, tt13⟩ := free_of ht11 tt11 s13
  refine ⟨ht13, la, _, lc, bq.celli 21 rfl rfl, fun w16 q17 X16 b16 hq17 hq17' => ?_⟩
  have s16 := Step.of_no X16 s13.ok
  have A16 := A13.no s16 X16
  have bq16 := s16.blk bq A13.tq id
  have gq16 := gq.step s16 id
  have hc16 : w16.cell? ((blk q).add 21) = some (.slice la L.length lc) := bq16.celli 21 rfl rfl
  obtain ⟨ht16, tt16⟩ := free_of ht13 tt13 s16
  obtain ⟨a', c', w19, hr19, hX19, hcan, hfin⟩ := A16.later s16.ok (by omega) rfl b16 hc16
  have hti : toT i ≠ 1 := by
    match i with
    | 0 => decide
    | 1 => decide
    | n + 2 => exact (by decide : (67 : Nat) ≠ 1)
  have ht19 : Blk w19 t (toT i) [toV q i] := ht16.ext hX19 fun ⟨ad, ha, e⟩ => gq16.ne ht16 hti ad ha e.symm
  refine ⟨ht16, hc16, a', _, c', w19, hr19, ht19, hcan, Q00 fun w20 e20 => ?_⟩
  obtain ⟨o20, s20, A20⟩ := hfin w20 e20
  obtain ⟨ht20, tt20⟩ := free_of ht16 tt16 s20
  have hS : Step (PQ p q) w o w20 o20 := ((((s10.mono fun j hj _ => (.inl hj : PQ p q j)).trans s11.none).trans' s13 fun j hj => .inr (by rw [hj]; omega)).trans s16.none).trans (s20.mono fun j hj _ => .inr hj)
  have b16' := s16.blk b13 t13 id
  have t16 := (s16.own b13.lt).trans t13
  refine hΦ w20 o20 _ hS A20 ⟨q12, t, xa, xc, rfl, s20.blk b16' t16 (fun e => by omega), by rw [s20.own b16'.lt]; exact t16, (((hrow.step s11).step s13).step s16).step s20, hO.le, by have := A.fl; have h2 : (bytesR 4000 (bs, k)).1.length ≤ bs.length := hl.2; show (bytesR 4000 (bs, k)).1.length < 1000000; omega, ht20, tt20⟩
theorem Q25 (A : RG w o p q bs k x L) (ok : Tags w o) (hL : L.length < 50) {l : List (Nat × List UInt8)} (T : Tks w o q L l) {i : Nat} {to : Addr} (hi : i < 2) (hto : toV q i = .pointer (some to)) :
    Calls Try.prog 91 #[.pointer (some (blk q)), .pointer (some to)] w (PtR w o p q (bytesR 4000 (bs, k)).2 x.r (l ++ [(i, (bytesR 4000 (bs, k)).1)])) := by
  refine (Q0j.go _ _ (R := fun v w' => v = .tuple #[] ∧ PtR w o p q (bytesR 4000 (bs, k)).2 x.r (l ++ [(i, (bytesR 4000 (bs, k)).1)]) (.returned (.tuple #[])) w') ?_).mono fun e w' ⟨v, he, hv, h⟩ => by rw [he, hv]; exact h
  unfold Q0j.N
  intro w3 q4 X3 b3 hq4 hq4'
  have s3 := Step.of_no X3 ok
  have A3 := A.no s3 X3
  have T3 := T.step s3 fun _ _ _ => id
  have ht : Blk w3 q4 (toT i) [toV q i] := by
    rw [hto]
    match i, hi with
    | 0, _ => exact b3
    | 1, _ => exact b3
  have hF : toF i = 97 := match i, hi with | 0, _ => rfl | 1, _ => rfl
  refine ⟨_, rfl, _, A3.ptr, ?_⟩
  have key := Q2o A3 s3.ok hL ht (grow_ge hq4) (Φ := fun w' => (.tuple #[] : Value) = .tuple #[] ∧ PtR w o p q (bytesR 4000 (bs, k)).2 x.r (l ++ [(i, (bytesR 4000 (bs, k)).1)]) (.returned (.tuple #[])) w') fun w' o' v s R tk => ⟨rfl, rfl, o', x, L ++ [v], s3.none.trans s, R, (T3.step s A3.notB).push tk, rfl⟩
  rw [hF] at key
  refine key.mono fun e w10 ⟨a, n, c, he, h⟩ => ⟨a, n, c, he, fun w11 q12 X b h1 h2 => ?_⟩
  obtain ⟨c1, h⟩ := h w11 q12 X b h1 h2
  obtain ⟨_, la, ln, lc, hc, h⟩ := h
  refine ⟨c1, la, ln, lc, hc, fun w16 q17 X b h1 h2 => ?_⟩
  obtain ⟨_, _, a', n', c', w19, hr, _, hcan, h⟩ := h w16 q17 X b h1 h2
  exact ⟨a', n', c', w19, hr, hcan, h⟩
theorem RG.set (A : RG w o p q bs k x L) (ok : Tags w o) {x' : FP} {ad : Addr} {i : Nat} {v : Value} (ha : ad = ⟨q, i, none⟩) (hc : ∀ la lc, (rgC p x la L.length lc).set i v = rgC p x' la L.length lc) (hi : i < 22) (hx : x'.r.e = x.r.e ∧ x'.ea = x.ea ∧ x'.r.f = x.r.f ∧ x'.fa = x.fa ∧ x'.r.v = x.r.v ∧ x'.va = x.va) :
    Q01 w ad ∧ ∀ w', w' = w.setCell ad v → Step (fun j => j = q) w o w' (grow w o) ∧ RG w' (grow w o) p q bs k x' L := by
  obtain ⟨la, lc, bq, _, _⟩ := id A.mem
  have hl : (rgC p x la L.length lc).length = 22 := rfl
  refine ⟨bq.cani i ha (List.getElem?_eq_getElem (by omega)), fun w' e => ?_⟩
  have X : Ext (fun b => b = q) w w' := (Ext.refl (fun b => b = q) w).x_set (q := q) (i := i) ha (.inl rfl) e
  have b' := bq.seti i ha e
  rw [hc] at b'
  have s : Step (fun j => j = q) w o w' (grow w o) := Step.of_ext X ok fun b hb _ => by subst hb; exact A.tq
  obtain ⟨h1, h2, h3, h4, h5, h6⟩ := hx
  exact A.put ok X bq b' ⟨by rw [h1, h2]; exact A.ok.e.step s, by rw [h3, h4]; exact A.ok.f.step s, by rw [h5, h6]; exact A.ok.v.step s⟩
theorem Q1O (A : RG w o p q bs k x L) (ok : Tags w o) (hL : L.length < 50) {l : List (Nat × List UInt8)} (T : Tks w o q L l) :
    Calls Try.prog 78 #[.pointer (some (blk q))] w (PtR w o p q (bytesR 4000 (countR 7 (bs, k)).2).2 { x.r with who := (countR 7 (bs, k)).1 } (l ++ [(2, (bytesR 4000 (countR 7 (bs, k)).2).1)])) := by
  refine (Q08.go _ (R := fun v w' => v = .tuple #[] ∧ PtR w o p q (bytesR 4000 (countR 7 (bs, k)).2).2 { x.r with who := (countR 7 (bs, k)).1 } (l ++ [(2, (bytesR 4000 (countR 7 (bs, k)).2).1)]) (.returned (.tuple #[])) w') ?_).mono fun e w' ⟨v, he, hv, h⟩ => by rw [he, hv]; exact h
  unfold Q08.N
  intro w2 q3 X2 b2 hq3 hq3'
  have s2 := Step.of_no X2 ok
  have A2 := A.no s2 X2
  have T2 := T.step s2 fun _ _ _ => id
  have tq3 : grow w o q3 = none := grow_ge hq3
  have c2 : w2.cell? (blk q3) = some (.pointer (some (blk q))) := b2.celli 0 rfl rfl
  refine ⟨_, c2, _, c2, _, rfl, _, A2.ptr, fun w4 X4 => ?_⟩
  have s4 := Step.of_no X4 s2.ok
  have A4 := A2.no s4 X4
  have T4 := T2.step s4 fun _ _ _ => id
  obtain ⟨b4, t4⟩ := free_of b2 tq3 s4
  refine (W.Count_spec A4.rd A4.fl (m := 7) (by decide)).mono fun e w14 ⟨he, hr, X14⟩ => ⟨_, he, ?_⟩
  obtain ⟨s14, A14⟩ := A4.read s4.ok X14 hr (W.countR_len 7 (bs, k))
  have T14 := T4.step s14 fun b cs hb h => A4.notB b cs hb (.inl h)
  obtain ⟨b14, t14⟩ := free_of b4 t4 s14
  refine ⟨b14.celli 0 rfl rfl, _, rfl, ?_⟩
  obtain ⟨can17, set17⟩ := A14.set s14.ok (x' := { x with r := { x.r with who := (countR 7 (bs, k)).1 } }) (ad := (((blk q).add 1).add 17).add 0) (i := 18) (v := .int .i64 (countR 7 (bs, k)).1) rfl (fun _ _ => rfl) (by decide) ⟨rfl, rfl, rfl, rfl, rfl, rfl⟩
  refine ⟨can17, Q00 fun w17 e17 => ?_⟩
  obtain ⟨s17, A17⟩ := set17 w17 e17
  have T17 := T14.step s17 fun b cs hb h => A14.notB b cs hb (.inr h)
  obtain ⟨b17, t17⟩ := free_of b14 t14 s17
  have c17 : w17.cell? (blk q3) = some (.pointer (some (blk q))) := b17.celli 0 rfl rfl
  refine ⟨_, c17, _, rfl, _, A17.ptr, ?_⟩
  have S17 : Step (PQ p q) w o w17 _ := ((s2.none.trans s4.none).trans (s14.mono fun j hj _ => (.inl hj : PQ p q j))).trans (s17.mono fun j hj _ => .inr hj)
  have key := Q2o A17 s17.ok hL (i := 2) b17 t17 (Φ := fun w' => (.tuple #[] : Value) = .tuple #[] ∧ PtR w o p q (bytesR 4000 (countR 7 (bs, k)).2).2 { x.r with who := (countR 7 (bs, k)).1 } (l ++ [(2, (bytesR 4000 (countR 7 (bs, k)).2).1)]) (.returned (.tuple #[])) w') fun w' o' v s R tk => ⟨rfl, rfl, o', _, L ++ [v], S17.trans s, R, (T17.step s A17.notB).push tk, rfl⟩
  refine key.mono fun e w25 ⟨a, n, c, he, h⟩ => ⟨a, n, c, he, fun w26 q27 X b h1 h2 => ?_⟩
  obtain ⟨c1, h⟩ := h w26 q27 X b h1 h2
  refine ⟨c1, Q00 fun w28 e28 => ?_⟩
  subst e28
  obtain ⟨b28, la, ln, lc, hc, h⟩ := h
  have c28 : World.cell? _ (blk q3) = some (.pointer (some (blk q))) := b28.celli 0 rfl rfl
  refine ⟨_, c28, _, c28, _, rfl, la, ln, lc, hc, fun w37 q38 X b h1 h2 => ?_⟩
  obtain ⟨b37, hc37, a', n', c', w43, hr, b43, hcan, h⟩ := h w37 q38 X b h1 h2
  have c37 : World.cell? _ (blk q3) = some (.pointer (some (blk q))) := b37.celli 0 rfl rfl
  exact ⟨hc37, c37, c37, a', n', c', w43, hr, b43.celli 0 rfl rfl, _, rfl, hcan, h⟩
theorem Q2O (A : RG w o p q bs k x L) (ok : Tags w o) (hL : L.length < 50) {l : List (Nat × List UInt8)} (T : Tks w o q L l) :
    Calls Try.prog 77 #[.pointer (some (blk q))] w (PtR w o p q (bytesR 4000 (bs, k)).2 x.r (l ++ [(0, (bytesR 4000 (bs, k)).1)])) := by
  refine (Q0n.go _ (R := fun v w' => v = .tuple #[] ∧ PtR w o p q (bytesR 4000 (bs, k)).2 x.r (l ++ [(0, (bytesR 4000 (bs, k)).1)]) (.returned (.tuple #[])) w') ?_).mono fun e w' ⟨v, he, hv, h⟩ => by rw [he, hv]; exact h
  unfold Q0n.N
  exact ⟨_, rfl, (Q25 A ok hL T (i := 0) (by decide) rfl).mono fun e w' h => ⟨h.1, rfl, rfl, h.2⟩⟩
theorem Q3p (A : RG w o p q bs k x L) (ok : Tags w o) (hL : L.length < 49) {l : List (Nat × List UInt8)} (T : Tks w o q L l) :
    Calls Try.prog 80 #[.pointer (some (blk q))] w (PtR w o p q (bytesR 4000 (bytesR 4000 (bs, k)).2).2 x.r (l ++ [(0, (bytesR 4000 (bs, k)).1)] ++ [(1, (bytesR 4000 (bytesR 4000 (bs, k)).2).1)])) := by
  refine (Q0m.go _ (R := fun v w' => v = .tuple #[] ∧ PtR w o p q (bytesR 4000 (bytesR 4000 (bs, k)).2).2 x.r (l ++ [(0, (bytesR 4000 (bs, k)).1)] ++ [(1, (bytesR 4000 (bytesR 4000 (bs, k)).2).1)]) (.returned (.tuple #[])) w') ?_).mono fun e w' ⟨v, he, hv, h⟩ => by rw [he, hv]; exact h
  unfold Q0m.N
  refine (Q2O A ok (by omega) T).mono fun e w' ⟨he, o', x', L', s, A', T', hx⟩ => ⟨he, _, rfl, ?_⟩
  have hl' := T'.1
  have hl := T.1
  rw [List.length_append] at hl'
  refine (Q25 A' s.ok (by simp at hl'; omega) T' (i := 1) (by decide) rfl).mono fun e w2 ⟨he, o2, x2, L2, s2, A2, T2, hx2⟩ => ⟨he, rfl, rfl, o2, x2, L2, s.trans s2, A2, T2, hx2.trans hx⟩
theorem Q38 (A : RG w o p q bs k x L) (ok : Tags w o) (hL : L.length < 49) {l : List (Nat × List UInt8)} (T : Tks w o q L l) :
    Calls Try.prog 79 #[.pointer (some (blk q))] w (PtR w o p q (numR (bytesR 4000 (countR 7 (bs, k)).2).2).2 { x.r with who := (countR 7 (bs, k)).1, sg := (numR (bytesR 4000 (countR 7 (bs, k)).2).2).1 } (l ++ [(2, (bytesR 4000 (countR 7 (bs, k)).2).1)])) := by
  refine (Q0i.go _ (R := fun v w' => v = .tuple #[] ∧ PtR w o p q (numR (bytesR 4000 (countR 7 (bs, k)).2).2).2 { x.r with who := (countR 7 (bs, k)).1, sg := (numR (bytesR 4000 (countR 7 (bs, k)).2).2).1 } (l ++ [(2, (bytesR 4000 (countR 7 (bs, k)).2).1)]) (.returned (.tuple #[])) w') ?_).mono fun e w' ⟨v, he, hv, h⟩ => by rw [he, hv]; exact h
  unfold Q0i.N
  refine (Q1O A ok (by omega) T).mono fun e w3 ⟨he, o3, x3, L3, s3, A3, T3, hx⟩ => ⟨he, _, rfl, _, A3.ptr, ?_⟩
  refine (W.RNum_spec A3.rd A3.fl).mono fun e w9 ⟨he, hr, X9⟩ => ⟨_, he, ?_⟩
  obtain ⟨s9, A9⟩ := A3.read s3.ok X9 hr (W.numR_len _)
  have T9 := T3.step s9 fun b cs hb h => A3.notB b cs hb (.inl h)
  obtain ⟨can, set⟩ := A9.set s9.ok (x' := { x3 with r := { x3.r with sg := (numR (bytesR 4000 (countR 7 (bs, k)).2).2).1 } }) (ad := (((blk q).add 1).add 19).add 0) (i := 20) (v := .int .u64 (numR (bytesR 4000 (countR 7 (bs, k)).2).2).1) rfl (fun _ _ => rfl) (by decide) ⟨rfl, rfl, rfl, rfl, rfl, rfl⟩
  refine ⟨can, Q00 fun w10 e10 => ?_⟩
  obtain ⟨s10, A10⟩ := set w10 e10
  refine ⟨rfl, rfl, _, _, L3, (s3.trans (s9.mono fun j hj _ => (.inl hj : PQ p q j))).trans (s10.mono fun j hj _ => .inr hj), A10, T9.step s10 fun b cs hb h => A9.notB b cs hb (.inr h), ?_⟩
  dsimp only
  rw [hx]
end
end Go.Proofs.Ytoempemllkebkaa
namespace Go.Proofs.Ytoempemllkebkaa
open Go Go.Mx Go.Proofs
open W (OwnB Rd numR countR doneR)
def kdS (n : Nat) (s : RS) : RS :=
  if n = 1 then (bytesR 4000 s).2 else if n = 2 then (bytesR 4000 (countR 7 s).2).2 else if n = 3 then (numR (bytesR 4000 (countR 7 s).2).2).2 else if n = 4 then (bytesR 4000 (bytesR 4000 s).2).2 else s
def kdF (n : Nat) (f : Fr) (s : RS) : Fr :=
  if n = 2 then { f with who := (countR 7 s).1 } else if n = 3 then { f with who := (countR 7 s).1, sg := (numR (bytesR 4000 (countR 7 s).2).2).1 } else f
def kdL (n : Nat) (s : RS) : List (Nat × List UInt8) :=
  if n = 1 then [(0, (bytesR 4000 s).1)] else if n = 2 then [(2, (bytesR 4000 (countR 7 s).2).1)] else if n = 3 then [(2, (bytesR 4000 (countR 7 s).2).1)] else if n = 4 then [(0, (bytesR 4000 s).1), (1, (bytesR 4000 (bytesR 4000 s).2).1)] else []
def looks : List (Nat × List UInt8) → Fr → Fr × Int
  | [], f => (f, 0)
  | c :: r, f => if (f.put c).2 = 0 then looks r (f.put c).1 else (Fr.zero, (f.put c).2)
def frStart (b : List UInt8) : Fr := kdF (countR 4 (b, 0)).1 { Fr.zero with kd := (countR 4 (b, 0)).1 } (countR 4 (b, 0)).2
def frLooks (b : List UInt8) : Fr × Int := looks (kdL (countR 4 (b, 0)).1 (countR 4 (b, 0)).2) (frStart b)
def frDone (b : List UInt8) : Int := doneR (kdS (countR 4 (b, 0)).1 (countR 4 (b, 0)).2)
def readW (b : List UInt8) : Fr × Int :=
  if frDone b ≠ 0 then (Fr.zero, frDone b) else if (frLooks b).2 ≠ 0 then (Fr.zero, (frLooks b).2) else if frOK (frLooks b).1 = true then ((frLooks b).1, 0) else (Fr.zero, 4)
section
variable {w w' w1 : World} {o o' o1 : Own} {p q b t : Nat} {bs : List UInt8} {k : Int} {x : FP} {L : List Value} {K : Nat → Prop}
theorem Q3Y (A : RG w o p q bs k x []) (ok : Tags w o) (n : Nat) :
    Calls Try.prog 60 #[.pointer (some (blk q)), .int .i64 n] w fun e w' => w' = w ∧ ∃ kk ff gg, e = .returned (.func (.func kk) ff gg) ∧ enters Try.prog kk = true ∧ Calls Try.prog kk (ff.toList ++ ([] : List Value) ++ gg.toList).toArray w (PtR w o p q (kdS n (bs, k)) (kdF n x.r (bs, k)) (kdL n (bs, k))) := by
  refine (Q0k.go _ _ (R := fun v w' => w' = w ∧ ∃ kk ff gg, v = .func (.func kk) ff gg ∧ enters Try.prog kk = true ∧ Calls Try.prog kk (ff.toList ++ ([] : List Value) ++ gg.toList).toArray w (PtR w o p q (kdS n (bs, k)) (kdF n x.r (bs, k)) (kdL n (bs, k)))) ?_).mono fun e w' ⟨v, he, hw, kk, ff, gg, hv, h⟩ => ⟨hw, kk, ff, gg, by rw [he, hv], h⟩
  unfold Q0k.N
  have T0 := Tks.nil w o q
  refine ⟨fun h => ⟨rfl, _, _, _, rfl, by kernel_rfl, ?_⟩, fun h1 => ⟨fun h => ⟨rfl, _, _, _, rfl, by kernel_rfl, ?_⟩, fun h2 => ⟨fun h => ⟨rfl, _, _, _, rfl, by kernel_rfl, ?_⟩, fun h3 => ⟨fun h => ⟨rfl, _, _, _, rfl, by kernel_rfl, ?_⟩, fun h4 => ⟨rfl, _, _, _, rfl, by kernel_rfl, ?_⟩⟩⟩⟩⟩
  · obtain rfl : n = 1 := by omega
    exact Q2O A ok (by decide) T0
  · obtain rfl : n = 2 := by omega
    exact Q1O A ok (by decide) T0
  · obtain rfl : n = 3 := by omega
    exact Q38 A ok (by decide) T0
  · obtain rfl : n = 4 := by omega
    exact Q3p A ok (by decide) T0
  · have e1 : kdS n (bs, k) = (bs, k) := by unfold kdS; rw [if_neg (by omega), if_neg (by omega), if_neg (by omega), if_neg (by omega)]
    have e2 : kdF n x.r (bs, k) = x.r := by unfold kdF; rw [if_neg (by omega), if_neg (by omega)]
    have e3 : kdL n (bs, k) = [] := by unfold kdL; rw [if_neg (by omega), if_neg (by omega), if_neg (by omega), if_neg (by omega)]
    rw [e1, e2, e3]
    refine (Q0h.go (R := fun v w' => v = .tuple #[] ∧ PtR w o p q (bs, k) x.r [] (.returned (.tuple #[])) w') ?_).mono fun e w' ⟨v, he, hv, h⟩ => by rw [he, hv]; exact h
    unfold Q0h.N
    exact ⟨rfl, rfl, o, x, [], Step.refl _ ok, A, T0, rfl⟩
theorem Q3O (n : Nat) (s : RS) : (kdL n s).length < 50 := by
  unfold kdL
  repeat' split
  all_goals (simp only [List.length_cons, List.length_nil]; decide)
theorem Q4r (b : List UInt8) : (readV b).1.length ≤ 8 := by
  by_cases h : (readV b).2 = 0
  · exact Q2b (Q3B h).1
  · rw [Q3s h]; exact Nat.zero_le _
theorem put_v (f : Fr) (c : Nat × List UInt8) (h : f.v.length ≤ 8) : (f.put c).1.v.length ≤ 8 := by
  obtain ⟨i, c⟩ := c
  match i with
  | 0 => exact h
  | 1 => exact h
  | n + 2 => exact Q4r c
theorem looks_v : ∀ (l : List (Nat × List UInt8)) (f : Fr), f.v.length ≤ 8 → (looks l f).1.v.length ≤ 8
  | [], f, h => h
  | c :: r, f, h => by
    unfold looks
    split
    · exact looks_v r _ (put_v f c h)
    · exact Nat.zero_le _
theorem start_v (b : List UInt8) : (frStart b).v.length ≤ 8 := by
  unfold frStart kdF
  repeat' split
  all_goals exact Nat.zero_le _
def WhR (w : World) (o : Own) (p q : Nat) (r : Fr × Int) (e : Ending) (w' : World) : Prop :=
  ∃ o', Step (PQ p q) w o w' o' ∧ ((r.2 = 0 ∧ ∃ x' : FP, e = .returned x'.V ∧ x'.r = r.1 ∧ x'.own w' o') ∨ (r.2 ≠ 0 ∧ e = .panicked [kindP r.2]))
theorem Q3x {b : List UInt8} (A : RG w o p q b 0 FP.zero []) (ok : Tags w o) : Calls Try.prog 34 #[.pointer (some (blk q))] w (WhR w o p q (readW b)) := by
  refine (Q1S.ok _ (Φ := fun ch w' => (readW b).2 ≠ 0 ∧ ch = [kindP (readW b).2] ∧ ∃ o', Step (PQ p q) w o w' o') (R := fun v w' => (readW b).2 = 0 ∧ ∃ o' x', Step (PQ p q) w o w' o' ∧ v = FP.V x' ∧ x'.r = (readW b).1 ∧ x'.own w' o') ?_).mono fun e w' h => ?_
  rotate_left
  · rcases h with ⟨v, he, hz, o', x', s, hv, hx, hr⟩ | ⟨ch, he, hz, hc, o', s⟩
    · exact ⟨o', s, .inl ⟨hz, x', by rw [he, hv], hx, hr⟩⟩
    · exact ⟨o', s, .inr ⟨hz, by rw [he, hc]⟩⟩
  unfold Q1S.M
  refine Q00 fun w2 e2 => ?_
  have X2 : Ext no w w2 := by subst e2; exact (Ext.refl _ _).alloc _
  have b2 : Blk w2 w.heap.size 38 FP.zero.C := by subst e2; exact Blk.new _ _ _
  obtain ⟨z, hz⟩ : ∃ z, w.heap.size = z := ⟨_, rfl⟩
  rw [hz] at b2 ⊢
  have s2 := (Step.of_no X2 ok).tag (p := z) (j := z) (by omega) b2.lt
  have A2 := A.far s2 X2 (fun b hb => hb.elim) id
  have hqz : q < z := by have := A.lt; omega
  have t2 : tag (grow w o) z z z = some z := Q0R
  refine ⟨_, A2.ptr, ?_⟩
  refine (W.Count_spec A2.rd A2.fl (m := 4) (by decide)).mono fun e w7 ⟨he, hr, X7⟩ => .inl ⟨_, he, ?_⟩
  obtain ⟨s7, A7⟩ := A2.read s2.ok X7 hr (W.countR_len 4 (b, 0))
  obtain ⟨can, set⟩ := A7.set s7.ok (x' := { FP.zero with r := { Fr.zero with kd := (countR 4 (b, 0)).1 } }) (ad := (((blk q).add 1).add 0).add 0) (i := 1) (v := .int .i64 (countR 4 (b, 0)).1) rfl (fun _ _ => rfl) (by decide) ⟨rfl, rfl, rfl, rfl, rfl, rfl⟩
  refine ⟨can, Q00 fun w10 e10 => ?_⟩
  obtain ⟨s10, A10⟩ := set w10 e10
  obtain ⟨la0, lc0, bq10, _, _⟩ := id A10.mem
  refine ⟨_, bq10.celli 1 rfl rfl, ?_⟩
  refine (Q3Y A10 s10.ok (countR 4 (b, 0)).1).mono fun e w15 ⟨hw, kk, ff, gg, he, hen, hcall⟩ => .inl ⟨kk, ff, gg, he, ?_⟩
  subst hw
  rw [hen, cond_true]
  refine hcall.mono fun e w18 ⟨he, o18, x18, L, s18, A18, T18, hx18⟩ => .inl ⟨he, ?_⟩
  have hx18 : x18.r = frStart b := hx18
  have A18 : RG w18 o18 p q (kdS (countR 4 (b, 0)).1 (countR 4 (b, 0)).2).1 (kdS (countR 4 (b, 0)).1 (countR 4 (b, 0)).2).2 x18 L := A18
  have T18 : Tks w18 o18 q L (kdL (countR 4 (b, 0)).1 (countR 4 (b, 0)).2) := T18
  have hLl : L.length < 50 := by rw [T18.1]; exact Q3O _ _
  have S18 : Step (PQ p q) w o w18 o18 := (((s2.none.trans (s7.mono fun j hj _ => (.inl hj : PQ p q j))).trans (s10.mono fun j hj _ => .inr hj)).trans s18)
  have bz7 := s7.blk b2 t2 (fun e => by have := A.pq; omega)
  have tz7 := (s7.own b2.lt).trans t2
  have bz10 := s10.blk bz7 tz7 (fun e => by omega)
  have tz10 := (s10.own bz7.lt).trans tz7
  have hzPQ : ¬ PQ p q z := fun e => by have := A.pq; rcases e with e | e <;> omega
  have bz18 := s18.blk bz10 tz10 hzPQ
  have tz18 := (s18.own bz10.lt).trans tz10
  refine ⟨_, A18.ptr, ?_⟩
  refine (W.Done_spec A18.rd).mono fun e w24 ⟨he, hw⟩ => .inl ⟨_, he, ?_⟩
  subst hw
  refine (Q1D _ w24).mono fun e w27 h => ?_
  rcases h with ⟨hk, he, hw⟩ | ⟨hk, he, hw⟩
  rotate_left
  · subst hw
    have hd : frDone b ≠ 0 := hk
    have hr : readW b = (Fr.zero, frDone b) := by unfold readW; rw [if_pos hd]
    rw [hr]
    exact .inr ⟨_, he, hd, rfl, _, S18⟩
  subst hw
  have hd : frDone b = 0 := hk
  obtain ⟨la, lc, hcl, _⟩ := A18.laterC
  refine .inl ⟨he, la, _, lc, hcl, ?_⟩
  refine ⟨fun m vs w1 => ∃ (t : Nat) (o1 : Own) (x1 : FP), vs = [.int .i64 t] ∧ m + t = L.length ∧ Step (PQ p q) w o w1 o1 ∧ RG w1 o1 p q (kdS (countR 4 (b, 0)).1 (countR 4 (b, 0)).2).1 (kdS (countR 4 (b, 0)).1 (countR 4 (b, 0)).2).2 x1 L ∧ Tks w1 o1 q L (kdL (countR 4 (b, 0)).1 (countR 4 (b, 0)).2) ∧
    w1.cell? ((blk q).add 21) = some (.slice la L.length lc) ∧ Blk w1 z 38 FP.zero.C ∧ o1 z = some z ∧ frLooks b = looks ((kdL (countR 4 (b, 0)).1 (countR 4 (b, 0)).2).drop t) x1.r, L.length, ⟨0, o18, x18, rfl, rfl, S18, A18, T18, hcl, bz18, tz18, by rw [hx18]; rfl⟩, ?_⟩
  rintro m w34 i ⟨t, o34, x34, hv, hm, S34, A34, T34, hc34, bz34, tz34, hlk⟩
  cases hv
  by_cases ht : t < L.length
  · rw [show decide ((t : Int) < (L.length : Int)) = true by simpa using ht, cond_true]
    obtain ⟨la', lc', hc', hrow⟩ := A34.laterC
    have := hc34.symm.trans hc'
    cases this
    have hg : L[t]? = some L[t] := List.getElem?_eq_getElem ht
    have hlen := T34.1
    have hgl : (kdL (countR 4 (b, 0)).1 (countR 4 (b, 0)).2)[t]? = some ((kdL (countR 4 (b, 0)).1 (countR 4 (b, 0)).2)[t]'(by omega)) := List.getElem?_eq_getElem (by omega)
    obtain ⟨ad, had, hcell⟩ := hrow t _ hg
    subst had
    have hTk := T34.2 t _ _ hg hgl
    obtain ⟨kk, ff, gg, hv, hen, hcall⟩ := Q3X A34 S34.ok hTk
    refine ⟨by omega, by omega, kk, ff, gg, by rw [Int.toNat_natCast, Nat.mul_one, hcell, hv], ?_⟩
    rw [hen, cond_true]
    have hdrop : (kdL (countR 4 (b, 0)).1 (countR 4 (b, 0)).2).drop t = (kdL (countR 4 (b, 0)).1 (countR 4 (b, 0)).2)[t]'(by omega) :: (kdL (countR 4 (b, 0)).1 (countR 4 (b, 0)).2).drop (t + 1) := List.drop_eq_getElem_cons (by omega)
    rw [hdrop] at hlk
    generalize (kdL (countR 4 (b, 0)).1 (countR 4 (b, 0)).2)[t]'(by omega) = c at *
    refine hcall.mono fun e w38 ⟨o38, x38, s38, A38, ⟨la2, lc2, hca, hcb⟩, h⟩ => ?_
    have hz38 : ¬ (fun j => j = q) z := fun e => by
      have e : z = q := e
      omega
    rcases h with ⟨hk, he, hx⟩ | ⟨hk, he⟩
    · refine .inl ⟨he, m - 1, by omega, t + 1, o38, x38, ?_, by omega, S34.trans (s38.mono fun j hj _ => .inr hj), A38, T34.step s38 fun b cs hb h => A34.notB b cs hb (.inr h), ?_, s38.blk bz34 tz34 hz38, by rw [s38.own bz34.lt]; exact tz34, ?_⟩
      · rw [w64 (by omega) (by omega)]; rfl
      · rw [hc34] at hca; cases hca; exact hcb
      · rw [hlk]
        show (if (x34.r.put c).2 = 0 then _ else _) = _
        rw [if_pos hk, hx]
    · have hl : frLooks b = (Fr.zero, (x34.r.put c).2) := by
        rw [hlk]
        show (if (x34.r.put c).2 = 0 then _ else _) = _
        rw [if_neg hk]
      have hr : readW b = (Fr.zero, (x34.r.put c).2) := by unfold readW; rw [if_neg (by rw [hd]; exact fun h => h rfl), hl, if_pos hk]
      rw [hr]
      exact .inr ⟨_, he, hk, rfl, o38, S34.trans (s38.mono fun j hj _ => .inr hj)⟩
  · rw [show decide ((t : Int) < (L.length : Int)) = false by simp; omega, cond_false]
    have hlen := T34.1
    have hlk : frLooks b = (x34.r, 0) := by rw [hlk, List.drop_eq_nil_of_le (by omega)]; rfl
    obtain ⟨la3, lc3, bq34, _, _⟩ := id A34.mem
    have cells : ∀ {w' : World}, Blk w' q 72 (rgC p x34 la3 L.length lc3) → cellsAt w' ((blk q).add 1) x34.C 0 := fun {w'} bb => ⟨bb.celli 1 rfl rfl, bb.celli 2 rfl rfl, bb.celli 3 rfl rfl, bb.celli 4 rfl rfl, bb.celli 5 rfl rfl, bb.celli 6 rfl rfl, bb.celli 7 rfl rfl, bb.celli 8 rfl rfl, bb.celli 9 rfl rfl, bb.celli 10 rfl rfl, bb.celli 11 rfl rfl, bb.celli 12 rfl rfl, bb.celli 13 rfl rfl, bb.celli 14 rfl rfl, bb.celli 15 rfl rfl, bb.celli 16 rfl rfl, bb.celli 17 rfl rfl, bb.celli 18 rfl rfl, bb.celli 19 rfl rfl, bb.celli 20 rfl rfl, trivial⟩
    refine ⟨_, _, _, _, _, _, _, _, _, _, _, _, _, _, _, _, _, _, _, _, _, _, _, _, _, _, cells bq34, ?_⟩
    have hvl : x34.r.v.length < 1000000 := by
      have h1 := looks_v (kdL (countR 4 (b, 0)).1 (countR 4 (b, 0)).2) (frStart b) (start_v b)
      have h2 : (frLooks b).1.v.length ≤ 8 := h1
      rw [hlk] at h2
      have h2 : x34.r.v.length ≤ 8 := h2
      omega
    have hrd : ¬ frDone b ≠ 0 := by rw [hd]; exact fun h => h rfl
    refine (Q2e A34.ok.at hvl).mono fun e w64 ⟨he, X64⟩ => .inl ⟨_, he, ?_⟩
    have s64 := Step.of_no X64 S34.ok
    have A64 := A34.no s64 X64
    by_cases hok : frOK x34.r = true
    · rw [hok, Bool.not_true, cond_false]
      have bq64 := s64.blk bq34 A34.tq id
      have bz64 := s64.blk bz34 tz34 id
      have tz64 := (s64.own bz34.lt).trans tz34
      refine ⟨_, _, _, _, _, _, _, _, _, _, _, _, _, _, _, _, _, _, _, _, _, _, _, _, _, _, cells bq64, ?_⟩
      refine Q0M (k := 0) bz64 (by show 0 + 0 + 20 ≤ 20; decide) fun w87 X87 b87 => ?_
      have b87' : Blk w87 z 38 x34.C := Q10 b87 rfl
      have s87 : Step (fun j => j = z) w64 _ w87 _ := Step.of_ext X87 s64.ok fun b hb _ => by subst hb; exact tz64
      have hr : readW b = (x34.r, 0) := by unfold readW; rw [if_neg hrd, hlk, if_neg (fun h => h rfl), if_pos hok]
      rw [hr]
      exact ⟨_, _, _, _, _, _, _, _, _, _, _, _, _, _, _, _, _, _, _, _, _, _, _, _, _, _, ⟨b87'.celli 0 rfl rfl, b87'.celli 1 rfl rfl, b87'.celli 2 rfl rfl, b87'.celli 3 rfl rfl, b87'.celli 4 rfl rfl, b87'.celli 5 rfl rfl, b87'.celli 6 rfl rfl, b87'.celli 7 rfl rfl, b87'.celli 8 rfl rfl, b87'.celli 9 rfl rfl, b87'.celli 10 rfl rfl, b87'.celli 11 rfl rfl, b87'.celli 12 rfl rfl, b87'.celli 13 rfl rfl, b87'.celli 14 rfl rfl, b87'.celli 15 rfl rfl, b87'.celli 16 rfl rfl, b87'.celli 17 rfl rfl, b87'.celli 18 rfl rfl, b87'.celli 19 rfl rfl, trivial⟩,
        rfl, _, x34, (S34.trans s64.none).trans' s87 fun j hj => .inr (by rw [hj]; omega), rfl, rfl, (A34.ok.step s64).step s87⟩
    · have hok : frOK x34.r = false := by simpa using hok
      rw [hok, Bool.not_false, cond_true]
      have hr : readW b = (Fr.zero, 4) := by unfold readW; rw [if_neg hrd, hlk, if_neg (fun h => h rfl), hok]; rfl
      rw [hr]
      exact ⟨by decide, rfl, _, S34.trans s64.none⟩
end
end Go.Proofs.Ytoempemllkebkaa
namespace Go.Proofs.Ytoempemllkebkaa
open Go Go.Mx Go.Proofs
open W (OwnB Rd numR countR doneR)
theorem Q46 (v : Value) (w : World) : (binOp .neq 20 (.iface 33 v) .nilIface).run Try.prog w = .ok (.bool true) w := by
  have h : ∀ d, (Op.equalIn (d + 1) 20 (.iface 33 v) .nilIface).run Try.prog w = .ok false w := fun d => by simp [Op.equalIn, run_underlying' Try.underlying20]
  have h2 : (Op.equal 20 (.iface 33 v) .nilIface).run Try.prog w = .ok false w := h _
  have e : binOp .neq 20 (.iface 33 v) .nilIface = (do pure (.bool (!(← Op.equal 20 (.iface 33 v) .nilIface)))) := rfl
  rw [e]
  simp [h2]
theorem Q28 (v : Value) (w : World) : (Instr.typeAssert (.iface 33 v) 20 33 false).run Try.prog w = .ok v w := by
  simp [Instr.typeAssert, run_underlying' Try.underlying33]
section
variable {w w' w1 : World} {o o' o1 : Own} {p q z y b t : Nat} {bs : List UInt8} {k : Int} {x : FP} {L : List Value} {K : Nat → Prop}
theorem cellsFr {t : TypeId} (bb : Blk w z t x.C) : cellsAt w (blk z) x.C 0 := ⟨bb.celli 0 rfl rfl, bb.celli 1 rfl rfl, bb.celli 2 rfl rfl, bb.celli 3 rfl rfl, bb.celli 4 rfl rfl, bb.celli 5 rfl rfl, bb.celli 6 rfl rfl, bb.celli 7 rfl rfl, bb.celli 8 rfl rfl, bb.celli 9 rfl rfl, bb.celli 10 rfl rfl, bb.celli 11 rfl rfl, bb.celli 12 rfl rfl, bb.celli 13 rfl rfl, bb.celli 14 rfl rfl, bb.celli 15 rfl rfl, bb.celli 16 rfl rfl, bb.celli 17 rfl rfl, bb.celli 18 rfl rfl, bb.celli 19 rfl rfl, trivial⟩
theorem Q30 (bz : Blk w z 38 x.C) (by_ : Blk w y 33 [.int .i64 k]) (hzy : z ≠ y) (j : Int) :
    CallsD Try.prog 32 #[.pointer (some (blk z)), .pointer (some (blk y))] (.panicking [kindP j]) w fun e u' w' => ∃ v, e = .returned v ∧ settle u' = .returning ∧ Ext (fun b => b = z ∨ b = y) w w' ∧ Blk w' z 38 FP.zero.C ∧ Blk w' y 33 [.int .i64 j] := by
  refine (frmBack.ok (blk z) (blk y) j (R := fun v u' w' => settle u' = .returning ∧ Ext (fun b => b = z ∨ b = y) w w' ∧ Blk w' z 38 FP.zero.C ∧ Blk w' y 33 [.int .i64 j]) ?_).mono fun e u' w' ⟨v, he, h⟩ => ⟨v, he, h⟩
  unfold frmBack.M
  refine ⟨true, Q46 _ _, ?_⟩
  rw [cond_true]
  refine Q00 fun w4 e4 => ?_
  have X4 : Ext (fun b => b = z ∨ b = y) w w4 := (Ext.refl _ w).x_drew e4
  have bz4 := bz.x_drew e4
  have by4 := by_.x_drew e4
  refine ⟨j, Q28 _ _, ?_⟩
  show putsK w4 ((blk z).add 0) FP.zero.C 0 _
  refine Q0M (k := 0) bz4 (by show 0 + 0 + 20 ≤ 20; decide) fun w25 X25 b25 => ⟨Q28 _ _, ?_⟩
  have b25' : Blk w25 z 38 FP.zero.C := Q10 b25 rfl
  have by25 := by4.ext X25 (fun e => hzy e.symm)
  refine ⟨by25.cani 0 rfl rfl, Q00 fun w26 e26 => ⟨rfl, ?_, ?_, by25.seti 0 rfl e26⟩⟩
  · exact (X4.trans (X25.mono fun b hb _ => .inl hb)).x_set (q := y) (i := 0) rfl (.inl (.inr rfl)) e26
  · have X26 : Ext (fun b => b = y) w25 w26 := (Ext.refl (fun b => b = y) w25).x_set (q := y) (i := 0) rfl (.inl rfl) e26
    exact b25'.ext X26 hzy
theorem Q39 (w : World) : CallsD Try.prog 32 #[.pointer (some (blk z)), .pointer (some (blk y))] .returning w fun e u' w' => ∃ v, e = .returned v ∧ settle u' = .returning ∧ w' = w := by
  refine (frmDone.ok (blk z) (blk y) (R := fun v u' w' => settle u' = .returning ∧ w' = w) ?_).mono fun e u' w' ⟨v, he, h⟩ => ⟨v, he, h⟩
  unfold frmDone.M
  exact ⟨rfl, rfl⟩
def readFr (b : List UInt8) : Fr × Int := if b.length > 4000 then (Fr.zero, 3) else readW b
theorem Q36 {a : Option Addr} {c : Nat} {b : List UInt8} (h : RowAt w a (bytesV b)) (hc : b.length ≤ c) :
    Calls Try.prog 13 #[.slice a b.length c] w fun e w' => ∃ x' : FP, e = .returned (.tuple #[x'.V, .int .i64 (readFr b).2]) ∧ x'.r = (readFr b).1 ∧ x'.at w' ∧ Ext no w w' := by
  refine (frmRead.ok a b.length c (R := fun v w' => ∃ x' : FP, v = .tuple #[x'.V, .int .i64 (readFr b).2] ∧ x'.r = (readFr b).1 ∧ x'.at w' ∧ Ext no w w') ?_).mono fun e w' ⟨v, he, x', hv, h⟩ => ⟨x', by rw [he, hv], h⟩
  unfold frmRead.M
  have tg0 : Tags w fun _ => none := fun b j _ h => by cases h
  have fin : ∀ {w1 : World} {o1 : Own}, Step no w (fun _ => none) w1 o1 → Ext no w w1 := fun {w1 o1} s => s.ext.mono fun b ⟨_, h, _⟩ _ => by cases h
  refine Q00 fun w2 e2 => Q00 fun w3 e3 => ?_
  obtain ⟨z, hz⟩ : ∃ z, w.heap.size = z := ⟨_, rfl⟩
  obtain ⟨y, hy⟩ : ∃ y, w2.heap.size = y := ⟨_, rfl⟩
  have X2 : Ext no w w2 := by subst e2; exact (Ext.refl _ _).alloc _
  have b2 : Blk w2 w.heap.size 38 FP.zero.C := by subst e2; exact Blk.new _ _ _
  have X3 : Ext no w2 w3 := by subst e3; exact (Ext.refl _ _).alloc _
  have b3 : Blk w3 w2.heap.size 33 [.int .i64 0] := by subst e3; exact Blk.new _ _ _
  rw [hz] at b2
  rw [hy] at b3
  rw [hz, hy]
  have s2 := (Step.of_no X2 tg0).tag (p := z) (j := z) (by omega) b2.lt
  have s3 := (Step.of_no X3 s2.ok).tag (p := y) (j := y) (by omega) b3.lt
  have hzy : z ≠ y := by have := b2.lt; omega
  have bz3 : Blk w3 z 38 FP.zero.C := b2.ext X3 id
  have tz3 : tag (grow w2 (tag (grow w fun _ => none) z z)) y y z = some z := by rw [tag_ne hzy, grow_lt b2.lt]; exact Q0R
  have ty3 : tag (grow w2 (tag (grow w fun _ => none) z z)) y y y = some y := Q0R
  have S3 := s2.trans s3
  generalize tag (grow w2 (tag (grow w fun _ => none) z z)) y y = o3 at *
  by_cases hl : b.length > 4000
  · rw [show decide ((b.length : Int) > 4000) = true from decide_eq_true (by omega), cond_true]
    have hr : readFr b = (Fr.zero, 3) := by unfold readFr; rw [if_pos hl]
    refine ⟨_, _, _, _, _, _, _, _, _, _, _, _, _, _, _, _, _, _, _, _, _, _, _, _, _, _, cellsFr bz3, ?_⟩
    show putsK w3 ((blk z).add 0) FP.zero.C 0 _
    refine Q0M (k := 0) bz3 (by show 0 + 0 + 20 ≤ 20; decide) fun w24 X24 b24 => ?_
    have b24' : Blk w24 z 38 FP.zero.C := Q10 b24 rfl
    have by24 := b3.ext X24 (fun e => hzy e.symm)
    refine ⟨by24.cani 0 rfl rfl, Q00 fun w25 e25 => ?_⟩
    have X25 : Ext (fun b => b = y) w24 w25 := (Ext.refl (fun b => b = y) w24).x_set (q := y) (i := 0) rfl (.inl rfl) e25
    have b25 := b24'.ext X25 hzy
    refine ⟨_, _, _, _, _, _, _, _, _, _, _, _, _, _, _, _, _, _, _, _, _, _, _, _, _, _, cellsFr b25, 3, (by24.seti 0 rfl e25).celli 0 rfl rfl, FP.zero, by rw [hr]; rfl, by rw [hr]; rfl, ⟨RowAt.nil _ _, RowAt.nil _ _, RowAt.nil _ _⟩, ?_⟩
    have Y3 := fin S3
    exact (Y3.then X24 fun b hb => .inr (by omega)).then X25 fun b hb => .inr (by have := X2.size; omega)
  · rw [show decide ((b.length : Int) > 4000) = false from decide_eq_false (by omega), cond_false]
    have hr : readFr b = readW b := by unfold readFr; rw [if_neg hl]
    refine (W.Read_spec (h.no (fin S3)) hc).mono fun e w55 ⟨p, he, hR, hp, X55⟩ => .inl ⟨_, he, Q00 fun w57 e57 => ?_⟩
    have s55 := (Step.of_no X55 S3.ok).tag (p := p) (j := p) hp hR.lt
    have X57 : Ext no w55 w57 := by subst e57; exact (Ext.refl _ _).alloc _
    have b57 : Blk w57 w55.heap.size 72 (rgC p FP.zero none 0 0) := by subst e57; exact Blk.new _ _ _
    obtain ⟨q, hq⟩ : ∃ q, w55.heap.size = q := ⟨_, rfl⟩
    rw [hq] at b57 ⊢
    have s57 := (Step.of_no X57 s55.ok).tag (p := q) (j := q) (by omega) b57.lt
    have hpq : p < q := by have := hR.lt; omega
    have hyp : y < p := by have := b3.lt; omega
    have hzp : z < p := by have := bz3.lt; omega
    have tp57 : tag (grow w55 (tag (grow w3 o3) p p)) q q p = some p := by rw [tag_ne (by omega), grow_lt hR.lt]; exact Q0R
    have A57 : RG w57 (tag (grow w55 (tag (grow w3 o3) p p)) q q) p q b 0 FP.zero [] :=
      ⟨hR.no X57, ⟨none, 0, b57, Go.Mx.Grows.nil _ _ _ _ _, fun ad ha => by cases ha⟩, tp57, Q0R, hpq, FP.own.zero _ _, by omega⟩
    have S57 := (S3.trans s55).trans s57
    have bz57 := (bz3.ext X55 id).ext X57 id
    have by57 := (b3.ext X55 id).ext X57 id
    have l3 := bz3.lt
    have l3' := b3.lt
    have l55 : z < w55.heap.size := Nat.lt_of_lt_of_le l3 X55.size
    have l55' : y < w55.heap.size := Nat.lt_of_lt_of_le l3' X55.size
    have tz57 : tag (grow w55 (tag (grow w3 o3) p p)) q q z = some z := by rw [tag_ne (by omega), grow_lt l55, tag_ne (by omega), grow_lt l3]; exact tz3
    have ty57 : tag (grow w55 (tag (grow w3 o3) p p)) q q y = some y := by rw [tag_ne (by omega), grow_lt l55', tag_ne (by omega), grow_lt l3']; exact ty3
    generalize tag (grow w55 (tag (grow w3 o3) p p)) q q = o57 at *
    refine (Q3x A57 S57.ok).mono fun e w79 ⟨o79, s79, hor⟩ => ?_
    have hz79 : ¬ PQ p q z := fun e => by rcases e with e | e <;> omega
    have hy79 : ¬ PQ p q y := fun e => by rcases e with e | e <;> omega
    have bz79 := s79.blk bz57 tz57 hz79
    have by79 := s79.blk by57 ty57 hy79
    have tz79 := (s79.own bz57.lt).trans tz57
    have ty79 := (s79.own by57.lt).trans ty57
    have S79 : Step no w (fun _ => none) w79 o79 := S57.trans' s79 fun j hj => .inr (by rcases hj with e | e <;> omega)
    have Y79 := fin S79
    rcases hor with ⟨hk, x', he, hx, hown⟩ | ⟨hk, he⟩
    · refine .inl ⟨_, _, _, _, _, _, _, _, _, _, _, _, _, _, _, _, _, _, _, _, _, _, _, _, _, _, he, ?_⟩
      show putsK w79 ((blk z).add 0) x'.C 0 _
      refine Q0M (k := 0) bz79 (by show 0 + 0 + 20 ≤ 20; decide) fun w81 X81 b81 => ?_
      have b81' : Blk w81 z 38 x'.C := Q10 b81 rfl
      have by81 := by79.ext X81 (fun e => hzy e.symm)
      refine ⟨by81.cani 0 rfl rfl, Q00 fun w82 e82 => ?_⟩
      have X82 : Ext (fun b => b = y) w81 w82 := (Ext.refl (fun b => b = y) w81).x_set (q := y) (i := 0) rfl (.inl rfl) e82
      have b82 := b81'.ext X82 hzy
      have s81 : Step (fun j => j = z) w79 o79 w81 _ := Step.of_ext X81 S79.ok fun b hb _ => by subst hb; exact tz79
      have s82 : Step (fun j => j = y) w81 _ w82 _ := Step.of_ext X82 s81.ok fun b hb _ => by subst hb; rw [s81.own by79.lt]; exact ty79
      have hat := ((hown.step s81).step s82).at
      refine (Q39 (z := z) (y := y) w82).mono fun e u' w49 ⟨v, he, hs, hw⟩ => ⟨v, he, hs, ?_⟩
      subst hw
      refine ⟨_, _, _, _, _, _, _, _, _, _, _, _, _, _, _, _, _, _, _, _, _, _, _, _, _, _, cellsFr b82, 0, (by81.seti 0 rfl e82).celli 0 rfl rfl, x', by rw [hr, hk]; rfl, by rw [hr]; exact hx, hat, ?_⟩
      exact (Y79.then X81 fun b hb => .inr (by omega)).then X82 fun b hb => .inr (by have := X2.size; omega)
    · refine .inr ⟨_, he, ?_⟩
      refine (Q30 bz79 by79 hzy (readW b).2).mono fun e u' w49 ⟨v, he, hs, X49, b49, by49⟩ => ⟨v, he, hs, ?_⟩
      have hfz : (readW b).1 = Fr.zero := by
        unfold readW at hk ⊢
        split
        · rfl
        · split
          · rfl
          · split
            · rename_i h1 h2 h3
              rw [if_neg h1, if_neg h2, if_pos h3] at hk
              exact absurd rfl hk
            · rfl
      refine ⟨_, _, _, _, _, _, _, _, _, _, _, _, _, _, _, _, _, _, _, _, _, _, _, _, _, _, cellsFr b49, _, by49.celli 0 rfl rfl, FP.zero, by rw [hr]; rfl, by rw [hr, hfz]; rfl, ⟨RowAt.nil _ _, RowAt.nil _ _, RowAt.nil _ _⟩, ?_⟩
      exact Y79.then X49 fun b hb => .inr (by have := X2.size; rcases hb with hb | hb <;> omega)
end
end Go.Proofs.Ytoempemllkebkaa
namespace Go.Proofs.Ytoempemllkebkaa
open Go Go.Mx Go.Proofs
open W (OwnB Rd numR countR doneR)
def encE (e : Ent) : List UInt8 := numL (bytesL e).length ++ bytesL e
def encV (v : List Hd) : List UInt8 := numL (vecL v).length ++ vecL v
def frP (x : Fr) : List UInt8 :=
  if x.kd = 1 then encE x.e else if x.kd = 4 then encE x.e ++ encE x.f else if x.kd = 3 then numL x.who.toNat ++ encV x.v ++ numL x.sg.toNat else numL x.who.toNat ++ encV x.v
def frL (x : Fr) : List UInt8 := numL x.kd.toNat ++ frP x
def frK (x : Fr) : List UInt8 × Int := if frOK x = false then ([], 1) else if (frL x).length > 4000 then ([], 3) else (frL x, 0)
structure Fr.fit (x : Fr) : Prop where
  e : x.e.fit
  f : x.f.fit
  v : ∀ h ∈ x.v, 0 ≤ h.2.2 ∧ h.2.2 < 18446744073709551616
  sg : 0 ≤ x.sg ∧ x.sg < 18446744073709551616
theorem ent_len {e : Ent} (h : Q0w e = true) : (bytesL e).length ≤ 1180 := by
  have := ((Q12 e).1 h).2.2.2.2.2.2.2.2.2.1
  have := Q3R e
  omega
theorem Q4p {e : Ent} (h : Q0w e = true) : (encE e).length ≤ 1190 := by
  have := ent_len h
  have := W.numL_le (bytesL e).length
  unfold encE; rw [List.length_append]; omega
theorem vec_len {v : List Hd} (h : rightV v = true) : (vecL v).length ≤ 250 := by
  have := Q2b h
  have h1 := W.numL_le v.length
  have h2 := hdsL_le v
  unfold vecL; rw [List.length_append]; omega
theorem frOK_kd {x : Fr} (h : frOK x = true) : x.kd = 1 ∨ x.kd = 2 ∨ x.kd = 3 ∨ x.kd = 4 := by
  unfold frOK at h
  by_cases h1 : x.kd = 1
  · exact .inl h1
  by_cases h2 : x.kd = 2
  · exact .inr (.inl h2)
  by_cases h3 : x.kd = 3
  · exact .inr (.inr (.inl h3))
  by_cases h4 : x.kd = 4
  · exact .inr (.inr (.inr h4))
  rw [if_neg h1, if_neg h2, if_neg h3, if_neg h4] at h; cases h
theorem frOK_e {x : Fr} (h : frOK x = true) (hk : x.kd = 1 ∨ x.kd = 4) : Q0w x.e = true := by
  unfold frOK at h
  rcases hk with hk | hk
  · rw [if_pos hk, Bool.and_eq_true] at h; exact h.1
  · rw [if_neg (by omega), if_neg (by omega), if_neg (by omega), if_pos hk, Bool.and_eq_true] at h; exact h.1
theorem frOK_f {x : Fr} (h : frOK x = true) (hk : x.kd = 4) : Q0w x.f = true := by
  unfold frOK at h
  rw [if_neg (by omega), if_neg (by omega), if_neg (by omega), if_pos hk, Bool.and_eq_true, Bool.and_eq_true] at h; exact h.2.1
theorem frOK_v {x : Fr} (h : frOK x = true) (hk : x.kd = 2 ∨ x.kd = 3) : 0 ≤ x.who ∧ x.who < 8 ∧ rightV x.v = true := by
  unfold frOK at h
  rcases hk with hk | hk
  · rw [if_neg (by omega), if_pos hk] at h
    simp only [Bool.and_eq_true, decide_eq_true_eq] at h
    exact ⟨h.2.2.1, h.2.2.2.1, h.2.2.2.2.1⟩
  · rw [if_neg (by omega), if_neg (by omega), if_pos hk] at h
    simp only [Bool.and_eq_true, decide_eq_true_eq] at h
    exact ⟨h.2.2.1, h.2.2.2.1, h.2.2.2.2⟩
theorem vnat {v : List Hd} (hf : ∀ h ∈ v, 0 ≤ h.2.2 ∧ h.2.2 < 18446744073709551616) : rightV v = true → ∀ h ∈ v, natH h := fun hr h hh => Q3K (Q0X hr h hh) (hf h hh)
theorem frOK_1 {x : Fr} (h : frOK x = true) (hk : x.kd = 1) : Q0w x.e = true ∧ x.f = Ent.zero ∧ x.who = 0 ∧ x.v = [] ∧ x.sg = 0 := by
  unfold frOK at h
  rw [if_pos hk] at h
  simp only [Bool.and_eq_true, decide_eq_true_eq] at h
  exact ⟨h.1, h.2.1, h.2.2.1, List.eq_nil_of_length_eq_zero h.2.2.2.1, h.2.2.2.2⟩
theorem frOK_2 {x : Fr} (h : frOK x = true) (hk : x.kd = 2) : x.e = Ent.zero ∧ x.f = Ent.zero ∧ 0 ≤ x.who ∧ x.who < 8 ∧ rightV x.v = true ∧ x.sg = 0 := by
  unfold frOK at h
  rw [if_neg (by omega), if_pos hk] at h
  simp only [Bool.and_eq_true, decide_eq_true_eq] at h
  exact h
theorem frOK_3 {x : Fr} (h : frOK x = true) (hk : x.kd = 3) : x.e = Ent.zero ∧ x.f = Ent.zero ∧ 0 ≤ x.who ∧ x.who < 8 ∧ rightV x.v = true := by
  unfold frOK at h
  rw [if_neg (by omega), if_neg (by omega), if_pos hk] at h
  simp only [Bool.and_eq_true, decide_eq_true_eq] at h
  exact h
theorem frOK_4 {x : Fr} (h : frOK x = true) (hk : x.kd = 4) : Q0w x.e = true ∧ Q0w x.f = true ∧ x.who = 0 ∧ x.v = [] ∧ x.sg = 0 := by
  unfold frOK at h
  rw [if_neg (by omega), if_neg (by omega), if_neg (by omega), if_pos hk] at h
  simp only [Bool.and_eq_true, decide_eq_true_eq] at h
  exact ⟨h.1, h.2.1, h.2.2.1, List.eq_nil_of_length_eq_zero h.2.2.2.1, h.2.2.2.2⟩
theorem Q1w {i : Nat} {c : List UInt8} {f : Fr} (h : (f.put (i, c)).2 = 0) : looks [(i, c)] f = ((f.put (i, c)).1, 0) := by
  unfold looks; rw [if_pos h]; rfl
theorem Q3V {c : Nat × List UInt8} {l : List (Nat × List UInt8)} {f : Fr} (h : (f.put c).2 = 0) : looks (c :: l) f = looks l (f.put c).1 := by
  rw [looks, if_pos h]
theorem Q4c {x : Fr} (hk : frOK x = true) (hf : x.fit) (r : List UInt8) :
    kdS x.kd.toNat (frP x ++ r, 0) = (r, 0) ∧ looks (kdL x.kd.toNat (frP x ++ r, 0)) (kdF x.kd.toNat { Fr.zero with kd := x.kd } (frP x ++ r, 0)) = (x, 0) := by
  have hkd := frOK_kd hk
  obtain ⟨kd, e, f, who, v, sg⟩ := x
  obtain ⟨fe, ff, fv, fs⟩ := hf
  simp only at fe ff fv fs hkd
  rcases hkd with h | h | h | h <;> subst h
  · obtain ⟨h1, h2, h3, h4, h5⟩ := frOK_1 hk rfl
    simp only at h1 h2 h3 h4 h5
    subst h2; subst h3; subst h4; subst h5
    have hl := ent_len h1
    have q := Q0O (x := bytesL e) (m := 4000) (by omega) (by omega) r
    have ep : frP ⟨1, e, Ent.zero, 0, [], 0⟩ ++ r = numL (bytesL e).length ++ (bytesL e ++ r) := by
      show (numL (bytesL e).length ++ bytesL e) ++ r = _
      rw [List.append_assoc]
    rw [ep]
    refine ⟨?_, ?_⟩
    · show (bytesR 4000 _).2 = _
      rw [q]
    · show looks [(0, (bytesR 4000 _).1)] ⟨1, Ent.zero, Ent.zero, 0, [], 0⟩ = _
      rw [q]
      have hr := Q1v h1 fe
      have hp : Fr.put ⟨1, Ent.zero, Ent.zero, 0, [], 0⟩ (0, bytesL e) = (⟨1, e, Ent.zero, 0, [], 0⟩, 0) := by
        show ((⟨1, (readE (bytesL e)).1, Ent.zero, 0, [], 0⟩ : Fr), (readE (bytesL e)).2) = _
        rw [hr]
      rw [Q1w (by show (Fr.put _ (0, bytesL e)).2 = 0; rw [hp]), hp]
  · obtain ⟨h1, h2, h3, h4, h5, h6⟩ := frOK_2 hk rfl
    simp only at h1 h2 h3 h4 h5 h6
    subst h1; subst h2; subst h6
    have hl := vec_len h5
    have q1 := W.countR_write (n := who.toNat) (m := 7) (by omega) (by omega) (numL (vecL v).length ++ (vecL v ++ r))
    have q := Q0O (x := vecL v) (m := 4000) (by omega) (by omega) r
    have ep : frP ⟨2, Ent.zero, Ent.zero, who, v, 0⟩ ++ r = numL who.toNat ++ (numL (vecL v).length ++ (vecL v ++ r)) := by
      show (numL who.toNat ++ (numL (vecL v).length ++ vecL v)) ++ r = _
      simp only [List.append_assoc]
    rw [ep]
    refine ⟨?_, ?_⟩
    · show (bytesR 4000 (countR 7 _).2).2 = _
      rw [q1, q]
    · show looks [(2, (bytesR 4000 (countR 7 _).2).1)] ⟨2, Ent.zero, Ent.zero, ((countR 7 _).1 : Nat), [], 0⟩ = _
      rw [q1, q]
      have hr := Q27 h5 fv
      have hp : Fr.put ⟨2, Ent.zero, Ent.zero, (who.toNat : Nat), [], 0⟩ (2, vecL v) = (⟨2, Ent.zero, Ent.zero, who, v, 0⟩, 0) := by
        show ((⟨2, Ent.zero, Ent.zero, (who.toNat : Nat), (readV (vecL v)).1, 0⟩ : Fr), (readV (vecL v)).2) = _
        rw [hr, Int.toNat_of_nonneg h3]
      rw [Q1w (by show (Fr.put _ (2, vecL v)).2 = 0; rw [hp]), hp]
  · obtain ⟨h1, h2, h3, h4, h5⟩ := frOK_3 hk rfl
    simp only at h1 h2 h3 h4 h5
    subst h1; subst h2
    have hl := vec_len h5
    have q1 := W.countR_write (n := who.toNat) (m := 7) (by omega) (by omega) (numL (vecL v).length ++ (vecL v ++ (numL sg.toNat ++ r)))
    have q := Q0O (x := vecL v) (m := 4000) (by omega) (by omega) (numL sg.toNat ++ r)
    have q3 := W.numR_write (n := sg.toNat) (by omega) r
    have ep : frP ⟨3, Ent.zero, Ent.zero, who, v, sg⟩ ++ r = numL who.toNat ++ (numL (vecL v).length ++ (vecL v ++ (numL sg.toNat ++ r))) := by
      show (numL who.toNat ++ (numL (vecL v).length ++ vecL v) ++ numL sg.toNat) ++ r = _
      simp only [List.append_assoc]
    rw [ep]
    refine ⟨?_, ?_⟩
    · show (numR (bytesR 4000 (countR 7 _).2).2).2 = _
      rw [q1, q, q3]
    · show looks [(2, (bytesR 4000 (countR 7 _).2).1)] ⟨3, Ent.zero, Ent.zero, ((countR 7 _).1 : Nat), [], ((numR (bytesR 4000 (countR 7 _).2).2).1 : Nat)⟩ = _
      rw [q1, q, q3]
      have hr := Q27 h5 fv
      have hp : Fr.put ⟨3, Ent.zero, Ent.zero, (who.toNat : Nat), [], (sg.toNat : Nat)⟩ (2, vecL v) = (⟨3, Ent.zero, Ent.zero, who, v, sg⟩, 0) := by
        show ((⟨3, Ent.zero, Ent.zero, (who.toNat : Nat), (readV (vecL v)).1, (sg.toNat : Nat)⟩ : Fr), (readV (vecL v)).2) = _
        rw [hr, Int.toNat_of_nonneg h3, Int.toNat_of_nonneg fs.1]
      rw [Q1w (by show (Fr.put _ (2, vecL v)).2 = 0; rw [hp]), hp]
  · obtain ⟨h1, h2, h3, h4, h5⟩ := frOK_4 hk rfl
    simp only at h1 h2 h3 h4 h5
    subst h3; subst h4; subst h5
    have hl := ent_len h1
    have hl2 := ent_len h2
    have q := Q0O (x := bytesL e) (m := 4000) (by omega) (by omega) (numL (bytesL f).length ++ (bytesL f ++ r))
    have q2 := Q0O (x := bytesL f) (m := 4000) (by omega) (by omega) r
    have ep : frP ⟨4, e, f, 0, [], 0⟩ ++ r = numL (bytesL e).length ++ (bytesL e ++ (numL (bytesL f).length ++ (bytesL f ++ r))) := by
      show ((numL (bytesL e).length ++ bytesL e) ++ (numL (bytesL f).length ++ bytesL f)) ++ r = _
      simp only [List.append_assoc]
    rw [ep]
    refine ⟨?_, ?_⟩
    · show (bytesR 4000 (bytesR 4000 _).2).2 = _
      rw [q, q2]
    · show looks [(0, (bytesR 4000 _).1), (1, (bytesR 4000 (bytesR 4000 _).2).1)] ⟨4, Ent.zero, Ent.zero, 0, [], 0⟩ = _
      rw [q, q2]
      have hr := Q1v h1 fe
      have hr2 := Q1v h2 ff
      have hp : Fr.put ⟨4, Ent.zero, Ent.zero, 0, [], 0⟩ (0, bytesL e) = (⟨4, e, Ent.zero, 0, [], 0⟩, 0) := by
        show ((⟨4, (readE (bytesL e)).1, Ent.zero, 0, [], 0⟩ : Fr), (readE (bytesL e)).2) = _
        rw [hr]
      have hp2 : Fr.put ⟨4, e, Ent.zero, 0, [], 0⟩ (1, bytesL f) = (⟨4, e, f, 0, [], 0⟩, 0) := by
        show ((⟨4, e, (readE (bytesL f)).1, 0, [], 0⟩ : Fr), (readE (bytesL f)).2) = _
        rw [hr2]
      rw [Q3V (by show (Fr.put _ (0, bytesL e)).2 = 0; rw [hp]), hp, Q1w (by show (Fr.put _ (1, bytesL f)).2 = 0; rw [hp2]), hp2]
theorem Q23 {x : Fr} (hk : frOK x = true) (hf : x.fit) (r : List UInt8) : readW (frL x ++ r) = if r.length > 0 then (Fr.zero, 4) else (x, 0) := by
  have hkd := frOK_kd hk
  have q : countR 4 (frL x ++ r, 0) = (x.kd.toNat, (frP x ++ r, 0)) := by
    unfold frL
    rw [List.append_assoc]
    exact W.countR_write (by omega) (by omega) _
  obtain ⟨k1, k2⟩ := Q4c hk hf r
  have hd : frDone (frL x ++ r) = doneR (r, 0) := by unfold frDone; rw [q]; simp only; rw [k1]
  have hL : frLooks (frL x ++ r) = (x, 0) := by
    unfold frLooks frStart
    rw [q]
    simp only
    rw [show ((x.kd.toNat : Nat) : Int) = x.kd by omega]
    exact k2
  unfold readW
  rw [hd, hL]
  by_cases h : r.length > 0
  · rw [if_pos h, show doneR (r, 0) = 4 by unfold doneR; rw [if_pos rfl, if_pos h]]; rfl
  · rw [if_neg h, show doneR (r, 0) = 0 by unfold doneR; rw [if_pos rfl, if_neg h], if_neg (fun h => h rfl), if_neg (fun h => h rfl), if_pos hk]
theorem Q4o : Ent.zero.fit := ⟨by decide, by decide, by decide, by decide⟩
theorem Q2T {x : Fr} (hk : frOK x = true) (hf : x.fit) (hl : (frL x).length ≤ 4000) : readFr (frL x) = (x, 0) := by
  unfold readFr
  rw [if_neg (by omega)]
  have := Q23 hk hf []
  rw [List.append_nil] at this
  rw [this]; rfl
theorem frL_inj {x y : Fr} (hx : frOK x = true) (hfx : x.fit) (hy : frOK y = true) (hfy : y.fit) (h : frL x = frL y) : x = y := by
  have e1 := Q23 hx hfx []
  have e2 := Q23 hy hfy []
  rw [h] at e1
  rw [e1] at e2
  exact (Prod.mk.inj e2).1
end Go.Proofs.Ytoempemllkebkaa
set_option maxRecDepth 100000
namespace Go.Proofs.Ytoempemllkebkaa
open Go Go.Mx Go.Proofs
abbrev Q0p.J1 (bt : Addr) (R : RW) (c2 : World) : Prop :=
 ∃ (b6 : Int), c2.cell? (bt.add 0) = some (.int .i64 b6) ∧
 Calls Try.prog 26 #[.slice none 0 0, .int .u64 (IntKind.u64.wrap b6)] c2 fun c7 an => ∃ (ab : Option Addr) (a9 aa : Nat), c7 = .returned (.slice ab a9 aa) ∧
 ∃ (b1 : Int), an.cell? (bt.add 0) = some (.int .i64 b1) ∧
 bif b1 == 1 then (
 ∃ (ae ap b4 bj bi ak : Int) (ag : Option Addr) (ah af : Nat) (be : Int), cellsAt an (bt.add 1) [.int .i64 ae, .int .i64 ap, .int .u64 b4, .int .i64 bj, .int .i64 bi, .int .i64 ak, .slice ag ah af, .int .u64 be] 0 ∧
 Calls Try.prog 27 #[.slice ab a9 aa, .agg #[.int .i64 ae, .int .i64 ap, .int .u64 b4, .int .i64 bj, .int .i64 bi, .int .i64 ak, .slice ag ah af, .int .u64 be]] an fun c8 c0 => ∃ (bm : Option Addr) (az bh : Nat), c8 = .returned (.slice bm az bh) ∧
 bif decide ((az : Int) > 4000) then (
 R (.tuple #[.slice none 0 0, .int .i64 3]) c0) else (
 R (.tuple #[.slice bm az bh, .int .i64 0]) c0)) else (
 bif b1 == 4 then (
 thenW (an.drew) fun bp =>
 ∃ (ad aj b3 b5 bn ai : Int) (ao : Option Addr) (al am : Nat) (ba : Int), cellsAt bp (bt.add 1) [.int .i64 ad, .int .i64 aj, .int .u64 b3, .int .i64 b5, .int .i64 bn, .int .i64 ai, .slice ao al am, .int .u64 ba] 0 ∧
 ∃ (a1 a3 ac b0 ay a7 : Int) (a2 : Option Addr) (a5 a4 : Nat) (aw : Int), cellsAt bp (bt.add 9) [.int .i64 a1, .int .i64 a3, .int .u64 ac, .int .i64 b0, .int .i64 ay, .int .i64 a7, .slice a2 a5 a4, .int .u64 aw] 0 ∧
 Calls Try.prog 27 #[.slice ab a9 aa, .agg #[.int .i64 ad, .int .i64 aj, .int .u64 b3, .int .i64 b5, .int .i64 bn, .int .i64 ai, .slice ao al am, .int .u64 ba]] bp fun cc bu => ∃ (bc : Option Addr) (b8 bb : Nat), cc = .returned (.slice bc b8 bb) ∧
 cellsAt bu (bt.add 9) [.int .i64 a1, .int .i64 a3, .int .u64 ac, .int .i64 b0, .int .i64 ay, .int .i64 a7, .slice a2 a5 a4, .int .u64 aw] 0 ∧
 Calls Try.prog 27 #[.slice bc b8 bb, .agg #[.int .i64 a1, .int .i64 a3, .int .u64 ac, .int .i64 b0, .int .i64 ay, .int .i64 a7, .slice a2 a5 a4, .int .u64 aw]] bu fun c4 bv => ∃ (bf : Option Addr) (av bd : Nat), c4 = .returned (.slice bf av bd) ∧
 bif decide ((av : Int) > 4000) then (
 R (.tuple #[.slice none 0 0, .int .i64 3]) bv) else (
 R (.tuple #[.slice bf av bd, .int .i64 0]) bv)) else (
 ∃ (bz : Option Addr) (bw c3 : Nat), an.cell? (bt.add 18) = some (.slice bz bw c3) ∧
 Calls Try.prog 28 #[.slice bz bw c3] an fun c5 bx => ∃ (ar : Option Addr) (au aq : Nat) (bq : Int), c5 = .returned (.tuple #[.slice ar au aq, .int .i64 bq]) ∧
 ∃ (br : Int), bx.cell? (bt.add 17) = some (.int .i64 br) ∧
 Calls Try.prog 26 #[.slice ab a9 aa, .int .u64 (IntKind.u64.wrap br)] bx fun c9 cb => ∃ (b9 : Option Addr) (bo bl : Nat), c9 = .returned (.slice b9 bo bl) ∧
 Calls Try.prog 29 #[.slice b9 bo bl, .slice ar au aq] cb fun ca b2 => ∃ (a8 : Option Addr) (a0 a6 : Nat), ca = .returned (.slice a8 a0 a6) ∧
 ∃ (bk : Int), b2.cell? (bt.add 0) = some (.int .i64 bk) ∧
 bif bk == 3 then (
 ∃ (bs : Int), b2.cell? (bt.add 19) = some (.int .u64 bs) ∧
 Calls Try.prog 26 #[.slice a8 a0 a6, .int .u64 bs] b2 fun c6 c1 => ∃ (b7 : Option Addr) (ax bg : Nat), c6 = .returned (.slice b7 ax bg) ∧
 bif decide ((ax : Int) > 4000) then (
 R (.tuple #[.slice none 0 0, .int .i64 3]) c1) else (
 R (.tuple #[.slice b7 ax bg, .int .i64 0]) c1)) else (
 bif decide ((a0 : Int) > 4000) then (
 R (.tuple #[.slice none 0 0, .int .i64 3]) b2) else (
 R (.tuple #[.slice a8 a0 a6, .int .i64 0]) b2))))

def Q0p.M (ba ap az b4 bb bc ay : Int) (b1 : Option Addr) (b2 ax : Nat) (bd ae aq aw b6 b3 an : Int) (ar : Option Addr) (ao au : Nat) (b5 bf : Int) (bi : Option Addr) (bj bk : Nat) (be : Int) (R : RW) (w : World) : Prop :=
 thenW (w.alloc (.cells #[.int .i64 ba, .int .i64 ap, .int .i64 az, .int .u64 b4, .int .i64 bb, .int .i64 bc, .int .i64 ay, .slice b1 b2 ax, .int .u64 bd, .int .i64 ae, .int .i64 aq, .int .u64 aw, .int .i64 b6, .int .i64 b3, .int .i64 an, .slice ar ao au, .int .u64 b5, .int .i64 bf, .slice bi bj bk, .int .u64 be] 38)) fun bh =>
 ∃ (ak a0 a2 ac ah af a6 : Int) (a3 : Option Addr) (a9 ab : Nat) (aj a1 a8 ad am al a5 : Int) (a7 : Option Addr) (aa a4 : Nat) (ai av : Int) (b9 : Option Addr) (b7 b8 : Nat) (b0 : Int), cellsAt bh (blk w.heap.size) [.int .i64 ak, .int .i64 a0, .int .i64 a2, .int .u64 ac, .int .i64 ah, .int .i64 af, .int .i64 a6, .slice a3 a9 ab, .int .u64 aj, .int .i64 a1, .int .i64 a8, .int .u64 ad, .int .i64 am, .int .i64 al, .int .i64 a5, .slice a7 aa a4, .int .u64 ai, .int .i64 av, .slice b9 b7 b8, .int .u64 b0] 0 ∧
 Calls Try.prog 16 #[.agg #[.int .i64 ak, .int .i64 a0, .int .i64 a2, .int .u64 ac, .int .i64 ah, .int .i64 af, .int .i64 a6, .slice a3 a9 ab, .int .u64 aj, .int .i64 a1, .int .i64 a8, .int .u64 ad, .int .i64 am, .int .i64 al, .int .i64 a5, .slice a7 aa a4, .int .u64 ai, .int .i64 av, .slice b9 b7 b8, .int .u64 b0]] bh fun bl bg => ∃ (ag : Bool), bl = .returned (.bool ag) ∧
 bif !ag then (
 R (.tuple #[.slice none 0 0, .int .i64 1]) bg) else (
 Q0p.J1 (blk w.heap.size) R bg)

theorem Q0p.ok (ah a4 a9 af ai am a8 : Int) (aa : Option Addr) (ab a7 : Nat) (aj a0 a5 ac ag ae a2 : Int) (a6 : Option Addr) (a3 a1 : Nat) (ad al : Int) (an : Option Addr) (ao ap : Nat) (ak : Int) {R : RW} {w : World} (h : Q0p.M ah a4 a9 af ai am a8 aa ab a7 aj a0 a5 ac ag ae a2 a6 a3 a1 ad al an ao ap ak R w) : Calls Try.prog 9 #[.agg #[.int .i64 ah, .int .i64 a4, .int .i64 a9, .int .u64 af, .int .i64 ai, .int .i64 am, .int .i64 a8, .slice aa ab a7, .int .u64 aj, .int .i64 a0, .int .i64 a5, .int .u64 ac, .int .i64 ag, .int .i64 ae, .int .i64 a2, .slice a6 a3 a1, .int .u64 ad, .int .i64 al, .slice an ao ap, .int .u64 ak]] w fun e w' => ∃ v, e = .returned v ∧ R v w' :=
  Q0b follows (H := []) (args := [.agg #[.int .i64 ah, .int .i64 a4, .int .i64 a9, .int .u64 af, .int .i64 ai, .int .i64 am, .int .i64 a8, .slice aa ab a7, .int .u64 aj, .int .i64 a0, .int .i64 a5, .int .u64 ac, .int .i64 ag, .int .i64 ae, .int .i64 a2, .slice a6 a3 a1, .int .u64 ad, .int .i64 al, .slice an ao ap, .int .u64 ak]]) (cast (by kernel_rfl) h)

def Q0p.N (a0 a2 a6 an au aw a5 : Int) (a9 : Option Addr) (aa a3 : Nat) (av a8 ae aq ay az ac : Int) (af : Option Addr) (ad ab : Nat) (ax bd : Int) (bj : Option Addr) (bk bl : Nat) (b5 : Int) (R : RW) (w : World) : Prop :=
 ∀ (bf : World) (bn : Nat), Ext no w bf → Priv w bf [bn] →
 Calls Try.prog 16 #[.agg #[.int .i64 a0, .int .i64 a2, .int .i64 a6, .int .u64 an, .int .i64 au, .int .i64 aw, .int .i64 a5, .slice a9 aa a3, .int .u64 av, .int .i64 a8, .int .i64 ae, .int .u64 aq, .int .i64 ay, .int .i64 az, .int .i64 ac, .slice af ad ab, .int .u64 ax, .int .i64 bd, .slice bj bk bl, .int .u64 b5]] bf fun bz bi => ∃ (ak : Bool), bz = .returned (.bool ak) ∧
 Keep [bn] bf bi ∧
 (ak = false →
 R (.tuple #[.slice none 0 0, .int .i64 1]) bi) ∧
 (ak = true →
 Calls Try.prog 26 #[.slice none 0 0, .int .u64 (IntKind.u64.wrap a0)] bi fun bu bb => ∃ (ah : Option Addr) (ag al : Nat), bu = .returned (.slice ah ag al) ∧
 Keep [bn] bi bb ∧
 (a0 = 1 →
 Calls Try.prog 27 #[.slice ah ag al, .agg #[.int .i64 a2, .int .i64 a6, .int .u64 an, .int .i64 au, .int .i64 aw, .int .i64 a5, .slice a9 aa a3, .int .u64 av]] bb fun c3 br => ∃ (b6 : Option Addr) (aj b4 : Nat), c3 = .returned (.slice b6 aj b4) ∧
 ((aj : Int) > 4000 →
 R (.tuple #[.slice none 0 0, .int .i64 3]) br) ∧
 ((aj : Int) ≤ 4000 →
 R (.tuple #[.slice b6 aj b4, .int .i64 0]) br)) ∧
 (a0 ≠ 1 →
 (a0 = 4 →
 ∀ (bp : World), Ext no bb bp →
 Calls Try.prog 27 #[.slice ah ag al, .agg #[.int .i64 a2, .int .i64 a6, .int .u64 an, .int .i64 au, .int .i64 aw, .int .i64 a5, .slice a9 aa a3, .int .u64 av]] bp fun bw bt => ∃ (ba : Option Addr) (b9 b7 : Nat), bw = .returned (.slice ba b9 b7) ∧
 Keep [bn] bp bt ∧
 Calls Try.prog 27 #[.slice ba b9 b7, .agg #[.int .i64 a8, .int .i64 ae, .int .u64 aq, .int .i64 ay, .int .i64 az, .int .i64 ac, .slice af ad ab, .int .u64 ax]] bt fun c0 bq => ∃ (b8 : Option Addr) (ai b0 : Nat), c0 = .returned (.slice b8 ai b0) ∧
 ((ai : Int) > 4000 →
 R (.tuple #[.slice none 0 0, .int .i64 3]) bq) ∧
 ((ai : Int) ≤ 4000 →
 R (.tuple #[.slice b8 ai b0, .int .i64 0]) bq)) ∧
 (a0 ≠ 4 →
 Calls Try.prog 28 #[.slice bj bk bl] bb fun c2 bm => ∃ (ao : Option Addr) (ar ap : Nat) (bh : Int), c2 = .returned (.tuple #[.slice ao ar ap, .int .i64 bh]) ∧
 Keep [bn] bb bm ∧
 Calls Try.prog 26 #[.slice ah ag al, .int .u64 (IntKind.u64.wrap bd)] bm fun bx bo => ∃ (be : Option Addr) (b2 bc : Nat), bx = .returned (.slice be b2 bc) ∧
 Keep [bn] bm bo ∧
 Calls Try.prog 29 #[.slice be b2 bc, .slice ao ar ap] bo fun bv bg => ∃ (a7 : Option Addr) (a1 a4 : Nat), bv = .returned (.slice a7 a1 a4) ∧
 Keep [bn] bo bg ∧
 (a0 = 3 →
 Calls Try.prog 26 #[.slice a7 a1 a4, .int .u64 b5] bg fun c1 bs => ∃ (b1 : Option Addr) (am b3 : Nat), c1 = .returned (.slice b1 am b3) ∧
 ((am : Int) > 4000 →
 R (.tuple #[.slice none 0 0, .int .i64 3]) bs) ∧
 ((am : Int) ≤ 4000 →
 R (.tuple #[.slice b1 am b3, .int .i64 0]) bs)) ∧
 (a0 ≠ 3 →
 ((a1 : Int) > 4000 →
 R (.tuple #[.slice none 0 0, .int .i64 3]) bg) ∧
 ((a1 : Int) ≤ 4000 →
 R (.tuple #[.slice a7 a1 a4, .int .i64 0]) bg)))))

theorem Q0p.up (af a1 a3 ae ak al a5 : Int) (a6 : Option Addr) (a7 a4 : Nat) (aj a2 aa ad ai ag a8 : Int) (ac : Option Addr) (ab a9 : Nat) (ah am : Int) (ao : Option Addr) (ap aq : Nat) (an : Int) {R : RW} {w : World} (h : Q0p.N af a1 a3 ae ak al a5 a6 a7 a4 aj a2 aa ad ai ag a8 ac ab a9 ah am ao ap aq an R w) : Q0p.M af a1 a3 ae ak al a5 a6 a7 a4 aj a2 aa ad ai ag a8 ac ab a9 ah am ao ap aq an R w := by
  unfold Q0p.M
  unfold Q0p.N at h
  refine Q00 fun bk bx => ?_
  have a0 := Blk.of_new bx
  have cf := ((Ext.refl no w)).size
  have bp := (Ext.refl no w).x_alloc bx
  refine ⟨af, a1, a3, ae, ak, al, a5, a6, a7, a4, aj, a2, aa, ad, ai, ag, a8, ac, ab, a9, ah, am, ao, ap, aq, an, ⟨a0.celli 0 rfl rfl, a0.celli 1 rfl rfl, a0.celli 2 rfl rfl, a0.celli 3 rfl rfl, a0.celli 4 rfl rfl, a0.celli 5 rfl rfl, a0.celli 6 rfl rfl, a0.celli 7 rfl rfl, a0.celli 8 rfl rfl, a0.celli 9 rfl rfl, a0.celli 10 rfl rfl, a0.celli 11 rfl rfl, a0.celli 12 rfl rfl, a0.celli 13 rfl rfl, a0.celli 14 rfl rfl, a0.celli 15 rfl rfl, a0.celli 16 rfl rfl, a0.celli 17 rfl rfl, a0.celli 18 rfl rfl, a0.celli 19 rfl rfl, trivial⟩, ?_⟩
  have h := h bk (w.heap.size) bp (Priv.cons cf a0.lt Priv.nil)
  refine h.mono fun c4 ca h => ?_
  obtain ⟨az, he, hk, h⟩ := h
  refine ⟨az, he, ?_⟩
  have a0 := hk.blk a0 (by simp)
  refine bif_of (fun bn => ?_) (fun bn => ?_)
  ·have h := h.1 (not_t bn)
   exact h
  have h := h.2 (not_f bn)
  first | unfold Q0p.J1 | skip
  refine ⟨af, a0.celli 0 rfl rfl, ?_⟩
  refine h.mono fun c7 bl h => ?_
  obtain ⟨b9, b5, bc, he, hk, h⟩ := h
  refine ⟨b9, b5, bc, he, ?_⟩
  have a0 := hk.blk a0 (by simp)
  refine ⟨af, a0.celli 0 rfl rfl, ?_⟩
  refine bif_of (fun br => ?_) (fun br => ?_)
  ·have h := h.1 (beq_t br)
   refine ⟨a1, a3, ae, ak, al, a5, a6, a7, a4, aj, ⟨a0.celli 1 rfl rfl, a0.celli 2 rfl rfl, a0.celli 3 rfl rfl, a0.celli 4 rfl rfl, a0.celli 5 rfl rfl, a0.celli 6 rfl rfl, a0.celli 7 rfl rfl, a0.celli 8 rfl rfl, trivial⟩, ?_⟩
   refine h.mono fun cc c2 h => ?_
   obtain ⟨ba, b3, bh, he, h⟩ := h
   refine ⟨ba, b3, bh, he, ?_⟩
   refine bif_of (fun bu => ?_) (fun bu => ?_)
   ·have h := h.1 (of_decide_eq_true bu)
    exact h
   have h := h.2 (Int.not_lt.1 (of_decide_eq_false bu))
   exact h
  have h := h.2 (beq_f br)
  refine bif_of (fun bs => ?_) (fun bs => ?_)
  ·have h := h.1 (beq_t bs)
   refine Q00 fun bq bw => ?_
   have bt := (Ext.refl no bl).x_drew bw
   have a0 := a0.x_drew bw
   refine ⟨a1, a3, ae, ak, al, a5, a6, a7, a4, aj, ⟨a0.celli 1 rfl rfl, a0.celli 2 rfl rfl, a0.celli 3 rfl rfl, a0.celli 4 rfl rfl, a0.celli 5 rfl rfl, a0.celli 6 rfl rfl, a0.celli 7 rfl rfl, a0.celli 8 rfl rfl, trivial⟩, ?_⟩
   refine ⟨a2, aa, ad, ai, ag, a8, ac, ab, a9, ah, ⟨a0.celli 9 rfl rfl, a0.celli 10 rfl rfl, a0.celli 11 rfl rfl, a0.celli 12 rfl rfl, a0.celli 13 rfl rfl, a0.celli 14 rfl rfl, a0.celli 15 rfl rfl, a0.celli 16 rfl rfl, trivial⟩, ?_⟩
   have h := h bq bt
   refine h.mono fun bz cg h => ?_
   obtain ⟨bd, b7, bb, he, hk, h⟩ := h
   refine ⟨bd, b7, bb, he, ?_⟩
   have a0 := hk.blk a0 (by simp)
   refine ⟨⟨a0.celli 9 rfl rfl, a0.celli 10 rfl rfl, a0.celli 11 rfl rfl, a0.celli 12 rfl rfl, a0.celli 13 rfl rfl, a0.celli 14 rfl rfl, a0.celli 15 rfl rfl, a0.celli 16 rfl rfl, trivial⟩, ?_⟩
   refine h.mono fun c0 c8 h => ?_
   obtain ⟨bi, b2, b8, he, h⟩ := h
   refine ⟨bi, b2, b8, he, ?_⟩
   refine bif_of (fun bo => ?_) (fun bo => ?_)
   ·have h := h.1 (of_decide_eq_true bo)
    exact h
   have h := h.2 (Int.not_lt.1 (of_decide_eq_false bo))
   exact h
  have h := h.2 (beq_f bs)
  refine ⟨ao, ap, aq, a0.celli 18 rfl rfl, ?_⟩
  refine h.mono fun c5 c3 h => ?_
  obtain ⟨ay, aw, ar, b0, he, hk, h⟩ := h
  refine ⟨ay, aw, ar, b0, he, ?_⟩
  have a0 := hk.blk a0 (by simp)
  refine ⟨am, a0.celli 17 rfl rfl, ?_⟩
  refine h.mono fun ce c1 h => ?_
  obtain ⟨bf, bg, be, he, hk, h⟩ := h
  refine ⟨bf, bg, be, he, ?_⟩
  have a0 := hk.blk a0 (by simp)
  refine h.mono fun cd c6 h => ?_
  obtain ⟨ax, au, av, he, hk, h⟩ := h
  refine ⟨ax, au, av, he, ?_⟩
  have a0 := hk.blk a0 (by simp)
  refine ⟨af, a0.celli 0 rfl rfl, ?_⟩
  refine bif_fo (fun bv => ?_) (fun bv => ?_)
  ·have h := h.2 (beq_f bv)
   refine bif_of (fun bj => ?_) (fun bj => ?_)
   ·have h := h.1 (of_decide_eq_true bj)
    exact h
   have h := h.2 (Int.not_lt.1 (of_decide_eq_false bj))
   exact h
  have h := h.1 (beq_t bv)
  refine ⟨an, a0.celli 19 rfl rfl, ?_⟩
  refine h.mono fun c9 cb h => ?_
  obtain ⟨b1, b4, b6, he, h⟩ := h
  refine ⟨b1, b4, b6, he, ?_⟩
  refine bif_of (fun bm => ?_) (fun bm => ?_)
  ·have h := h.1 (of_decide_eq_true bm)
   exact h
  have h := h.2 (Int.not_lt.1 (of_decide_eq_false bm))
  exact h

theorem Q0p.go (ah a4 a9 af ai am a8 : Int) (aa : Option Addr) (ab a7 : Nat) (aj a0 a5 ac ag ae a2 : Int) (a6 : Option Addr) (a3 a1 : Nat) (ad al : Int) (an : Option Addr) (ao ap : Nat) (ak : Int) {R : RW} {w : World} (h : Q0p.N ah a4 a9 af ai am a8 aa ab a7 aj a0 a5 ac ag ae a2 a6 a3 a1 ad al an ao ap ak R w) : Calls Try.prog 9 #[.agg #[.int .i64 ah, .int .i64 a4, .int .i64 a9, .int .u64 af, .int .i64 ai, .int .i64 am, .int .i64 a8, .slice aa ab a7, .int .u64 aj, .int .i64 a0, .int .i64 a5, .int .u64 ac, .int .i64 ag, .int .i64 ae, .int .i64 a2, .slice a6 a3 a1, .int .u64 ad, .int .i64 al, .slice an ao ap, .int .u64 ak]] w fun e w' => ∃ v, e = .returned v ∧ R v w' := Q0p.ok ah a4 a9 af ai am a8 aa ab a7 aj a0 a5 ac ag ae a2 a6 a3 a1 ad al an ao ap ak (Q0p.up ah a4 a9 af ai am a8 aa ab a7 aj a0 a5 ac ag ae a2 a6 a3 a1 ad al an ao ap ak h)
end Go.Proofs.Ytoempemllkebkaa
set_option maxRecDepth 20000
namespace Go.Proofs.Ytoempemllkebkaa
open Go Go.Mx Go.Proofs
open W (OwnB Rd numR countR doneR)
section
variable {w w' : World} {x y : FP} {e f : Ent} {a ba : Option Addr} {c bc : Nat} {bs : List UInt8}
theorem Q2D (h : RowAt w a (bytesV bs)) (hl : bs.length ≤ 100000) (hr : Q0w e = true) (hf : e.fit) (hb : RowAt w ba (bytesV e.body)) :
    Calls Try.prog 27 #[.slice a bs.length c, entV e ba bc] w (fun x w' => ∃ a' c', x = .returned (.slice a' (bs ++ encE e).length c') ∧ OwnB w.heap.size w' a' c' (bs ++ encE e) ∧ Ext no w w') := by
  refine (Q0J.go a bs.length c e.w e.i e.pv e.t e.tw e.ep ba e.body.length bc e.sg (R := fun v w' => ∃ a' c', v = (.slice a' (bs ++ encE e).length c') ∧ OwnB w.heap.size w' a' c' (bs ++ encE e) ∧ Ext no w w') ?_).mono fun x w' ⟨v, he, a, c, hv, hw⟩ => ⟨a, c, by rw [he, hv], hw⟩
  unfold Q0J.N
  intro w10 X10
  refine (Q2V (fun _ => hf) (hb.no X10)).mono fun x w15 ⟨X15, hor⟩ => ?_
  rcases hor with ⟨hn, _⟩ | ⟨_, a1, c1, he, hO⟩
  · rw [hr] at hn; cases hn
  refine ⟨a1, _, c1, _, he, ?_⟩
  have X := X10.trans X15
  have hel := ent_len hr
  refine (W.Bytes_spec (h.no X) (by omega) hO.row (by omega)).mono fun x w18 ⟨a2, c2, he, hO2, X18⟩ => ⟨a2, _, c2, he, a2, c2, ?_, ?_, X.trans X18⟩
  · unfold encE; rw [List.append_assoc]
  · unfold encE; rw [← List.append_assoc]; exact OwnB.up hO2 X.size
theorem Q3t {z : Fr} (hz : x.r = z) (h : x.at w) (hf : x.r.fit) (hl : x.r.v.length ≤ 1000) :
    Calls Try.prog 9 #[x.V] w (fun u w' => ∃ a c, u = .returned (.tuple #[.slice a (frK z).1.length c, .int .i64 (frK z).2]) ∧ OwnB w.heap.size w' a c (frK z).1 ∧ Ext no w w') := by
  obtain ⟨⟨kd, e, f, who, v, sg⟩, ea, ec, fa, fc, va, vc⟩ := x
  have hx : Fr.mk kd e f who v sg = z := hz
  obtain ⟨he, hf1, hv⟩ := id h
  obtain ⟨fe, ff, fv, fs⟩ := hf
  have he : RowAt w ea (bytesV e.body) := he
  have hf1 : RowAt w fa (bytesV f.body) := hf1
  have hv : RowAt w va (hsC v) := hv
  have fe : e.fit := fe
  have ff : f.fit := ff
  have fv : ∀ h ∈ v, 0 ≤ h.2.2 ∧ h.2.2 < 18446744073709551616 := fv
  have fs : 0 ≤ sg ∧ sg < 18446744073709551616 := fs
  have hl : v.length ≤ 1000 := hl
  have hR : ∀ {l : List UInt8} {a : Option Addr} {c : Nat} {w2 : World}, frOK z = true → l = frL z → OwnB w.heap.size w2 a c l → Ext no w w2 →
      (((l.length : Int) > 4000 → (∃ a c, (.tuple #[.slice none 0 0, .int .i64 3] : Value) = (.tuple #[.slice a (frK z).1.length c, .int .i64 (frK z).2]) ∧ OwnB w.heap.size w2 a c (frK z).1 ∧ Ext no w w2)) ∧
       ((l.length : Int) ≤ 4000 → (∃ a' c', (.tuple #[.slice a l.length c, .int .i64 0] : Value) = (.tuple #[.slice a' (frK z).1.length c', .int .i64 (frK z).2]) ∧ OwnB w.heap.size w2 a' c' (frK z).1 ∧ Ext no w w2))) := fun {l a c w2} hk hl hO X => by
    subst hl
    refine ⟨fun hg => ?_, fun hg => ?_⟩
    · have e : frK z = ([], 3) := by unfold frK; rw [hk, if_neg (by decide), if_pos (by omega)]
      rw [e]; exact ⟨none, 0, rfl, OwnB.nil _ _, X⟩
    · have e : frK z = (frL z, 0) := by unfold frK; rw [hk, if_neg (by decide), if_neg (by omega)]
      rw [e]; exact ⟨a, c, rfl, hO, X⟩
  refine (Q0p.go kd e.w e.i e.pv e.t e.tw e.ep ea e.body.length ec e.sg f.w f.i f.pv f.t f.tw f.ep fa f.body.length fc f.sg who va v.length vc sg (R := fun u w' => ∃ a c, u = (.tuple #[.slice a (frK z).1.length c, .int .i64 (frK z).2]) ∧ OwnB w.heap.size w' a c (frK z).1 ∧ Ext no w w') ?_).mono fun u w' ⟨v, he, a, c, hv, hw⟩ => ⟨a, c, by rw [he, hv], hw⟩
  unfold Q0p.N
  intro w21 p22 X21 hp
  have at21 := h.no X21
  refine (Q2e at21 (by show v.length < 1000000; omega)).mono fun u w25 ⟨hu, X25⟩ => ⟨_, hu, X25.kept, fun hk => ?_, fun hk => ?_⟩
  · have hk : frOK ⟨kd, e, f, who, v, sg⟩ = false := hk
    rw [hx] at hk
    have ek : frK z = ([], 1) := by unfold frK; rw [if_pos hk]
    rw [ek]; exact ⟨none, 0, rfl, OwnB.nil _ _, X21.trans X25⟩
  have hk : frOK ⟨kd, e, f, who, v, sg⟩ = true := hk
  have hkd := frOK_kd hk
  simp only at hkd
  have hle := fun h => frOK_e hk h
  have hlf := fun h => frOK_f hk h
  have hlv := fun h => frOK_v hk h
  simp only at hle hlf hlv
  have Y25 := X21.trans X25
  rw [wu64 (n := kd) (by omega) (by omega)]
  have ekd : kd = ((kd.toNat : Nat) : Int) := by omega
  have key : ∀ {K : Int}, K = kd → Calls Try.prog 26 #[.slice none 0 0, .int .u64 K] w25 (fun e w' => ∃ a' c', e = .returned (.slice a' (numL kd.toNat).length c') ∧ OwnB w25.heap.size w' a' c' (numL kd.toNat) ∧ Ext no w25 w') := fun {K} hK => by
    rw [hK, ekd]
    exact W.Num_spec (bs := []) (c := 0) (RowAt.nil _ _) (by simp) (n := kd.toNat) (by omega)
  refine (key rfl).mono fun u w29 ⟨a1, c1, hu, hO1, X29⟩ => ⟨a1, _, c1, hu, X29.kept, fun k1 => ?_, fun k1 => ⟨fun k4 w36 X36 => ?_, fun k4 => ?_⟩⟩
  all_goals have Y29 := Y25.trans X29
  all_goals have n1 := W.numL_le kd.toNat
  · have hre := hle (.inl k1)
    refine (Q2D (e := e) hO1.row (by omega) hre fe (he.no Y29)).mono fun u w33 ⟨a2, c2, hu, hO2, X33⟩ => ⟨a2, _, c2, hu, ?_⟩
    exact hR (hx ▸ hk) (by rw [← hx]; unfold frL frP; rw [if_pos k1]) (OwnB.up hO2 Y29.size) (Y29.trans X33)
  · have hre := hle (.inr k4)
    have hrf := hlf k4
    have Y36 := Y29.trans X36
    refine (Q2D (e := e) (hO1.row.no X36) (by omega) hre fe (he.no Y36)).mono fun u w39 ⟨a2, c2, hu, hO2, X39⟩ => ⟨a2, _, c2, hu, X39.kept, ?_⟩
    have Y39 := Y36.trans X39
    have l2 := Q4p hre
    refine (Q2D (e := f) hO2.row (by rw [List.length_append]; omega) hrf ff (hf1.no Y39)).mono fun u w42 ⟨a3, c3, hu, hO3, X42⟩ => ⟨a3, _, c3, hu, ?_⟩
    exact hR (hx ▸ hk) (by rw [← hx]; unfold frL frP; rw [if_neg k1, if_pos k4, List.append_assoc]) (OwnB.up hO3 Y39.size) (Y39.trans X42)
  · obtain ⟨w0, w8, hrv⟩ := hlv (by omega)
    have ewho : who = ((who.toNat : Nat) : Int) := by omega
    refine (Q2Y (hv.no Y29) hl (vnat fv)).mono fun u w47 ⟨X47, hor⟩ => ?_
    rcases hor with ⟨hn, _⟩ | ⟨_, a2, c2, hu, hO2⟩
    · rw [hrv] at hn; cases hn
    refine ⟨a2, _, c2, _, hu, X47.kept, ?_⟩
    rw [wu64 (n := who) (by omega) (by omega)]
    have key2 : ∀ {K : Int}, K = who → Calls Try.prog 26 #[.slice a1 (numL kd.toNat).length c1, .int .u64 K] w47 (fun e w' => ∃ a' c', e = .returned (.slice a' (numL kd.toNat ++ numL who.toNat).length c') ∧ OwnB w47.heap.size w' a' c' (numL kd.toNat ++ numL who.toNat) ∧ Ext no w47 w') := fun {K} hK => by
      rw [hK, ewho]
      exact W.Num_spec (hO1.row.no X47) (by omega) (n := who.toNat) (by omega)
    have n2 := W.numL_le who.toNat
    have n3 := vec_len hrv
    have Y47 := Y29.trans X47
    refine (key2 rfl).mono fun u w50 ⟨a3, c3, hu, hO3, X50⟩ => ⟨a3, _, c3, hu, X50.kept, ?_⟩
    have Y50 := Y47.trans X50
    refine (W.Bytes_spec hO3.row (by rw [List.length_append]; omega) (hO2.row.no X50) (by omega)).mono fun u w53 ⟨a4, c4, hu, hO4, X53⟩ => ⟨a4, _, c4, hu, X53.kept, fun k3 => ?_, fun k3 => ?_⟩
    all_goals have Y53 := Y50.trans X53
    · have n4 := W.numL_le (vecL v).length
      have esg : sg = ((sg.toNat : Nat) : Int) := by omega
      have key3 : ∀ {K : Int}, K = sg → Calls Try.prog 26 #[.slice a4 (numL kd.toNat ++ numL who.toNat ++ numL (vecL v).length ++ vecL v).length c4, .int .u64 K] w53 (fun e w' => ∃ a' c', e = .returned (.slice a' (numL kd.toNat ++ numL who.toNat ++ numL (vecL v).length ++ vecL v ++ numL sg.toNat).length c') ∧ OwnB w53.heap.size w' a' c' (numL kd.toNat ++ numL who.toNat ++ numL (vecL v).length ++ vecL v ++ numL sg.toNat) ∧ Ext no w53 w') := fun {K} hK => by
        rw [hK, esg]
        exact W.Num_spec hO4.row (by simp only [List.length_append]; omega) (n := sg.toNat) (by omega)
      refine (key3 rfl).mono fun u w57 ⟨a5, c5, hu, hO5, X57⟩ => ⟨a5, _, c5, hu, ?_⟩
      exact hR (hx ▸ hk) (by rw [← hx]; unfold frL frP encV; rw [if_neg k1, if_neg k4, if_pos k3]; simp only [List.append_assoc]) (OwnB.up hO5 Y53.size) (Y53.trans X57)
    · exact hR (hx ▸ hk) (by rw [← hx]; unfold frL frP encV; rw [if_neg k1, if_neg k4, if_neg k3]; simp only [List.append_assoc]) (OwnB.up hO4 Y50.size) Y53
theorem Q1d (h : x.at w) (hf : x.r.fit) (hl : x.r.v.length ≤ 1000) :
    Calls Try.prog 9 #[x.V] w (fun u w' => ∃ a c, u = .returned (.tuple #[.slice a (frK x.r).1.length c, .int .i64 (frK x.r).2]) ∧ OwnB w.heap.size w' a c (frK x.r).1 ∧ Ext no w w') := Q3t rfl h hf hl
end
end Go.Proofs.Ytoempemllkebkaa
set_option maxRecDepth 100000
namespace Go.Proofs.Ytoempemllkebkaa
open Go Go.Mx Go.Proofs
def Q0a.M  (R : RW) (w : World) : Prop :=
 thenW (w.alloc (.cells #[.int .u8 97] 5)) fun ct =>
 ∃ (co : Option Addr) (cn cq : Nat) (ck : World), (convert 25 25 (.slice (some (blk w.heap.size)) 1 1)).run Try.prog ct = .ok (.slice co cn cq) ck ∧
 thenW (ck.alloc (.cells #[.slice co cn cq, .slice none 0 0] 25)) fun cu =>
 Calls Try.prog 21 #[.slice (some (blk ck.heap.size)) 2 2] cu fun cs cp => ∃ (bl : Option Addr) (bi br : Nat) (c0 : Int), cs = .returned (.tuple #[.slice bl bi br, .int .i64 c0]) ∧
 thenW (cp.alloc (.cells #[.int .u8 120] 5)) fun cr =>
 ∃ (c6 : Option Addr) (c4 c9 : Nat) (bt : World), (convert 25 25 (.slice (some (blk cp.heap.size)) 1 1)).run Try.prog cr = .ok (.slice c6 c4 c9) bt ∧
 thenW (bt.alloc (.cells #[.int .i64 0, .int .i64 0, .int .u64 0, .int .i64 0, .int .i64 0, .int .i64 0, .slice none 0 0, .int .u64 0] 27)) fun cd =>
 putsK cd (blk bt.heap.size) [.int .i64 1, .int .i64 0, .int .u64 0, .int .i64 5, .int .i64 1, .int .i64 0, .slice c6 c4 c9, .int .u64 9] 0 fun cb =>
 ∃ (a3 ac b0 bh bo a8 : Int) (a5 : Option Addr) (ax ab : Nat) (bj : Int), cellsAt cb (blk bt.heap.size) [.int .i64 a3, .int .i64 ac, .int .u64 b0, .int .i64 bh, .int .i64 bo, .int .i64 a8, .slice a5 ax ab, .int .u64 bj] 0 ∧
 Calls Try.prog 20 #[.agg #[.int .i64 a3, .int .i64 ac, .int .u64 b0, .int .i64 bh, .int .i64 bo, .int .i64 a8, .slice a5 ax ab, .int .u64 bj]] cb fun cm ce => ∃ (bq a4 ay b5 b9 bd an : Int) (aj : Option Addr) (ak ag : Nat) (bf a2 ai b2 b6 bn ae : Int) (af : Option Addr) (ah ar : Nat) (bm bz : Int) (ca : Option Addr) (c7 c3 : Nat) (c1 : Int), cm = .returned (.agg #[.int .i64 bq, .int .i64 a4, .int .i64 ay, .int .u64 b5, .int .i64 b9, .int .i64 bd, .int .i64 an, .slice aj ak ag, .int .u64 bf, .int .i64 a2, .int .i64 ai, .int .u64 b2, .int .i64 b6, .int .i64 bn, .int .i64 ae, .slice af ah ar, .int .u64 bm, .int .i64 bz, .slice ca c7 c3, .int .u64 c1]) ∧
 Calls Try.prog 9 #[.agg #[.int .i64 bq, .int .i64 a4, .int .i64 ay, .int .u64 b5, .int .i64 b9, .int .i64 bd, .int .i64 an, .slice aj ak ag, .int .u64 bf, .int .i64 a2, .int .i64 ai, .int .u64 b2, .int .i64 b6, .int .i64 bn, .int .i64 ae, .slice af ah ar, .int .u64 bm, .int .i64 bz, .slice ca c7 c3, .int .u64 c1]] ce fun ci cg => ∃ (aw : Option Addr) (au aa : Nat) (b1 : Int), ci = .returned (.tuple #[.slice aw au aa, .int .i64 b1]) ∧
 Calls Try.prog 13 #[.slice aw au aa] cg fun cf bu => ∃ (ba a1 al b3 b8 be a6 : Int) (ap : Option Addr) (aq a7 : Nat) (b7 a0 am b4 bk bb ao : Int) (av : Option Addr) (a9 ad : Nat) (bg bw : Int) (cc : Option Addr) (c8 c5 : Nat) (bv bp : Int), cf = .returned (.tuple #[.agg #[.int .i64 ba, .int .i64 a1, .int .i64 al, .int .u64 b3, .int .i64 b8, .int .i64 be, .int .i64 a6, .slice ap aq a7, .int .u64 b7, .int .i64 a0, .int .i64 am, .int .u64 b4, .int .i64 bk, .int .i64 bb, .int .i64 ao, .slice av a9 ad, .int .u64 bg, .int .i64 bw, .slice cc c8 c5, .int .u64 bv], .int .i64 bp]) ∧
 thenW (bu.alloc (.cells #[.int .i64 0, .int .i64 0, .int .i64 0, .int .u64 0, .int .i64 0, .int .i64 0, .int .i64 0, .slice none 0 0, .int .u64 0, .int .i64 0, .int .i64 0, .int .u64 0, .int .i64 0, .int .i64 0, .int .i64 0, .slice none 0 0, .int .u64 0, .int .i64 0, .slice none 0 0, .int .u64 0] 38)) fun cl =>
 putsK cl (blk bu.heap.size) [.int .i64 ba, .int .i64 a1, .int .i64 al, .int .u64 b3, .int .i64 b8, .int .i64 be, .int .i64 a6, .slice ap aq a7, .int .u64 b7, .int .i64 a0, .int .i64 am, .int .u64 b4, .int .i64 bk, .int .i64 bb, .int .i64 ao, .slice av a9 ad, .int .u64 bg, .int .i64 bw, .slice cc c8 c5, .int .u64 bv] 0 fun c2 =>
 bif c0 == 0 then (
 thenW (c2.alloc (.cells #[.int .u8 2, .int .u8 1, .int .u8 97, .int .u8 0] 5)) fun cj =>
 Calls Try.prog 11 #[.slice bl bi br, .slice (some (blk c2.heap.size)) 4 4] cj fun ch az => ∃ (bc : Bool), ch = .returned (.bool bc) ∧
 bif bc then (
 bif b1 == 0 then (
 bif bp == 0 then (
 ∃ (bs : Int), az.cell? ((blk bu.heap.size).add 0) = some (.int .i64 bs) ∧
 bif bs == 1 then (
 ∃ (bx : Int), az.cell? (((blk bu.heap.size).add 1).add 7) = some (.int .u64 bx) ∧
 R (.bool (bx == 9)) az) else (
 R (.bool false) az)) else (
 R (.bool false) az)) else (
 R (.bool false) az)) else (
 R (.bool false) az)) else (
 R (.bool false) c2)

theorem Q0a.ok  {R : RW} {w : World} (h : Q0a.M  R w) : Calls Try.prog 8 #[] w fun e w' => ∃ v, e = .returned v ∧ R v w' :=
  Q0b follows (H := []) (args := []) (cast (by kernel_rfl) h)

def Q0a.N  (R : RW) (w : World) : Prop :=
 ∀ (c4 : World) (q2 : Nat), Ext no w c4 → Blk c4 q2 5 [.int .u8 97] → w.heap.size ≤ q2 → q2 < c4.heap.size →
 ∃ (ch : Option Addr) (cg ci : Nat) (cc : World), (convert 25 25 (.slice (some (blk q2)) 1 1)).run Try.prog c4 = .ok (.slice ch cg ci) cc ∧
 ∀ (c3 : World) (q6 : Nat), Ext no cc c3 → Blk c3 q6 25 [.slice ch cg ci, .slice none 0 0] → cc.heap.size ≤ q6 → q6 < c3.heap.size →
 Calls Try.prog 21 #[.slice (some (blk q6)) 2 2] c3 fun cj c0 => ∃ (b9 : Option Addr) (au ar : Nat) (ax : Int), cj = .returned (.tuple #[.slice b9 au ar, .int .i64 ax]) ∧
 ∀ (bf : World) (c2 : Nat), Ext no c0 bf → Blk bf c2 5 [.int .u8 120] → c0.heap.size ≤ c2 → c2 < bf.heap.size →
 ∃ (bq : Option Addr) (bv bt : Nat) (bp : World), (convert 25 25 (.slice (some (blk c2)) 1 1)).run Try.prog bf = .ok (.slice bq bv bt) bp ∧
 ∀ (bs : World), Ext no bp bs →
 Calls Try.prog 20 #[.agg #[.int .i64 1, .int .i64 0, .int .u64 0, .int .i64 5, .int .i64 1, .int .i64 0, .slice bq bv bt, .int .u64 9]] bs fun c7 ce => ∃ (av a0 ab ak ao bc a5 : Int) (aa : Option Addr) (a3 a4 : Nat) (b2 a1 a7 aj aq b1 ad : Int) (ac : Option Addr) (ae af : Nat) (ap bi : Int) (bz : Option Addr) (c1 bx : Nat) (bh : Int), c7 = .returned (.agg #[.int .i64 av, .int .i64 a0, .int .i64 ab, .int .u64 ak, .int .i64 ao, .int .i64 bc, .int .i64 a5, .slice aa a3 a4, .int .u64 b2, .int .i64 a1, .int .i64 a7, .int .u64 aj, .int .i64 aq, .int .i64 b1, .int .i64 ad, .slice ac ae af, .int .u64 ap, .int .i64 bi, .slice bz c1 bx, .int .u64 bh]) ∧
 Calls Try.prog 9 #[.agg #[.int .i64 av, .int .i64 a0, .int .i64 ab, .int .u64 ak, .int .i64 ao, .int .i64 bc, .int .i64 a5, .slice aa a3 a4, .int .u64 b2, .int .i64 a1, .int .i64 a7, .int .u64 aj, .int .i64 aq, .int .i64 b1, .int .i64 ad, .slice ac ae af, .int .u64 ap, .int .i64 bi, .slice bz c1 bx, .int .u64 bh]] ce fun cd c6 => ∃ (a6 : Option Addr) (a9 a8 : Nat) (a2 : Int), cd = .returned (.tuple #[.slice a6 a9 a8, .int .i64 a2]) ∧
 Calls Try.prog 13 #[.slice a6 a9 a8] c6 fun cb bd => ∃ (ai al ay be bj bn b6 : Int) (b0 : Option Addr) (aw ba : Nat) (b5 am b3 bg bk bm b7 : Int) (b8 : Option Addr) (b4 az : Nat) (bl bu : Int) (c5 : Option Addr) (c9 ca : Nat) (bo ah : Int), cb = .returned (.tuple #[.agg #[.int .i64 ai, .int .i64 al, .int .i64 ay, .int .u64 be, .int .i64 bj, .int .i64 bn, .int .i64 b6, .slice b0 aw ba, .int .u64 b5, .int .i64 am, .int .i64 b3, .int .u64 bg, .int .i64 bk, .int .i64 bm, .int .i64 b7, .slice b8 b4 az, .int .u64 bl, .int .i64 bu, .slice c5 c9 ca, .int .u64 bo], .int .i64 ah]) ∧
 (ax = 0 →
 ∀ (bb : World) (bw cf : Nat), Ext no bd bb → Blk bb bw 5 [.int .u8 2, .int .u8 1, .int .u8 97, .int .u8 0] → bd.heap.size ≤ bw → bw < bb.heap.size → Privq bd bw [cf] →
 Calls Try.prog 11 #[.slice b9 au ar, .slice (some (blk bw)) 4 4] bb fun c8 an => ∃ (ag : Bool), c8 = .returned (.bool ag) ∧
 Keep [cf] bb an ∧
 (ag = true →
 (a2 = 0 →
 (ah = 0 →
 (ai = 1 →
 R (.bool (b5 == 9)) an) ∧
 (ai ≠ 1 →
 R (.bool false) an)) ∧
 (ah ≠ 0 →
 R (.bool false) an)) ∧
 (a2 ≠ 0 →
 R (.bool false) an)) ∧
 (ag = false →
 R (.bool false) an)) ∧
 (ax ≠ 0 →
 ∀ (br : World), Ext no bd br →
 R (.bool false) br)

theorem Q0a.up  {R : RW} {w : World} (h : Q0a.N  R w) : Q0a.M  R w := by
  unfold Q0a.M
  unfold Q0a.N at h
  refine Q00 fun cx e1 => ?_
  have h := h cx w.heap.size ((Ext.refl no w).x_alloc e1) (Blk.of_new e1) ((Ext.refl no w)).size (Q0x e1)
  obtain ⟨cs, cp, cw, bx, hr, h⟩ := h
  refine ⟨cs, cp, cw, bx, hr, ?_⟩
  refine Q00 fun cr e5 => ?_
  have h := h cr bx.heap.size ((Ext.refl no bx).x_alloc e5) (Blk.of_new e5) ((Ext.refl no bx)).size (Q0x e5)
  refine h.mono fun d4 bl h => ?_
  obtain ⟨bj, ba, b8, bq, he, h⟩ := h
  refine ⟨bj, ba, b8, bq, he, ?_⟩
  refine Q00 fun c7 c8 => ?_
  have h := h c7 bl.heap.size ((Ext.refl no bl).x_alloc c8) (Blk.of_new c8) ((Ext.refl no bl)).size (Q0x c8)
  obtain ⟨bo, bu, bs, b2, hr, h⟩ := h
  refine ⟨bo, bu, bs, b2, hr, ?_⟩
  refine Q00 fun d1 cj => ?_
  have av := Blk.of_new cj
  have d0 := ((Ext.refl no b2)).size
  have c9 := (Ext.refl no b2).x_alloc cj
  refine Q0M (k := 0) (j := 0) av (by exact Nat.le_of_ble_eq_true rfl) fun c2 cy cm => ?_
  have c0 := c9.x_puts cy (.inr d0)
  have av := Q10 cm rfl
  refine ⟨1, 0, 0, 5, 1, 0, bo, bu, bs, 9, ⟨av.celli 0 rfl rfl, av.celli 1 rfl rfl, av.celli 2 rfl rfl, av.celli 3 rfl rfl, av.celli 4 rfl rfl, av.celli 5 rfl rfl, av.celli 6 rfl rfl, av.celli 7 rfl rfl, trivial⟩, ?_⟩
  have h := h c2 c0
  refine h.mono fun cn d3 h => ?_
  obtain ⟨bb, a2, ak, az, b3, bm, ab, ah, a4, a5, bh, a3, ad, ay, b7, be, aq, am, ar, au, b4, bv, cc, cg, c6, br, he, h⟩ := h
  refine ⟨bb, a2, ak, az, b3, bm, ab, ah, a4, a5, bh, a3, ad, ay, b7, be, aq, am, ar, au, b4, bv, cc, cg, c6, br, he, ?_⟩
  refine h.mono fun d2 ck h => ?_
  obtain ⟨ac, ag, ae, b1, he, h⟩ := h
  refine ⟨ac, ag, ae, b1, he, ?_⟩
  refine h.mono fun ct bg h => ?_
  obtain ⟨a8, a0, a7, aw, b5, bk, al, aa, a6, ap, aj, a1, af, b0, bd, bi, an, ao, ai, a9, bf, bt, bz, c4, c5, bn, bc, he, h⟩ := h
  refine ⟨a8, a0, a7, aw, b5, bk, al, aa, a6, ap, aj, a1, af, b0, bd, bi, an, ao, ai, a9, bf, bt, bz, c4, c5, bn, bc, he, ?_⟩
  refine Q00 fun cq ci => ?_
  have ax := Blk.of_new ci
  have ch := ((Ext.refl no bg)).size
  have ce := (Ext.refl no bg).x_alloc ci
  refine Q0M (k := 0) (j := 0) ax (by exact Nat.le_of_ble_eq_true rfl) fun bp cz cl => ?_
  have b6 := ce.x_puts cz (.inr ch)
  have ax := Q10 cl rfl
  refine bif_fo (fun cf => ?_) (fun cf => ?_)
  ·have h := h.2 (beq_f cf)
   have h := h bp b6
   exact h
  have h := h.1 (beq_t cf)
  refine Q00 fun cd bw => ?_
  have cu := ax.lt
  have ax := ax.x_alloc bw
  have h := h cd bp.heap.size (bg.heap.size) (b6.x_alloc bw) (Blk.of_new bw) (b6).size (Q0x bw) (Privq.cons ch cu Privq.nil)
  refine h.mono fun co cv h => ?_
  obtain ⟨b9, he, hk, h⟩ := h
  refine ⟨b9, he, ?_⟩
  have ax := hk.blk ax (by simp)
  refine bif_fo (fun c3 => ?_) (fun c3 => ?_)
  ·have h := h.2 c3
   exact h
  have h := h.1 c3
  refine bif_fo (fun cb => ?_) (fun cb => ?_)
  ·have h := h.2 (beq_f cb)
   exact h
  have h := h.1 (beq_t cb)
  refine bif_fo (fun c1 => ?_) (fun c1 => ?_)
  ·have h := h.2 (beq_f c1)
   exact h
  have h := h.1 (beq_t c1)
  refine ⟨a8, ax.celli 0 rfl rfl, ?_⟩
  refine bif_fo (fun ca => ?_) (fun ca => ?_)
  ·have h := h.2 (beq_f ca)
   exact h
  have h := h.1 (beq_t ca)
  refine ⟨aj, ax.celli 8 rfl rfl, ?_⟩
  exact h

theorem Q0a.go  {R : RW} {w : World} (h : Q0a.N  R w) : Calls Try.prog 8 #[] w fun e w' => ∃ v, e = .returned v ∧ R v w' := Q0a.ok  (Q0a.up  h)
theorem Q0a.run  {V : Value} {Q : World → Prop} {w : World} (h : Q0a.N  (fun v w' => v = V ∧ Q w') w) : Calls Try.prog 8 #[] w (Ret V Q) := (Q0a.go  h).mono fun e w' ⟨v, he, hv, hq⟩ => ⟨by rw [he, hv], hq⟩

end Go.Proofs.Ytoempemllkebkaa
namespace Go.Proofs.Ytoempemllkebkaa
open Go Go.Mx Go.Proofs
def Q09.M (ao a6 ad am ap aq ac : Int) (ae : Option Addr) (af ab : Nat) (ar a0 a7 aa aj al a3 : Int) (a8 : Option Addr) (a4 a9 : Nat) (ag av : Int) (aw : Option Addr) (ax ay : Nat) (au : Int) (R : RW) (w : World) : Prop :=
 thenW (w.alloc (.cells #[.int .i64 ao, .int .i64 a6, .int .i64 ad, .int .u64 am, .int .i64 ap, .int .i64 aq, .int .i64 ac, .slice ae af ab, .int .u64 ar, .int .i64 a0, .int .i64 a7, .int .u64 aa, .int .i64 aj, .int .i64 al, .int .i64 a3, .slice a8 a4 a9, .int .u64 ag, .int .i64 av, .slice aw ax ay, .int .u64 au] 30)) fun a5 =>
 ∃ (ah : Option Addr) (a1 an : Nat), a5.cell? (((blk w.heap.size).add 1).add 6) = some (.slice ah a1 an) ∧
 bif decide ((a1 : Int) ≤ 1500) then (
 ∃ (ak : Option Addr) (a2 ai : Nat), a5.cell? (((blk w.heap.size).add 9).add 6) = some (.slice ak a2 ai) ∧
 bif decide ((a2 : Int) ≤ 1500) then (
 ∃ (b1 : Option Addr) (az b0 : Nat), a5.cell? ((blk w.heap.size).add 18) = some (.slice b1 az b0) ∧
 R (.bool (decide ((az : Int) ≤ 30))) a5) else (
 R (.bool false) a5)) else (
 R (.bool false) a5)

theorem Q09.ok (ah a4 a9 af ai am a8 : Int) (aa : Option Addr) (ab a7 : Nat) (aj a0 a5 ac ag ae a2 : Int) (a6 : Option Addr) (a3 a1 : Nat) (ad al : Int) (an : Option Addr) (ao ap : Nat) (ak : Int) {R : RW} {w : World} (h : Q09.M ah a4 a9 af ai am a8 aa ab a7 aj a0 a5 ac ag ae a2 a6 a3 a1 ad al an ao ap ak R w) : Calls Try.prog 7 #[.agg #[.int .i64 ah, .int .i64 a4, .int .i64 a9, .int .u64 af, .int .i64 ai, .int .i64 am, .int .i64 a8, .slice aa ab a7, .int .u64 aj, .int .i64 a0, .int .i64 a5, .int .u64 ac, .int .i64 ag, .int .i64 ae, .int .i64 a2, .slice a6 a3 a1, .int .u64 ad, .int .i64 al, .slice an ao ap, .int .u64 ak]] w fun e w' => ∃ v, e = .returned v ∧ R v w' :=
  Q0b follows (H := []) (args := [.agg #[.int .i64 ah, .int .i64 a4, .int .i64 a9, .int .u64 af, .int .i64 ai, .int .i64 am, .int .i64 a8, .slice aa ab a7, .int .u64 aj, .int .i64 a0, .int .i64 a5, .int .u64 ac, .int .i64 ag, .int .i64 ae, .int .i64 a2, .slice a6 a3 a1, .int .u64 ad, .int .i64 al, .slice an ao ap, .int .u64 ak]]) (cast (by kernel_rfl) h)

def Q09.N (aj a6 ab ah ak ao aa : Int) (ad : Option Addr) (a2 a9 : Nat) (al a3 a7 ae ai ag a5 : Int) (a8 : Option Addr) (a0 a4 : Nat) (af an : Int) (ap : Option Addr) (ac aq : Nat) (am : Int) (R : RW) (w : World) : Prop :=
 ((a2 : Int) ≤ 1500 →
 ((a0 : Int) ≤ 1500 →
 ∀ (a1 : World), Ext no w a1 →
 R (.bool (decide ((ac : Int) ≤ 30))) a1) ∧
 ((1500 : Int) < (a0 : Int) →
 ∀ (a1 : World), Ext no w a1 →
 R (.bool false) a1)) ∧
 ((1500 : Int) < (a2 : Int) →
 ∀ (a1 : World), Ext no w a1 →
 R (.bool false) a1)

theorem Q09.up (ah a8 ac ae ai aj ab : Int) (a5 : Option Addr) (a6 a3 : Nat) (ak a4 a9 aa ag ad a7 : Int) (a1 : Option Addr) (a0 a2 : Nat) (af ap : Int) (am : Option Addr) (an ao : Nat) (al : Int) {R : RW} {w : World} (h : Q09.N ah a8 ac ae ai aj ab a5 a6 a3 ak a4 a9 aa ag ad a7 a1 a0 a2 af ap am an ao al R w) : Q09.M ah a8 ac ae ai aj ab a5 a6 a3 ak a4 a9 aa ag ad a7 a1 a0 a2 af ap am an ao al R w := by
  unfold Q09.M
  unfold Q09.N at h
  refine Q00 fun aq ax => ?_
  have au := Blk.of_new ax
  have ay := ((Ext.refl no w)).size
  have ar := (Ext.refl no w).x_alloc ax
  refine ⟨a5, a6, a3, au.celli 7 rfl rfl, ?_⟩
  refine bif_fo (fun aw => ?_) (fun aw => ?_)
  ·have h := h.2 (Int.not_le.1 (of_decide_eq_false aw))
   have h := h aq ar
   exact h
  have h := h.1 (of_decide_eq_true aw)
  refine ⟨a1, a0, a2, au.celli 15 rfl rfl, ?_⟩
  refine bif_fo (fun av => ?_) (fun av => ?_)
  ·have h := h.2 (Int.not_le.1 (of_decide_eq_false av))
   have h := h aq ar
   exact h
  have h := h.1 (of_decide_eq_true av)
  refine ⟨am, an, ao, au.celli 18 rfl rfl, ?_⟩
  have h := h aq ar
  exact h

theorem Q09.go (ah a4 a9 af ai am a8 : Int) (aa : Option Addr) (ab a7 : Nat) (aj a0 a5 ac ag ae a2 : Int) (a6 : Option Addr) (a3 a1 : Nat) (ad al : Int) (an : Option Addr) (ao ap : Nat) (ak : Int) {R : RW} {w : World} (h : Q09.N ah a4 a9 af ai am a8 aa ab a7 aj a0 a5 ac ag ae a2 a6 a3 a1 ad al an ao ap ak R w) : Calls Try.prog 7 #[.agg #[.int .i64 ah, .int .i64 a4, .int .i64 a9, .int .u64 af, .int .i64 ai, .int .i64 am, .int .i64 a8, .slice aa ab a7, .int .u64 aj, .int .i64 a0, .int .i64 a5, .int .u64 ac, .int .i64 ag, .int .i64 ae, .int .i64 a2, .slice a6 a3 a1, .int .u64 ad, .int .i64 al, .slice an ao ap, .int .u64 ak]] w fun e w' => ∃ v, e = .returned v ∧ R v w' := Q09.ok ah a4 a9 af ai am a8 aa ab a7 aj a0 a5 ac ag ae a2 a6 a3 a1 ad al an ao ap ak (Q09.up ah a4 a9 af ai am a8 aa ab a7 aj a0 a5 ac ag ae a2 a6 a3 a1 ad al an ao ap ak h)
theorem Q09.run (ah a4 a9 af ai am a8 : Int) (aa : Option Addr) (ab a7 : Nat) (aj a0 a5 ac ag ae a2 : Int) (a6 : Option Addr) (a3 a1 : Nat) (ad al : Int) (an : Option Addr) (ao ap : Nat) (ak : Int) {V : Value} {Q : World → Prop} {w : World} (h : Q09.N ah a4 a9 af ai am a8 aa ab a7 aj a0 a5 ac ag ae a2 a6 a3 a1 ad al an ao ap ak (fun v w' => v = V ∧ Q w') w) : Calls Try.prog 7 #[.agg #[.int .i64 ah, .int .i64 a4, .int .i64 a9, .int .u64 af, .int .i64 ai, .int .i64 am, .int .i64 a8, .slice aa ab a7, .int .u64 aj, .int .i64 a0, .int .i64 a5, .int .u64 ac, .int .i64 ag, .int .i64 ae, .int .i64 a2, .slice a6 a3 a1, .int .u64 ad, .int .i64 al, .slice an ao ap, .int .u64 ak]] w (Ret V Q) := (Q09.go ah a4 a9 af ai am a8 aa ab a7 aj a0 a5 ac ag ae a2 a6 a3 a1 ad al an ao ap ak h).mono fun e w' ⟨v, he, hv, hq⟩ => ⟨by rw [he, hv], hq⟩

def Q0f.M (c3 ba bg bs c0 c2 bn : Int) (bp : Option Addr) (bq bl : Nat) (bz b2 bb bj bu br b8 : Int) (bd : Option Addr) (bc b9 : Nat) (bt c1 : Int) (c6 : Option Addr) (c7 c8 : Nat) (c4 : Int) (R : RW) (w : World) : Prop :=
 thenW (w.alloc (.cells #[.int .i64 c3, .int .i64 ba, .int .i64 bg, .int .u64 bs, .int .i64 c0, .int .i64 c2, .int .i64 bn, .slice bp bq bl, .int .u64 bz, .int .i64 b2, .int .i64 bb, .int .u64 bj, .int .i64 bu, .int .i64 br, .int .i64 b8, .slice bd bc b9, .int .u64 bt, .int .i64 c1, .slice c6 c7 c8, .int .u64 c4] 30)) fun bx =>
 thenW (bx.alloc (.cells #[.int .i64 0, .int .i64 0, .int .i64 0, .int .u64 0, .int .i64 0, .int .i64 0, .int .i64 0, .slice none 0 0, .int .u64 0, .int .i64 0, .int .i64 0, .int .u64 0, .int .i64 0, .int .i64 0, .int .i64 0, .slice none 0 0, .int .u64 0, .int .i64 0, .slice none 0 0, .int .u64 0] 38)) fun b1 =>
 ∃ (bk : Int), b1.cell? ((blk w.heap.size).add 0) = some (.int .i64 bk) ∧
 ∃ (af aw b5 bf bh av : Int) (ap : Option Addr) (au az : Nat) (be : Int), cellsAt b1 ((blk w.heap.size).add 1) [.int .i64 af, .int .i64 aw, .int .u64 b5, .int .i64 bf, .int .i64 bh, .int .i64 av, .slice ap au az, .int .u64 be] 0 ∧
 ∃ (ae ay b3 bi bo ao : Int) (ax : Option Addr) (aq b0 : Nat) (bm : Int), cellsAt b1 ((blk w.heap.size).add 9) [.int .i64 ae, .int .i64 ay, .int .u64 b3, .int .i64 bi, .int .i64 bo, .int .i64 ao, .slice ax aq b0, .int .u64 bm] 0 ∧
 ∃ (bv : Int), b1.cell? ((blk w.heap.size).add 17) = some (.int .i64 bv) ∧
 ∃ (c9 : Option Addr) (ca cb : Nat), b1.cell? ((blk w.heap.size).add 18) = some (.slice c9 ca cb) ∧
 ∃ (bw : Int), b1.cell? ((blk w.heap.size).add 19) = some (.int .u64 bw) ∧
 putsK b1 (blk bx.heap.size) [.int .i64 bk, .int .i64 af, .int .i64 aw, .int .u64 b5, .int .i64 bf, .int .i64 bh, .int .i64 av, .slice ap au az, .int .u64 be, .int .i64 ae, .int .i64 ay, .int .u64 b3, .int .i64 bi, .int .i64 bo, .int .i64 ao, .slice ax aq b0, .int .u64 bm, .int .i64 bv, .slice c9 ca cb, .int .u64 bw] 0 fun c5 =>
 ∃ (al a0 a7 ac ag ah a5 : Int) (a3 : Option Addr) (ab a2 : Nat) (ai a1 a9 ad am ak a6 : Int) (a8 : Option Addr) (a4 aa : Nat) (aj an : Int) (b4 : Option Addr) (b6 b7 : Nat) (ar : Int), cellsAt c5 (blk bx.heap.size) [.int .i64 al, .int .i64 a0, .int .i64 a7, .int .u64 ac, .int .i64 ag, .int .i64 ah, .int .i64 a5, .slice a3 ab a2, .int .u64 ai, .int .i64 a1, .int .i64 a9, .int .u64 ad, .int .i64 am, .int .i64 ak, .int .i64 a6, .slice a8 a4 aa, .int .u64 aj, .int .i64 an, .slice b4 b6 b7, .int .u64 ar] 0 ∧
 R (.agg #[.int .i64 al, .int .i64 a0, .int .i64 a7, .int .u64 ac, .int .i64 ag, .int .i64 ah, .int .i64 a5, .slice a3 ab a2, .int .u64 ai, .int .i64 a1, .int .i64 a9, .int .u64 ad, .int .i64 am, .int .i64 ak, .int .i64 a6, .slice a8 a4 aa, .int .u64 aj, .int .i64 an, .slice b4 b6 b7, .int .u64 ar]) c5

theorem Q0f.ok (ah a4 a9 af ai am a8 : Int) (aa : Option Addr) (ab a7 : Nat) (aj a0 a5 ac ag ae a2 : Int) (a6 : Option Addr) (a3 a1 : Nat) (ad al : Int) (an : Option Addr) (ao ap : Nat) (ak : Int) {R : RW} {w : World} (h : Q0f.M ah a4 a9 af ai am a8 aa ab a7 aj a0 a5 ac ag ae a2 a6 a3 a1 ad al an ao ap ak R w) : Calls Try.prog 10 #[.agg #[.int .i64 ah, .int .i64 a4, .int .i64 a9, .int .u64 af, .int .i64 ai, .int .i64 am, .int .i64 a8, .slice aa ab a7, .int .u64 aj, .int .i64 a0, .int .i64 a5, .int .u64 ac, .int .i64 ag, .int .i64 ae, .int .i64 a2, .slice a6 a3 a1, .int .u64 ad, .int .i64 al, .slice an ao ap, .int .u64 ak]] w fun e w' => ∃ v, e = .returned v ∧ R v w' :=
  Q0b follows (H := []) (args := [.agg #[.int .i64 ah, .int .i64 a4, .int .i64 a9, .int .u64 af, .int .i64 ai, .int .i64 am, .int .i64 a8, .slice aa ab a7, .int .u64 aj, .int .i64 a0, .int .i64 a5, .int .u64 ac, .int .i64 ag, .int .i64 ae, .int .i64 a2, .slice a6 a3 a1, .int .u64 ad, .int .i64 al, .slice an ao ap, .int .u64 ak]]) (cast (by kernel_rfl) h)

def Q0f.N (ah a4 a9 af ai am a8 : Int) (aa : Option Addr) (ab a7 : Nat) (aj a0 a5 ac ag ae a2 : Int) (a6 : Option Addr) (a3 a1 : Nat) (ad al : Int) (ao : Option Addr) (ap aq : Nat) (ak : Int) (R : RW) (w : World) : Prop :=
 ∀ (an : World), Ext no w an →
 R (.agg #[.int .i64 ah, .int .i64 a4, .int .i64 a9, .int .u64 af, .int .i64 ai, .int .i64 am, .int .i64 a8, .slice aa ab a7, .int .u64 aj, .int .i64 a0, .int .i64 a5, .int .u64 ac, .int .i64 ag, .int .i64 ae, .int .i64 a2, .slice a6 a3 a1, .int .u64 ad, .int .i64 al, .slice ao ap aq, .int .u64 ak]) an

theorem Q0f.up (aj a3 aa ae ak al a9 : Int) (ab : Option Addr) (ac a8 : Nat) (am a0 a4 a7 ag ad a1 : Int) (a5 : Option Addr) (a2 a6 : Nat) (af ao : Int) (ap : Option Addr) (aq ar : Nat) (an : Int) {R : RW} {w : World} (h : Q0f.N aj a3 aa ae ak al a9 ab ac a8 am a0 a4 a7 ag ad a1 a5 a2 a6 af ao ap aq ar an R w) : Q0f.M aj a3 aa ae ak al a9 ab ac a8 am a0 a4 a7 ag ad a1 a5 a2 a6 af ao ap aq ar an R w := by
  unfold Q0f.M
  unfold Q0f.N at h
  refine Q00 fun b3 az => ?_
  have ah := Blk.of_new az
  have b6 := ((Ext.refl no w)).size
  have au := (Ext.refl no w).x_alloc az
  refine Q00 fun b2 aw => ?_
  have ai := Blk.of_new aw
  have b4 := (au).size
  have b0 := Nat.ne_of_lt ah.lt
  have ah := ah.x_alloc aw
  have ax := au.x_alloc aw
  refine ⟨aj, ah.celli 0 rfl rfl, ?_⟩
  refine ⟨a3, aa, ae, ak, al, a9, ab, ac, a8, am, ⟨ah.celli 1 rfl rfl, ah.celli 2 rfl rfl, ah.celli 3 rfl rfl, ah.celli 4 rfl rfl, ah.celli 5 rfl rfl, ah.celli 6 rfl rfl, ah.celli 7 rfl rfl, ah.celli 8 rfl rfl, trivial⟩, ?_⟩
  refine ⟨a0, a4, a7, ag, ad, a1, a5, a2, a6, af, ⟨ah.celli 9 rfl rfl, ah.celli 10 rfl rfl, ah.celli 11 rfl rfl, ah.celli 12 rfl rfl, ah.celli 13 rfl rfl, ah.celli 14 rfl rfl, ah.celli 15 rfl rfl, ah.celli 16 rfl rfl, trivial⟩, ?_⟩
  refine ⟨ao, ah.celli 17 rfl rfl, ?_⟩
  refine ⟨ap, aq, ar, ah.celli 18 rfl rfl, ?_⟩
  refine ⟨an, ah.celli 19 rfl rfl, ?_⟩
  refine Q0M (k := 0) (j := 0) ai (by exact Nat.le_of_ble_eq_true rfl) fun av b5 b1 => ?_
  have ay := ax.x_puts b5 (.inr b4)
  have ai := Q10 b1 rfl
  refine ⟨aj, a3, aa, ae, ak, al, a9, ab, ac, a8, am, a0, a4, a7, ag, ad, a1, a5, a2, a6, af, ao, ap, aq, ar, an, ⟨ai.celli 0 rfl rfl, ai.celli 1 rfl rfl, ai.celli 2 rfl rfl, ai.celli 3 rfl rfl, ai.celli 4 rfl rfl, ai.celli 5 rfl rfl, ai.celli 6 rfl rfl, ai.celli 7 rfl rfl, ai.celli 8 rfl rfl, ai.celli 9 rfl rfl, ai.celli 10 rfl rfl, ai.celli 11 rfl rfl, ai.celli 12 rfl rfl, ai.celli 13 rfl rfl, ai.celli 14 rfl rfl, ai.celli 15 rfl rfl, ai.celli 16 rfl rfl, ai.celli 17 rfl rfl, ai.celli 18 rfl rfl, ai.celli 19 rfl rfl, trivial⟩, ?_⟩
  have h := h av ay
  exact h

theorem Q0f.go (ah a4 a9 af ai am a8 : Int) (aa : Option Addr) (ab a7 : Nat) (aj a0 a5 ac ag ae a2 : Int) (a6 : Option Addr) (a3 a1 : Nat) (ad al : Int) (an : Option Addr) (ao ap : Nat) (ak : Int) {R : RW} {w : World} (h : Q0f.N ah a4 a9 af ai am a8 aa ab a7 aj a0 a5 ac ag ae a2 a6 a3 a1 ad al an ao ap ak R w) : Calls Try.prog 10 #[.agg #[.int .i64 ah, .int .i64 a4, .int .i64 a9, .int .u64 af, .int .i64 ai, .int .i64 am, .int .i64 a8, .slice aa ab a7, .int .u64 aj, .int .i64 a0, .int .i64 a5, .int .u64 ac, .int .i64 ag, .int .i64 ae, .int .i64 a2, .slice a6 a3 a1, .int .u64 ad, .int .i64 al, .slice an ao ap, .int .u64 ak]] w fun e w' => ∃ v, e = .returned v ∧ R v w' := Q0f.ok ah a4 a9 af ai am a8 aa ab a7 aj a0 a5 ac ag ae a2 a6 a3 a1 ad al an ao ap ak (Q0f.up ah a4 a9 af ai am a8 aa ab a7 aj a0 a5 ac ag ae a2 a6 a3 a1 ad al an ao ap ak h)
theorem Q0f.run (ah a4 a9 af ai am a8 : Int) (aa : Option Addr) (ab a7 : Nat) (aj a0 a5 ac ag ae a2 : Int) (a6 : Option Addr) (a3 a1 : Nat) (ad al : Int) (an : Option Addr) (ao ap : Nat) (ak : Int) {V : Value} {Q : World → Prop} {w : World} (h : Q0f.N ah a4 a9 af ai am a8 aa ab a7 aj a0 a5 ac ag ae a2 a6 a3 a1 ad al an ao ap ak (fun v w' => v = V ∧ Q w') w) : Calls Try.prog 10 #[.agg #[.int .i64 ah, .int .i64 a4, .int .i64 a9, .int .u64 af, .int .i64 ai, .int .i64 am, .int .i64 a8, .slice aa ab a7, .int .u64 aj, .int .i64 a0, .int .i64 a5, .int .u64 ac, .int .i64 ag, .int .i64 ae, .int .i64 a2, .slice a6 a3 a1, .int .u64 ad, .int .i64 al, .slice an ao ap, .int .u64 ak]] w (Ret V Q) := (Q0f.go ah a4 a9 af ai am a8 aa ab a7 aj a0 a5 ac ag ae a2 a6 a3 a1 ad al an ao ap ak h).mono fun e w' ⟨v, he, hv, hq⟩ => ⟨by rw [he, hv], hq⟩

end Go.Proofs.Ytoempemllkebkaa
namespace Go.Proofs.Ytoempemllkebkaa
open Go Go.Mx Go.Proofs
theorem eqT66 (x0 x1 x2 y0 y1 y2 : Int) (w : World) : (Op.equalIn 10000 66 (.agg #[.int .i64 x0, .int .i64 x1, .int .u64 x2]) (.agg #[.int .i64 y0, .int .i64 y1, .int .u64 y2])).run Try.prog w = .ok (decide (x0 = y0 ∧ x1 = y1 ∧ x2 = y2)) w := by
  obtain ⟨f0, f1, f2, ht, n0, o0, p0, u0, n1, o1, p1, u1, n2, o2, p2, u2, hp⟩ : ∃ f0 f1 f2, Try.prog.underlying 66 = some (.struct #[f0, f1, f2]) ∧ f0.name ≠ "_" ∧ f0.offset = 0 ∧ Try.prog.plainKey f0.type = true ∧ Try.prog.underlying f0.type = some (.int .i64) ∧ f1.name ≠ "_" ∧ f1.offset = 1 ∧ Try.prog.plainKey f1.type = true ∧ Try.prog.underlying f1.type = some (.int .i64) ∧ f2.name ≠ "_" ∧ f2.offset = 2 ∧ Try.prog.plainKey f2.type = true ∧ Try.prog.underlying f2.type = some (.int .u64) ∧ Try.prog.stoodInHeld 66 = false :=
    ⟨_, _, _, Try.underlying66, by decide, rfl, by kernel_rfl, by kernel_rfl, by decide, rfl, by kernel_rfl, by kernel_rfl, by decide, rfl, by kernel_rfl, by kernel_rfl, by kernel_rfl⟩
  have hf : Try.prog.fieldsOf 66 = #[f0, f1, f2] := by simp [Program.fieldsOf, ht]
  rw [show (10000 : Nat) = 9998 + 1 + 1 from rfl, run_equalIn_struct w (9998 + 1) _ _ _ (by rw [hf]; exact ht) hp, hf]
  show (Op.eqFields (9998 + 1) _ _ [f0, f1, f2]).run Try.prog w = _
  rw [W.eqf_step n0 (run_part_plain w p0 (by rw [o0]; rfl)) (run_part_plain w p0 (by rw [o0]; rfl)) (run_equalIn_int w _ _ _ _ _ _ u0), W.eqf_step n1 (run_part_plain w p1 (by rw [o1]; rfl)) (run_part_plain w p1 (by rw [o1]; rfl)) (run_equalIn_int w _ _ _ _ _ _ u1), W.eqf_step n2 (run_part_plain w p2 (by rw [o2]; rfl)) (run_part_plain w p2 (by rw [o2]; rfl)) (run_equalIn_int w _ _ _ _ _ _ u2)]
  by_cases e0 : x0 = y0 <;> by_cases e1 : x1 = y1 <;> by_cases e2 : x2 = y2 <;> simp [e0, e1, e2, Op.eqFields]
theorem Q4j (x0 x1 x2 y0 y1 y2 : Int) (w : World) : (binOp .neq 66 (.agg #[.int .i64 x0, .int .i64 x1, .int .u64 x2]) (.agg #[.int .i64 y0, .int .i64 y1, .int .u64 y2])).run Try.prog w = .ok (.bool (!decide (x0 = y0 ∧ x1 = y1 ∧ x2 = y2))) w := by rw [run_neq_struct, eqT66]; rfl

def Q02.M (ae : Option Addr) (a7 ag : Nat) (af : Option Addr) (ac ah : Nat) (R : RW) (w : World) : Prop :=
 bif (a7 : Int) != (ac : Int) then (
 R (.bool false) w) else (
 ∃ (I0 : Nat → List Value → World → Prop) (m4 : Nat), I0 m4 [.int .i64 0] w ∧ ∀ (m5 : Nat) (a9 : World) (t3 : Int), I0 m5 [.int .i64 t3] a9 →
 bif decide (t3 < (a7 : Int)) then (
 thenW (a9.drew) fun a6 =>
 ae.elim False fun a8 =>
 0 ≤ (t3 : Int) ∧ (t3 : Int) < (a7 : Int) ∧
 ∃ (a1 a5 a4 : Int), cellsAt a6 (a8.add (Int.toNat t3 * 3)) [.int .i64 a1, .int .i64 a5, .int .u64 a4] 0 ∧
 af.elim False fun ad =>
 0 ≤ (t3 : Int) ∧ (t3 : Int) < (ac : Int) ∧
 ∃ (a0 a2 a3 : Int), cellsAt a6 (ad.add (Int.toNat t3 * 3)) [.int .i64 a0, .int .i64 a2, .int .u64 a3] 0 ∧
 ∃ (ab : Bool), (binOp .neq 66 (.agg #[.int .i64 a1, .int .i64 a5, .int .u64 a4]) (.agg #[.int .i64 a0, .int .i64 a2, .int .u64 a3])).run Try.prog a6 = .ok (.bool ab) a6 ∧
 bif ab then (
 R (.bool false) a6) else (
 ∃ aa, aa < m5 ∧ I0 aa [.int .i64 (IntKind.i64.wrap (t3 + 1))] a6)) else (
 R (.bool true) a9))

theorem Q02.ok (a2 : Option Addr) (a1 a0 : Nat) (a3 : Option Addr) (a4 a5 : Nat) {R : RW} {w : World} (h : Q02.M a2 a1 a0 a3 a4 a5 R w) : Calls Try.prog 31 #[.slice a2 a1 a0, .slice a3 a4 a5] w fun e w' => ∃ v, e = .returned v ∧ R v w' :=
  Q0b follows (H := [(0, [0, 1, 12], [(13, (.one (.int .i64)))])]) (args := [.slice a2 a1 a0, .slice a3 a4 a5]) (cast (by kernel_rfl) h)

def Q02.N (ad : Option Addr) (a7 af : Nat) (ae : Option Addr) (a9 ag : Nat) (R : RW) (w : World) : Prop :=
 ((a7 : Int) ≠ (a9 : Int) →
 R (.bool false) w) ∧
 ((a7 : Int) = (a9 : Int) →
 ∃ (I0 : Nat → List Value → World → Prop) (m5 : Nat), I0 m5 [.int .i64 0] w ∧ ∀ (m6 : Nat) (a6 : World) (t4 : Int), I0 m6 [.int .i64 t4] a6 →
 (t4 < (a7 : Int) →
 ∃ ab : Addr, ad = some ab ∧
 0 ≤ (t4 : Int) ∧ (t4 : Int) < (a7 : Int) ∧
 ∃ (a0 a2 a3 : Int), cellsAt a6 (ab.add (Int.toNat t4 * 3)) [.int .i64 a0, .int .i64 a2, .int .u64 a3] 0 ∧
 ∃ aa : Addr, ae = some aa ∧
 0 ≤ (t4 : Int) ∧ (t4 : Int) < (a9 : Int) ∧
 ∃ (a1 a4 a5 : Int), cellsAt a6 (aa.add (Int.toNat t4 * 3)) [.int .i64 a1, .int .i64 a4, .int .u64 a5] 0 ∧
 (¬ (a0 = a1 ∧ a2 = a4 ∧ a3 = a5) →
 ∀ (a8 : World), Ext no a6 a8 →
 R (.bool false) a8) ∧
 (a0 = a1 ∧ a2 = a4 ∧ a3 = a5 →
 (-9223372036854775808 : Int) ≤ (t4 + 1) ∧ (t4 + 1) < 9223372036854775808 ∧
 ∀ (a8 : World), Ext no a6 a8 →
 ∃ ac, ac < m6 ∧ I0 ac [.int .i64 (t4 + 1)] a8)) ∧
 ((a7 : Int) ≤ t4 →
 R (.bool true) a6))

theorem Q02.up (ak : Option Addr) (ag ae : Nat) (ah : Option Addr) (al ai : Nat) {R : RW} {w : World} (h : Q02.N ak ag ae ah al ai R w) : Q02.M ak ag ae ah al ai R w := by
  unfold Q02.M
  unfold Q02.N at h
  refine bif_of (fun c3 => ?_) (fun c3 => ?_)
  ·have h := h.1 (bne_t c3)
   exact h
  have h := h.2 (bne_f c3)
  obtain ⟨I0, m5, h0, h⟩ := h
  refine ⟨I0, m5, h0, fun m6 aj t4 hI => ?_⟩
  have h := h m6 aj t4 hI
  refine bif_fo (fun c8 => ?_) (fun c8 => ?_)
  ·have h := h.2 (Int.not_lt.1 (of_decide_eq_false c8))
   exact h
  have h := h.1 (of_decide_eq_true c8)
  refine Q00 fun af e9 => ?_
  have a6 := (Ext.refl no aj).x_drew e9
  obtain ⟨aq, ab, h⟩ := h
  refine Q0s ab ?_
  obtain ⟨a9, a7, h⟩ := h
  refine ⟨a9, a7, ?_⟩
  obtain ⟨a1, a4, a2, ad, h⟩ := h
  refine ⟨a1, a4, a2, Q1L (a6) ad, ?_⟩
  obtain ⟨ap, aa, h⟩ := h
  refine Q0s aa ?_
  obtain ⟨a9, a7, h⟩ := h
  refine ⟨a9, a7, ?_⟩
  obtain ⟨a0, a5, a3, ac, h⟩ := h
  refine ⟨a0, a5, a3, Q1L (a6) ac, ?_⟩
  refine ⟨_, Q4j a1 a4 a2 a0 a5 a3 _, ?_⟩
  refine bif_of (fun a8 => ?_) (fun a8 => ?_)
  ·have h := h.1 (of_decide_eq_false (not_t a8))
   have h := h af a6
   exact h
  have h := h.2 (of_decide_eq_true (not_f a8))
  obtain ⟨am, ao, h⟩ := h
  try rw [w64 am ao]
  have h := h af a6
  obtain ⟨an, hk, h⟩ := h
  exact ⟨an, hk, h⟩

theorem Q02.go (a2 : Option Addr) (a1 a0 : Nat) (a3 : Option Addr) (a4 a5 : Nat) {R : RW} {w : World} (h : Q02.N a2 a1 a0 a3 a4 a5 R w) : Calls Try.prog 31 #[.slice a2 a1 a0, .slice a3 a4 a5] w fun e w' => ∃ v, e = .returned v ∧ R v w' := Q02.ok a2 a1 a0 a3 a4 a5 (Q02.up a2 a1 a0 a3 a4 a5 h)
theorem Q02.run (a2 : Option Addr) (a1 a0 : Nat) (a3 : Option Addr) (a4 a5 : Nat) {V : Value} {Q : World → Prop} {w : World} (h : Q02.N a2 a1 a0 a3 a4 a5 (fun v w' => v = V ∧ Q w') w) : Calls Try.prog 31 #[.slice a2 a1 a0, .slice a3 a4 a5] w (Ret V Q) := (Q02.go a2 a1 a0 a3 a4 a5 h).mono fun e w' ⟨v, he, hv, hq⟩ => ⟨by rw [he, hv], hq⟩

end Go.Proofs.Ytoempemllkebkaa
namespace Go.Proofs.Ytoempemllkebkaa
open Go Go.Mx Go.Proofs
def Q04.M (a5 : Option Addr) (a2 a1 a4 : Nat) (a7 a6 : Array Value) (R : RW) (w : World) : Prop :=
 Calls Try.prog 70 #[.slice a5 a2 a1, .func (.func a4) a7 a6] w fun a8 a3 => ∃ (a0 : Int), a8 = .returned (.int .i64 a0) ∧
 R (.bool (decide (a0 ≥ 0))) a3

theorem Q04.ok (a3 : Option Addr) (a1 a0 a2 : Nat) (a5 a4 : Array Value) {R : RW} {w : World} (h : Q04.M a3 a1 a0 a2 a5 a4 R w) : Calls Try.prog 52 #[.slice a3 a1 a0, .func (.func a2) a5 a4] w fun e w' => ∃ v, e = .returned v ∧ R v w' :=
  Q0b follows (H := []) (args := [.slice a3 a1 a0, .func (.func a2) a5 a4]) (cast (by kernel_rfl) h)

def Q04.N (a5 : Option Addr) (a2 a1 a4 : Nat) (a7 a6 : Array Value) (R : RW) (w : World) : Prop :=
 Calls Try.prog 70 #[.slice a5 a2 a1, .func (.func a4) a7 a6] w fun a8 a3 => ∃ (a0 : Int), a8 = .returned (.int .i64 a0) ∧
 R (.bool (decide (a0 ≥ 0))) a3

theorem Q04.up (a4 : Option Addr) (a2 a1 a3 : Nat) (a6 a5 : Array Value) {R : RW} {w : World} (h : Q04.N a4 a2 a1 a3 a6 a5 R w) : Q04.M a4 a2 a1 a3 a6 a5 R w := by
  unfold Q04.M
  unfold Q04.N at h
  refine h.mono fun a8 a7 h => ?_
  obtain ⟨a0, he, h⟩ := h
  refine ⟨a0, he, ?_⟩
  exact h

theorem Q04.go (a3 : Option Addr) (a1 a0 a2 : Nat) (a5 a4 : Array Value) {R : RW} {w : World} (h : Q04.N a3 a1 a0 a2 a5 a4 R w) : Calls Try.prog 52 #[.slice a3 a1 a0, .func (.func a2) a5 a4] w fun e w' => ∃ v, e = .returned v ∧ R v w' := Q04.ok a3 a1 a0 a2 a5 a4 (Q04.up a3 a1 a0 a2 a5 a4 h)
theorem Q04.run (a3 : Option Addr) (a1 a0 a2 : Nat) (a5 a4 : Array Value) {V : Value} {Q : World → Prop} {w : World} (h : Q04.N a3 a1 a0 a2 a5 a4 (fun v w' => v = V ∧ Q w') w) : Calls Try.prog 52 #[.slice a3 a1 a0, .func (.func a2) a5 a4] w (Ret V Q) := (Q04.go a3 a1 a0 a2 a5 a4 h).mono fun e w' ⟨v, he, hv, hq⟩ => ⟨by rw [he, hv], hq⟩

def Q06.M (ae : Option Addr) (a9 af a5 : Nat) (ad ab : Array Value) (R : RW) (w : World) : Prop :=
 ∃ (I0 : Nat → List Value → World → Prop) (m4 : Nat), I0 m4 [.int .i64 0] w ∧ ∀ (m5 : Nat) (a2 : World) (t3 : Int), I0 m5 [.int .i64 t3] a2 →
 bif decide (t3 < (a9 : Int)) then (
 ae.elim False fun a7 =>
 0 ≤ (t3 : Int) ∧ (t3 : Int) < (a9 : Int) ∧
 ∃ (a4 : Option Addr) (a8 a6 : Nat), a2.cell? (a7.add (Int.toNat t3 * 1)) = some (.slice a4 a8 a6) ∧
 bif enters Try.prog a5 then Calls Try.prog a5 (ad.toList ++ ([.slice a4 a8 a6] : List Value) ++ ab.toList).toArray a2 (fun a3 a1 => ∃ (r9 : Bool), a3 = .returned (.bool r9) ∧
 bif r9 then (
 R (.int .i64 t3) a1) else (
 ∃ ac, ac < m5 ∧ I0 ac [.int .i64 (IntKind.i64.wrap (t3 + 1))] a1)) else (∃ (r9 : Bool) (a0 : World), (Q1G a5 (ad.toList ++ ([.slice a4 a8 a6] : List Value) ++ ab.toList).toArray).run Try.prog a2 = .ok (.bool r9) a0 ∧
 bif r9 then (
 R (.int .i64 t3) a0) else (
 ∃ aa, aa < m5 ∧ I0 aa [.int .i64 (IntKind.i64.wrap (t3 + 1))] a0))) else (
 R (.int .i64 (-1)) a2)

theorem Q06.ok (a3 : Option Addr) (a1 a0 a2 : Nat) (a5 a4 : Array Value) {R : RW} {w : World} (h : Q06.M a3 a1 a0 a2 a5 a4 R w) : Calls Try.prog 70 #[.slice a3 a1 a0, .func (.func a2) a5 a4] w fun e w' => ∃ v, e = .returned v ∧ R v w' :=
  Q0b follows (H := [(0, [0, 1, 7], [(8, (.one (.int .i64)))])]) (args := [.slice a3 a1 a0, .func (.func a2) a5 a4]) (cast (by kernel_rfl) h)

def Q06.N (ab : Option Addr) (a5 ae aa : Nat) (ad ac : Array Value) (R : RW) (w : World) : Prop :=
 ∃ (I0 : Nat → List Value → World → Prop) (m4 : Nat), I0 m4 [.int .i64 0] w ∧ ∀ (m5 : Nat) (a4 : World) (t3 : Int), I0 m5 [.int .i64 t3] a4 →
 (t3 < (a5 : Int) →
 ∃ a8 : Addr, ab = some a8 ∧
 0 ≤ (t3 : Int) ∧ (t3 : Int) < (a5 : Int) ∧
 ∃ (a2 : Option Addr) (a3 a0 : Nat), a4.cell? (a8.add (Int.toNat t3 * 1)) = some (.slice a2 a3 a0) ∧
 enters Try.prog aa = true ∧ Calls Try.prog aa (ad.toList ++ ([.slice a2 a3 a0] : List Value) ++ ac.toList).toArray a4 (fun a6 a1 => ∃ (a7 : Bool), a6 = .returned (.bool a7) ∧
 (a7 = true →
 R (.int .i64 t3) a1) ∧
 (a7 = false →
 (-9223372036854775808 : Int) ≤ (t3 + 1) ∧ (t3 + 1) < 9223372036854775808 ∧
 ∃ a9, a9 < m5 ∧ I0 a9 [.int .i64 (t3 + 1)] a1))) ∧
 ((a5 : Int) ≤ t3 →
 R (.int .i64 (-1)) a4)

theorem Q06.up (aa : Option Addr) (a6 a4 a9 : Nat) (a7 a5 : Array Value) {R : RW} {w : World} (h : Q06.N aa a6 a4 a9 a7 a5 R w) : Q06.M aa a6 a4 a9 a7 a5 R w := by
  unfold Q06.M
  unfold Q06.N at h
  obtain ⟨I0, m4, h0, h⟩ := h
  refine ⟨I0, m4, h0, fun m5 af t3 hI => ?_⟩
  have h := h m5 af t3 hI
  refine bif_fo (fun c7 => ?_) (fun c7 => ?_)
  ·have h := h.2 (Int.not_lt.1 (of_decide_eq_false c7))
   exact h
  have h := h.1 (of_decide_eq_true c7)
  obtain ⟨a8, ac, h⟩ := h
  refine Q0s ac ?_
  obtain ⟨ag, ad, h⟩ := h
  refine ⟨ag, ad, ?_⟩
  obtain ⟨a0, a3, a2, ak, h⟩ := h
  refine ⟨a0, a3, a2, ak, ?_⟩
  obtain ⟨hen, h⟩ := h
  refine bif_tt hen ?_
  refine h.mono fun ah ai h => ?_
  obtain ⟨al, he, h⟩ := h
  refine ⟨al, he, ?_⟩
  refine bif_of (fun a1 => ?_) (fun a1 => ?_)
  ·have h := h.1 a1
   exact h
  have h := h.2 a1
  obtain ⟨ae, aj, h⟩ := h
  try rw [w64 ae aj]
  obtain ⟨ab, hk, h⟩ := h
  exact ⟨ab, hk, h⟩

theorem Q06.go (a3 : Option Addr) (a1 a0 a2 : Nat) (a5 a4 : Array Value) {R : RW} {w : World} (h : Q06.N a3 a1 a0 a2 a5 a4 R w) : Calls Try.prog 70 #[.slice a3 a1 a0, .func (.func a2) a5 a4] w fun e w' => ∃ v, e = .returned v ∧ R v w' := Q06.ok a3 a1 a0 a2 a5 a4 (Q06.up a3 a1 a0 a2 a5 a4 h)
def Q0o.M (a1 : Option Addr) (a0 a2 : Nat) (R : RW) (w : World) : Prop :=
 R (.bool (decide ((a0 : Int) > 4000))) w

theorem Q0o.ok (a0 : Option Addr) (a2 a1 : Nat) {R : RW} {w : World} (h : Q0o.M a0 a2 a1 R w) : Calls Try.prog 53 #[.slice a0 a2 a1] w fun e w' => ∃ v, e = .returned v ∧ R v w' :=
  Q0b follows (H := []) (args := [.slice a0 a2 a1]) (cast (by kernel_rfl) h)

def Q0o.N (a1 : Option Addr) (a0 a2 : Nat) (R : RW) (w : World) : Prop :=
 R (.bool (decide ((a0 : Int) > 4000))) w

theorem Q0o.up (a0 : Option Addr) (a2 a1 : Nat) {R : RW} {w : World} (h : Q0o.N a0 a2 a1 R w) : Q0o.M a0 a2 a1 R w := by
  unfold Q0o.M
  unfold Q0o.N at h
  exact h

theorem Q0o.go (a0 : Option Addr) (a2 a1 : Nat) {R : RW} {w : World} (h : Q0o.N a0 a2 a1 R w) : Calls Try.prog 53 #[.slice a0 a2 a1] w fun e w' => ∃ v, e = .returned v ∧ R v w' := Q0o.ok a0 a2 a1 (Q0o.up a0 a2 a1 h)
theorem Q0o.run (a0 : Option Addr) (a2 a1 : Nat) {V : Value} {Q : World → Prop} {w : World} (h : Q0o.N a0 a2 a1 (fun v w' => v = V ∧ Q w') w) : Calls Try.prog 53 #[.slice a0 a2 a1] w (Ret V Q) := (Q0o.go a0 a2 a1 h).mono fun e w' ⟨v, he, hv, hq⟩ => ⟨by rw [he, hv], hq⟩

end Go.Proofs.Ytoempemllkebkaa