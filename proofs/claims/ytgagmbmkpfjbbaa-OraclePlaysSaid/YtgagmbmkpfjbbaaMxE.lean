/- Regions, code and functions: what they ask, as a predicate. -/
import Derived.Test.YtgagmbmkpfjbbaaMxD
import Derived.Orders
import Derived.Carry
set_option linter.unusedSimpArgs false
set_option linter.unusedVariables false
set_option linter.unnecessarySimpa false
namespace Go.Mx

def opnds : Op → List Operand
  | .alloc _ | .ready _ | .waits _ => []
  | .move x | .assign x | .box _ x | .load _ x | .nilCheck x | .unOp _ _ x | .convert _ _ x | .sliceToArrayPointer _ x | .makeInterface _ x
  | .makeChan _ x | .fieldAddr _ x _ | .field _ x _ | .range _ x | .next x _ | .entry x | .typeAssert x _ _ _ | .extract x _ | .panic x | .recv _ x _ => [x]
  | .pick c a b => [c, a, b]
  | .build _ ps | .buildSlice _ _ ps => ps.toList.map (·.2)
  | .store _ a v | .binOp _ _ a v _ | .makeSlice _ a v | .indexAddr _ a v | .index _ a v | .lookup _ a v _ | .mapEntry _ a v | .send a v => [a, v]
  | .makeFunc _ first captured => first.toList ++ captured.toList
  | .makeMap _ r => r.toList
  | .slice _ x l h m => x :: (l.toList ++ h.toList ++ m.toList)
  | .mapUpdate _ m k v | .entryStore _ m k v | .insert _ m k v => [m, k, v]
  | .call c | .go c | .defer c => (match c.callee with | .value f => [f] | .invoke r _ => [r] | .builtin _ => []) ++ c.args.toList
  | .select cs _ => []

theorem opnds_mem {op : Op} (hs : ∀ cs b, op ≠ .select cs b) {x : Operand} (h : x ∈ op.operands) : x ∈ opnds op := by
  cases op <;> simp only [Op.operands] at h <;> simp only [opnds]
  case select cs b => exact absurd rfl (hs cs b)
  case call c => simp only [Call.operands] at h; cases hc : c.callee <;> simp [hc] at h ⊢ <;> exact h
  case go c => simp only [Call.operands] at h; cases hc : c.callee <;> simp [hc] at h ⊢ <;> exact h
  case defer c => simp only [Call.operands] at h; cases hc : c.callee <;> simp [hc] at h ⊢ <;> exact h
  all_goals (first | (simpa using h) | (simp at h ⊢; done) | (simp [or_assoc] at h ⊢; exact h))

def isSel : Op → Bool | .select .. => true | _ => false
theorem isSel_false {op : Op} (h : isSel op = false) : ∀ cs b, op ≠ .select cs b := fun cs b e => by subst e; simp [isSel] at h

/-- an operation, its operands known. -/
def mopF (P : Program) (f : Fs) (o : Oper) (w : World) (K : Value → World → Prop) : Prop :=
  bif known f (opnds o.op) then mop P (rho f) o w K else False
def mrdF (P : Program) (f : Fs) (o : Oper) (w : World) (K : Value → Chi → Prop) : Prop :=
  bif known f (opnds o.op) then mrd P (rho f) o w K else False
def meffF (P : Program) (f : Fs) (o : Oper) (w : World) (K : Value → World → Prop) : Prop :=
  bif known f (opnds o.op) then meff P (rho f) o w K else False

theorem exec_rho {n : Nat} {f : Fs} {a : Act} (h : Fr n f a) {o : Oper} (hk : known f (opnds o.op) = true) (hs : isSel o.op = false) :
    execOp a.eval o = execOp (rho f) o :=
  execOp_congr o (isSel_false hs) fun x hx => h.eval (known_mem hk x (opnds_mem (isSel_false hs) hx))

theorem mrd_notSel {P : Program} {ρ : Operand → Value} {o : Oper} {w : World} {K : Value → Chi → Prop} (h : mrd P ρ o w K) : isSel o.op = false := by
  cases ho : o.op <;> simp only [mrd, ho] at h <;> first | exact h.elim | rfl
theorem meff_notSel {P : Program} {ρ : Operand → Value} {o : Oper} {w : World} {K : Value → World → Prop} (h : meff P ρ o w K) : isSel o.op = false := by
  cases ho : o.op <;> simp only [meff, ho] at h <;> first | exact h.elim | rfl
theorem mop_notSel {P : Program} {ρ : Operand → Value} {o : Oper} {w : World} {K : Value → World → Prop} (h : mop P ρ o w K) : isSel o.op = false := by
  unfold mop at h
  cases hr : isRd P o.op
  · simp only [hr, cond_false] at h; exact meff_notSel h
  · simp only [hr, cond_true] at h; exact mrd_notSel h

theorem mopF_ok {P : Program} {n : Nat} {f : Fs} {a : Act} {o : Oper} {w : World} {K : Value → World → Prop} (hf : Fr n f a) (h : mopF P f o w K) :
    OpOk P (execOp a.eval o) w K := by
  unfold mopF at h
  cases hk : known f (opnds o.op)
  · simp [hk] at h
  · simp only [hk, cond_true] at h
    rw [exec_rho hf hk (mop_notSel h)]
    exact mop_ok h
theorem meffF_ok {P : Program} {n : Nat} {f : Fs} {a : Act} {o : Oper} {w : World} {K : Value → World → Prop} (hf : Fr n f a) (h : meffF P f o w K) :
    OpOk P (execOp a.eval o) w K := by
  unfold meffF at h
  cases hk : known f (opnds o.op)
  · simp [hk] at h
  · simp only [hk, cond_true] at h
    rw [exec_rho hf hk (meff_notSel h)]
    exact meff_ok h
theorem mrdF_ok {P : Program} {n : Nat} {f : Fs} {a : Act} {o : Oper} {w : World} {K : Value → Chi → Prop} (hf : Fr n f a) (h : mrdF P f o w K) :
    Good P (execOp a.eval o) w K := by
  unfold mrdF at h
  cases hk : known f (opnds o.op)
  · simp [hk] at h
  · simp only [hk, cond_true] at h
    rw [exec_rho hf hk (mrd_notSel h)]
    exact mrd_ok h

/-! ### guards -/
abbrev Dg := List (Nat × Bool)
def dget : Dg → Nat → Option Bool
  | [], _ => none
  | p :: r, t => bif Nat.beq p.1 t then some p.2 else dget r t
def ddrop (d : Nat) : Dg → Dg
  | [] => []
  | p :: r => bif Nat.beq p.1 d then ddrop d r else p :: ddrop d r
def DgOk (dg : Dg) (f : Fs) : Prop := ∀ s b, dget dg s = some b → get f s = some (.bool b)
theorem dget_ddrop {d s : Nat} {b : Bool} : ∀ {dg : Dg}, dget (ddrop d dg) s = some b → dget dg s = some b ∧ d ≠ s
  | [], h => by simp [ddrop, dget] at h
  | p :: r, h => by
    simp only [ddrop] at h
    cases hp : Nat.beq p.1 d
    · simp only [hp, cond_false, dget] at h
      simp only [dget]
      cases hs : Nat.beq p.1 s
      · simp only [hs, cond_false] at h ⊢; exact dget_ddrop h
      · simp only [hs, cond_true] at h ⊢
        refine ⟨h, fun e => ?_⟩
        subst e; rw [hp] at hs; cases hs
    · simp only [hp, cond_true] at h
      have h' := dget_ddrop h
      simp only [dget]
      have e := beq_true hp
      cases hs : Nat.beq p.1 s
      · simp only [cond_false]; exact h'
      · have := beq_true hs
        exact absurd (e.symm.trans this) h'.2
theorem DgOk.put {dg : Dg} {f : Fs} (h : DgOk dg f) (d : Nat) (v : Value) : DgOk (ddrop d dg) ((d, v) :: f) := by
  intro s b hs
  obtain ⟨h1, h2⟩ := dget_ddrop hs
  simp only [get]
  cases hb : Nat.beq d s
  · simp only [cond_false]; exact h s b h1
  · exact absurd (beq_true hb) h2

/-- whether a guarded operation is wanted; parts once for each guard. -/
def gsplit (lo f : Fs) (dg : Dg) (s : Nat) (Φ : Bool → Dg → Fs → Prop) : Prop :=
  match dget dg s with
  | some b => Φ b dg f
  | none =>
    match get (f ++ lo) s with
    | some (.bool b) => bif b then Φ true ((s, true) :: dg) ((s, .bool true) :: f) else Φ false ((s, false) :: dg) ((s, .bool false) :: f)
    | _ => False
/-- a slot of an operation that was not wanted. -/
def unwanted : Option Value → Bool
  | some (.tuple ⟨[]⟩) => true
  | _ => false
def gask (ops : List Oper) (lo f : Fs) (dg : Dg) (o : Oper) (Φ : Bool → Dg → Fs → Prop) : Prop :=
  match o.guard with
  | none => Φ true dg f
  | some (j, want) =>
    match (ops[j]?).bind (·.dst) with
    | some s => bif unwanted (get (f ++ lo) s) then Φ false dg f else gsplit lo f dg s fun b dg' f' => Φ (bif b then want else !want) dg' f'
    | none => False

theorem gask_ok {P : Program} {n : Nat} {ops : List Oper} {lo f : Fs} {dg : Dg} {o : Oper} {Φ : Bool → Dg → Fs → Prop} {a : Act}
    (h : gask ops lo f dg o Φ) (hf : Fr n (f ++ lo) a) (hd : DgOk dg (f ++ lo)) :
    ∃ b dg' f', Region.wanted o (yielded ops.toArray a.tmps) = b ∧ Φ b dg' f' ∧ Fr n (f' ++ lo) a ∧ DgOk dg' (f' ++ lo) := by
  unfold gask at h
  cases hg : o.guard with
  | none =>
    simp only [hg] at h
    exact ⟨true, dg, f, by simp [Region.wanted, hg], h, hf, hd⟩
  | some p =>
    obtain ⟨j, want⟩ := p
    simp only [hg] at h
    cases hs : (ops[j]?).bind (·.dst) with
    | none => simp only [hs] at h
    | some s =>
      simp only [hs] at h
      have hy : ∀ b, get (f ++ lo) s = some (.bool b) → yielded ops.toArray a.tmps j = some b := fun b hb => by
        have := hf.at_ s _ hb
        simp [yielded, hs, this]
      have hw : ∀ b, get (f ++ lo) s = some (.bool b) → Region.wanted o (yielded ops.toArray a.tmps) = (bif b then want else !want) := fun b hb => by
        simp only [Region.wanted, hg, hy b hb]
        cases b <;> cases want <;> rfl
      by_cases hun : unwanted (get (f ++ lo) s) = true
      · simp only [hun, cond_true] at h
        have hv : get (f ++ lo) s = some undef := by
          cases hg : get (f ++ lo) s with
          | none => rw [hg] at hun; cases hun
          | some v =>
            rw [hg] at hun
            unfold unwanted at hun
            split at hun
            · rename_i heq; rw [heq]; rfl
            · cases hun
        refine ⟨false, dg, f, ?_, h, hf, hd⟩
        have := hf.at_ s _ hv
        simp [Region.wanted, hg, yielded, hs, this, undef]
      have hun' : unwanted (get (f ++ lo) s) = false := by simpa using hun
      simp only [hun', cond_false] at h
      unfold gsplit at h
      cases hdg : dget dg s with
      | some b =>
        simp only [hdg] at h
        exact ⟨_, dg, f, hw b (hd s b hdg), h, hf, hd⟩
      | none =>
        simp only [hdg] at h
        split at h
        · rename_i b hb
          have hput : ∀ c : Bool, get (f ++ lo) s = some (.bool c) → Fr n (((s, .bool c) :: f) ++ lo) a ∧ DgOk ((s, c) :: dg) (((s, .bool c) :: f) ++ lo) := fun c hc => by
            refine ⟨⟨hf.size, hf.defers, fun t u ht => ?_⟩, fun t u ht => ?_⟩
            · simp only [List.cons_append, get] at ht
              cases hb' : Nat.beq s t
              · simp only [hb', cond_false] at ht; exact hf.at_ t u ht
              · simp only [hb', cond_true, Option.some.injEq] at ht
                have e := beq_true hb'
                subst e; subst ht
                exact hf.at_ _ _ hc
            · simp only [List.cons_append, get]
              simp only [dget] at ht
              cases hb' : Nat.beq s t
              · simp only [hb', cond_false] at ht ⊢; exact hd t u ht
              · simp only [hb', cond_true, Option.some.injEq] at ht ⊢; subst ht; rfl
          cases b
          · simp only [cond_false] at h
            exact ⟨_, _, _, hw false hb, h, hput false hb⟩
          · simp only [cond_true] at h
            exact ⟨_, _, _, hw true hb, h, hput true hb⟩
        · exact h.elim

/-- what an operation leaves in its slot. -/
def putK (N : Nat) (d : Option Nat) (v : Value) (dg : Dg) (f : Fs) (Φ : Dg → Fs → Prop) : Prop :=
  match d with
  | none => Φ dg f
  | some d => bif Nat.blt d N then Φ (ddrop d dg) ((d, v) :: f) else False
theorem putK_ok {N : Nat} {d : Option Nat} {v : Value} {dg : Dg} {lo f : Fs} {Φ : Dg → Fs → Prop} {a : Act} (h : putK N d v dg f Φ) (hf : Fr N (f ++ lo) a) (hd : DgOk dg (f ++ lo)) :
    ∃ dg' f', Φ dg' f' ∧ Fr N (f' ++ lo) (a.put d v) ∧ DgOk dg' (f' ++ lo) := by
  cases d with
  | none => exact ⟨dg, f, h, hf, hd⟩
  | some d =>
    simp only [putK] at h
    cases hb : Nat.blt d N
    · simp [hb] at h
    · simp only [hb, cond_true] at h
      exact ⟨_, _, h, hf.put hb v, hd.put d v⟩

/-- a region that is carried out in the text's order. -/
def mops (P : Program) (N : Nat) (ops : List Oper) (lo : Fs) : List Oper → Dg → Fs → World → (Fs → World → Prop) → Prop
  | [], _, f, w, K => K f w
  | o :: rest, dg, f, w, K =>
    gask ops lo f dg o fun b dg f =>
      bif b then mopF P (f ++ lo) o w fun v w' => putK N o.dst v dg f fun dg f => mops P N ops lo rest dg f w' K
      else putK N o.dst undef dg f fun dg f => mops P N ops lo rest dg f w K

theorem mops_ok {P : Program} {N : Nat} {ops : List Oper} {lo : Fs} {Q : Exit → Act → World → Prop} {K : Fs → World → Prop}
    (hQ : ∀ f w a, K f w → Fr N (f ++ lo) a → Q .normal a w) :
    ∀ (l : List Oper) (dg : Dg) (f : Fs) (w : World) (a : Act), mops P N ops lo l dg f w K → Fr N (f ++ lo) a → DgOk dg (f ++ lo) → wpList P ops.toArray Q l a w
  | [], dg, f, w, a, h, hf, hd => hQ f w a h hf
  | o :: rest, dg, f, w, a, h, hf, hd => by
    simp only [mops] at h
    obtain ⟨b, dg1, f1, hb, h, hf1, hd1⟩ := gask_ok (P := P) h hf hd
    unfold wpList
    cases b
    · rw [hb]
      simp only [cond_false] at h
      obtain ⟨dg2, f2, h, hf2, hd2⟩ := putK_ok h hf1 hd1
      exact mops_ok hQ rest dg2 f2 w _ h hf2 hd2
    · rw [hb]
      simp only [cond_true] at h
      refine .inl ((mopF_ok hf1 h).wp fun v w' h => ?_)
      obtain ⟨dg2, f2, h, hf2, hd2⟩ := putK_ok h hf1 hd1
      exact mops_ok hQ rest dg2 f2 w' _ h hf2 hd2

end Go.Mx
