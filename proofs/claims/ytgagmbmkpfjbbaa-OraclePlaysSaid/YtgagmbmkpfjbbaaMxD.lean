/- Operations that write, make memory, or call. -/
import Derived.Test.YtgagmbmkpfjbbaaMxC
set_option linter.unusedSimpArgs false
set_option linter.unusedVariables false
namespace Go.Mx

def enters (P : Program) (k : Nat) : Bool :=
  match P.funcs[k]? with
  | some fn => fn.body.isSome && !(fn.name == "runtime.NumGoroutine")
  | none => false

/-- a call that the model answers at once (a function with no body). -/
def externCall (k : Nat) (args : Array Value) : Sem Value := do
  match (← callFunc k args) with
  | .value v => pure v
  | _ => stuck "a function with a body"
/-- a call of a function that has a body; its result is of a shape. -/
def callK (P : Program) (k : Nat) (args : List Value) (ty : TypeId) (w : World) (K : Value → World → Prop) : Prop :=
  bif enters P k then Calls P k args.toArray w (fun e w' => resEx P ty fun v => e = .returned v ∧ K v w') else resEx P ty fun v => ∃ w', (externCall k args.toArray).run P w = .ok v w' ∧ K v w'

def canStore (w : World) (a : Addr) : Prop := (∃ u, w.cell? a = some u) ∧ w.frozen? a = false
def storesK (a : Addr) : List Value → Nat → World → (World → Prop) → Prop
  | [], _, w, K => K w
  | v :: r, i, w, K => canStore w (a.add i) ∧ bif v.oneCell' then storesK a r (i + 1) (w.setCell (a.add i) v) K else False

section
variable (P : Program) (ρ : Operand → Value)

/-- a run that writes, taken as it is. -/
def runV (ty : TypeId) (s : Sem Value) (w : World) (K : Value → World → Prop) : Prop :=
  resEx P ty fun v => ∃ w', s.run P w = .ok v w' ∧ K v w'
def runU (s : Sem Unit) (w : World) (K : Value → World → Prop) : Prop := ∃ w', s.run P w = .ok () w' ∧ K undef w'

def mslit (t : TypeId) (len : Nat) (parts : List (Nat × Value)) (w : World) (K : Value → World → Prop) : Prop :=
  match P.underlying t with
  | some (.slice e) =>
    match P.info? e with
    | some i =>
      match i.zero with
      | some z =>
        bif Nat.ble (len * i.size) (2 ^ 24) then
          (match Instr.fill (fun j => some (j * i.size, i.size)) (bif Nat.beq (len * i.size) 0 then #[] else (Array.range (len * i.size)).map (z.cells[· % z.cells.size]!)) parts with
          | some cells => K (.slice (some ⟨w.heap.size, 0, none⟩) len len) (w.alloc (.cells cells e))
          | none => False)
        else False
      | none => False
    | none => False
  | _ => False

def meff (o : Oper) (w : World) (K : Value → World → Prop) : Prop :=
  match o.op with
  | .alloc e =>
    match P.info? e with
    | some i => (match i.zero with | some z => K (.pointer (some ⟨w.heap.size, 0, none⟩)) (w.alloc (.cells z.cells e)) | none => False)
    | none => False
  | .box e x => K (.pointer (some ⟨w.heap.size, 0, none⟩)) (w.alloc (.cells (ρ x).cells e))
  | .buildSlice t len parts => mslit P t len (parts.toList.map fun p => (p.1, ρ p.2)) w K
  | .makeMap _ r => match r with | none => K (.map (some w.heap.size)) (w.alloc (.map #[] 0)) | some _ => False
  | .makeSlice t l c => runV P o.type (Instr.makeSlice t (ρ l) (ρ c)) w K
  | .store t a x =>
    match ρ a with
    | .pointer (some ad) => bif szB P t (ρ x).cells.size then storesK ad (ρ x).cells.toList 0 w (fun w' => K undef w') else False
    | _ => False
  | .convert s d x => runV P o.type (convert s d (ρ x)) w K
  | .mapUpdate t m k x => runU P (Instr.mapUpdate t (ρ m) (ρ k) (ρ x)) w K
  | .mapEntry t m k =>
    (match P.underlying t with
    | some (.map _ e) => (shOf P e).ex fun v => ∃ (n : Int) (w' : World), (Instr.mapEntry t (ρ m) (ρ k)).run P w = .ok (.tuple #[v, .int .i64 n]) w' ∧ K (.tuple #[v, .int .i64 n]) w'
    | _ => False)
  | .entryStore t m s x => runU P (Instr.entryStore t (ρ m) (ρ s) (ρ x)) w K
  | .range t x => runV P o.type (Instr.range t (ρ x)) w K
  | .next it isString => runV P o.type (Instr.next (ρ it) isString o.type) w K
  | .call c =>
    match c.callee with
    | .value f =>
      (match ρ f with
      | .func (.func k) first cap => callK P k (first.toList ++ c.args.toList.map ρ ++ cap.toList) o.type w K
      | _ => False)
    | .builtin .append => runV P o.type (Builtin.append_ c.argTypes o.type (c.args.toList.map ρ).toArray) w K
    | .builtin .copy => runV P o.type (Builtin.copy_ c.argTypes o.type (c.args.toList.map ρ).toArray) w K
    | .builtin .delete => runV P o.type (Builtin.delete_ c.argTypes o.type (c.args.toList.map ρ).toArray) w K
    | .builtin .clear => runV P o.type (Builtin.clear_ c.argTypes o.type (c.args.toList.map ρ).toArray) w K
    | _ => False
  | _ => False

def isRd (op : Op) : Bool :=
  match op with
  | .move _ | .assign _ | .pick .. | .nilCheck _ | .binOp .. | .unOp .. | .extract .. | .fieldAddr .. | .field .. | .indexAddr .. | .index .. | .slice ..
  | .makeFunc .. | .makeInterface .. | .build .. | .load .. | .lookup .. | .typeAssert .. => true
  | .convert s d _ => (match P.underlying s, P.underlying d with | some (.slice _), some (.slice _) => false | some .string, some (.slice _) => false | _, _ => true)
  | .call c => (match c.callee with | .builtin .len => true | .builtin .cap => true | .builtin .max => true | .builtin .min => true | _ => false)
  | _ => false

def mop (o : Oper) (w : World) (K : Value → World → Prop) : Prop :=
  bif isRd P o.op then mrd P ρ o w (fun v _ => K v w) else meff P ρ o w K
end

section
variable {P : Program} {ρ : Operand → Value}

/-- what an operation's run must come to. -/
def OpOk (P : Program) (s : Sem Next) (w : World) (K : Value → World → Prop) : Prop :=
  match s.run P w with
  | .ok (.value v) w' => K v w'
  | .ok .skip w' => K undef w'
  | .ok (.enter k args) w' => Calls P k args w' fun e w'' => ∃ v, e = .returned v ∧ K v w''
  | _ => False

theorem OpOk.mono {s : Sem Next} {w : World} {K K' : Value → World → Prop} (h : OpOk P s w K) (hk : ∀ v w', K v w' → K' v w') : OpOk P s w K' := by
  unfold OpOk at *
  split at h
  · exact hk _ _ h
  · exact hk _ _ h
  · exact h.mono fun e w'' ⟨v, he, h⟩ => ⟨v, he, hk _ _ h⟩
  · exact h.elim

theorem OpOk.of_good {s : Sem Next} {w : World} {K : Value → World → Prop} (h : Good P s w (fun v _ => K v w)) : OpOk P s w K := by
  obtain ⟨v, χ, h1, h2, h3⟩ := h
  unfold OpOk
  rw [h2 w h1]
  exact h3
theorem OpOk.of_run {s : Sem Value} {w w' : World} {v : Value} {K : Value → World → Prop} (h : s.run P w = .ok v w') (hK : K v w') : OpOk P (do pure (Next.value (← s))) w K := by
  unfold OpOk
  simp [h, hK]
theorem OpOk.of_runU {s : Sem Unit} {w w' : World} {K : Value → World → Prop} (h : s.run P w = .ok () w') (hK : K undef w') : OpOk P (do s; pure Next.skip) w K := by
  unfold OpOk
  simp [h, hK]
theorem OpOk.of_runV {ty : TypeId} {s : Sem Value} {w : World} {K : Value → World → Prop} (h : runV P ty s w K) : OpOk P (do pure (Next.value (← s))) w K := by
  obtain ⟨v, w', h1, h2⟩ := resEx_out h
  exact .of_run h1 h2

theorem oneCell_eq (v : Value) : v.oneCell' = true → ∀ cs, v ≠ .agg cs := fun h cs e => by subst e; simp [Value.oneCell'] at h

theorem storesK_ok {a : Addr} : ∀ {vs : List Value} {i : Nat} {w : World} {K : World → Prop}, storesK a vs i w K → ∃ w', (storeCells a vs i).run P w = .ok () w' ∧ K w'
  | [], i, w, K, h => ⟨w, by simp [storeCells], h⟩
  | v :: r, i, w, K, h => by
    obtain ⟨⟨⟨u, hu⟩, hf⟩, h⟩ := h
    cases hv : v.oneCell'
    · simp [hv] at h
    · simp only [hv, cond_true] at h
      obtain ⟨w', h1, h2⟩ := storesK_ok h
      exact ⟨w', by simp [storeCells, run_store _ _ _ _ _ hv, hu, hf, h1], h2⟩

theorem callFunc_ok {k : Nat} {args : Array Value} (h : enters P k = true) (w : World) : (callFunc k args).run P w = .ok (.enter k args) w := by
  unfold enters at h
  split at h
  · rename_i fn hfn
    simp only [Bool.and_eq_true, Bool.not_eq_true'] at h
    obtain ⟨h1, h2⟩ := h
    obtain ⟨b, hb⟩ := Option.isSome_iff_exists.1 h1
    simp only [callFunc, Sem.run_bind, run_program, Result.andThen_ok, hfn, h2, hb]
    simp
  · cases h

theorem mslit_ok {t : TypeId} {len : Nat} {parts : Array (Nat × Value)} {w : World} {K : Value → World → Prop} (h : mslit P t len parts.toList w K) :
    ∃ v w', (Instr.buildSlice t len parts).run P w = .ok v w' ∧ K v w' := by
  unfold mslit at h
  split at h
  · rename_i e hu
    split at h
    · rename_i i hi
      split at h
      · rename_i z hz
        cases hb : Nat.ble (len * i.size) (2 ^ 24)
        · simp [hb] at h
        · simp only [hb, cond_true] at h
          have hle : ¬ (len * i.size > 2 ^ 24) := by have := Nat.le_of_ble_eq_true hb; omega
          split at h
          · rename_i cells hf
            refine ⟨_, _, ?_, h⟩
            by_cases h0 : len * i.size = 0
            · simp only [h0, Nat.beq_refl, cond_true] at hf
              have hr : ∀ f : Nat → Value, Array.map f (Array.range 0) = #[] := fun f => by apply Array.ext'; simp
              simp [Instr.buildSlice, run_underlying' hu, run_sizeOf' hi, h0, hr, hf, newRow]
            · have hb0 : Nat.beq (len * i.size) 0 = false := by
                cases hb : Nat.beq (len * i.size) 0
                · rfl
                · exact absurd (beq_true hb) h0
              simp only [hb0, cond_false] at hf
              simp [Instr.buildSlice, run_underlying' hu, run_sizeOf' hi, h0, hle, zeroValue, run_typeInfo' hi, hz, hf, newRow]
          · exact h.elim
      · exact h.elim
    · exact h.elim
  · exact h.elim

theorem meff_ok {o : Oper} {w : World} {K : Value → World → Prop} (h : meff P ρ o w K) : OpOk P (execOp ρ o) w K := by
  unfold meff at h
  split at h
  · rename_i e ho
    split at h
    · rename_i i hi
      split at h
      · rename_i z hz
        simp only [execOp, ho]
        exact .of_run (by simp [Instr.alloc, zeroValue, run_typeInfo' hi, hz, newVar, newRow]) h
      · exact h.elim
    · exact h.elim
  · rename_i e x ho
    simp only [execOp, ho]
    exact .of_run (by simp [Instr.box, newVar, newRow]) h
  · rename_i t len parts ho
    have h' : mslit P t len ((parts.map fun (i, x) => (i, ρ x)).toList) w K := by simpa using h
    obtain ⟨v, w', h1, h2⟩ := mslit_ok h'
    simp only [execOp, ho]
    exact .of_run h1 h2
  · rename_i t r ho
    split at h
    · simp only [execOp, ho]
      exact .of_run (by simp [Instr.makeMap]) h
    · exact h.elim
  · rename_i t l c ho
    simp only [execOp, ho]
    exact .of_runV h
  · rename_i t a x ho
    split at h
    · rename_i ad ha
      cases hs : szB P t (ρ x).cells.size
      · simp [hs] at h
      · simp only [hs, cond_true] at h
        obtain ⟨i, hi, hz⟩ := szB_some hs
        obtain ⟨w', h1, h2⟩ := storesK_ok (P := P) h
        simp only [execOp, ho]
        refine .of_runU (w' := w') ?_ h2
        simp [Instr.storeAt, ha, Instr.sureAddr, storeVar, run_sizeOf' hi, hz, h1]
    · exact h.elim
  · rename_i s d x ho
    simp only [execOp, ho]
    exact .of_runV h
  · rename_i t m k x ho
    obtain ⟨w', h1, h2⟩ := h
    simp only [execOp, ho]
    exact .of_runU h1 h2
  · rename_i t m k ho
    split at h
    · obtain ⟨v, n, w', h1, h2⟩ := Sh.ex_out h
      simp only [execOp, ho]
      exact .of_run h1 h2
    · exact h.elim
  · rename_i t m k x ho
    obtain ⟨w', h1, h2⟩ := h
    simp only [execOp, ho]
    exact .of_runU h1 h2
  · rename_i t x ho
    simp only [execOp, ho]
    exact .of_runV h
  · rename_i it b ho
    simp only [execOp, ho]
    exact .of_runV h
  · rename_i c ho
    have hargs : c.args.map ρ = (c.args.toList.map ρ).toArray := by apply Array.ext'; simp
    split at h
    · rename_i f hf
      split at h
      · rename_i k first cap hk
        unfold callK at h
        cases he : enters P k
        · simp only [he, cond_false] at h
          obtain ⟨v, w', h1, h2⟩ := resEx_out h
          have hr : execOp ρ o = callFunc k (first.toList ++ c.args.toList.map ρ ++ cap.toList).toArray := by
            simp only [execOp, ho, resolve, hf, hk, Deferred.ofValue, pure_bind, invoke]
            congr 1
            apply Array.ext'
            simp
          rw [hr]
          unfold OpOk
          unfold externCall at h1
          simp only [Sem.run_bind] at h1
          generalize (callFunc k (first.toList ++ c.args.toList.map ρ ++ cap.toList).toArray).run P w = q at *
          cases q with
          | ok n w1 =>
            simp only [Result.andThen_ok] at h1
            cases n <;> simp only [Sem.run_pure, Result.ok.injEq] at h1
            case value u =>
              obtain ⟨rfl, rfl⟩ := h1
              exact h2
            all_goals (first | (cases h1; done) | (simp [stuck] at h1; done))
          | halt x w1 => simp [Result.andThen] at h1
        · simp only [he, cond_true] at h
          unfold OpOk
          have hr : (execOp ρ o).run P w = .ok (.enter k (first.toList ++ c.args.toList.map ρ ++ cap.toList).toArray) w := by
            simp only [execOp, ho, resolve, hf, hk, Deferred.ofValue, pure_bind, invoke, Sem.run_bind, Sem.run_pure, Result.andThen_ok, callFunc_ok he]
            congr 2
            apply Array.ext'
            simp
          rw [hr]
          refine h.mono fun e w'' hh => ?_
          obtain ⟨v, h1, h2⟩ := resEx_out hh
          exact ⟨v, h1, h2⟩
      · exact h.elim
    · rename_i hf
      simp only [execOp, ho, resolve, hf, pure_bind, invoke, builtin, hargs]
      exact .of_runV h
    · rename_i hf
      simp only [execOp, ho, resolve, hf, pure_bind, invoke, builtin, hargs]
      exact .of_runV h
    · rename_i hf
      simp only [execOp, ho, resolve, hf, pure_bind, invoke, builtin, hargs]
      exact .of_runV h
    · rename_i hf
      simp only [execOp, ho, resolve, hf, pure_bind, invoke, builtin, hargs]
      exact .of_runV h
    · exact h.elim
  · exact h.elim

theorem mop_ok {o : Oper} {w : World} {K : Value → World → Prop} (h : mop P ρ o w K) : OpOk P (execOp ρ o) w K := by
  unfold mop at h
  cases hr : isRd P o.op
  · simp only [hr, cond_false] at h; exact meff_ok h
  · simp only [hr, cond_true] at h; exact .of_good (mrd_ok h)

theorem OpOk.wp {o : Oper} {a : Act} {w : World} {K : Act → World → Prop} {Q : Exit → Act → World → Prop} {K' : Value → World → Prop}
    (h : OpOk P (execOp a.eval o) w K') (hk : ∀ v w', K' v w' → K (a.put o.dst v) w') : o.wp P a w K Q := by
  unfold Oper.wp
  unfold OpOk at h
  generalize (execOp a.eval o).run P w = r at *
  cases r with
  | ok n w' =>
    cases n <;> simp only at h <;> simp only [Oper.upon]
    case value v => exact hk _ _ h
    case skip => exact hk _ _ h
    case enter f args => exact h.mono fun e w'' ⟨v, he, hv⟩ => by subst he; exact hk _ _ hv
    all_goals exact h.elim
  | halt x w' => exact h.elim
end
end Go.Mx
