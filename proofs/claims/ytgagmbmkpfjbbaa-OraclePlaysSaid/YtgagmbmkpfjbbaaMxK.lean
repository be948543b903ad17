/- Keys that are structs of two fields; an entry of a map that is written where it stands; slices that are made. -/
import Derived.Test.YtgagmbmkpfjbbaaMxW
import Derived.Laws.StructEq
import Derived.ChangeKeysEq
import Derived.Laws.MakeOwn
set_option linter.unusedSimpArgs false
set_option linter.unusedVariables false
set_option linter.unnecessarySimpa false
set_option linter.unusedSectionVars false
namespace Go.Mx

/-- a struct of two fields of a cell each. -/
structure Two (P : Program) (t : TypeId) (u0 u1 : TypeDesc) : Prop where
  on : ∃ f0 f1, P.underlying t = some (.struct #[f0, f1]) ∧ f0.name ≠ "_" ∧ f1.name ≠ "_" ∧ f0.offset = 0 ∧ f1.offset = 1 ∧ P.plainKey f0.type = true ∧ P.plainKey f1.type = true ∧
    P.underlying f0.type = some u0 ∧ P.underlying f1.type = some u1 ∧ P.stoodInHeld t = false
def twoOk (P : Program) (t : TypeId) (f0 f1 : Field) : Bool :=
  f0.name != "_" && f1.name != "_" && f0.offset == 0 && f1.offset == 1 && P.plainKey f0.type && P.plainKey f1.type && !(P.stoodInHeld t)
section
variable {P : Program} {t : TypeId} {u0 u1 : TypeDesc}
theorem Two.mk' {f0 f1 : Field} (h1 : P.underlying t = some (.struct #[f0, f1])) (h2 : twoOk P t f0 f1 = true) (h3 : P.underlying f0.type = some u0) (h4 : P.underlying f1.type = some u1) : Two P t u0 u1 := by
  simp only [twoOk, Bool.and_eq_true, bne_iff_ne, ne_eq, beq_iff_eq, Bool.not_eq_true'] at h2
  obtain ⟨⟨⟨⟨⟨⟨a, b⟩, c⟩, d⟩, e⟩, f⟩, g⟩ := h2
  exact ⟨f0, f1, h1, a, b, c, d, e, f, h3, h4, g⟩
theorem equal_two (h : Two P t u0 u1) {a b c d : Value} {r0 r1 : Bool} (w : World) (e0 : ∀ k t, P.underlying t = some u0 → (Op.equalIn (k + 1) t a b).run P w = .ok r0 w) (e1 : ∀ k t, P.underlying t = some u1 → (Op.equalIn (k + 1) t c d).run P w = .ok r1 w) (k : Nat) :
    (Op.equalIn (k + 2) t (.agg #[a, c]) (.agg #[b, d])).run P w = .ok (r0 && r1) w := by
  obtain ⟨f0, f1, ht, n0, n1, o0, o1, p0, p1, h0, h1, hp⟩ := h.on
  have hf : P.fieldsOf t = #[f0, f1] := by simp [Program.fieldsOf, ht]
  rw [show k + 2 = (k + 1) + 1 from rfl, run_equalIn_struct w (k + 1) t _ _ (by rw [hf]; exact ht) hp, hf]
  have q0 : (part f0.type #[a, c] f0.offset).run P w = .ok a w := run_part_plain w p0 (by rw [o0]; rfl)
  have q1 : (part f0.type #[b, d] f0.offset).run P w = .ok b w := run_part_plain w p0 (by rw [o0]; rfl)
  have q2 : (part f1.type #[a, c] f1.offset).run P w = .ok c w := run_part_plain w p1 (by rw [o1]; rfl)
  have q3 : (part f1.type #[b, d] f1.offset).run P w = .ok d w := run_part_plain w p1 (by rw [o1]; rfl)
  simp only [Op.eqFields, n0, n1, ne_eq, not_false_eq_true, if_true, Sem.run_bind, q0, q1, q2, q3, Result.andThen_ok, e0 k _ h0, e1 k _ h1]
  cases r0 <;> cases r1 <;> simp [Op.eqFields, Sem.run_bind, q2, q3, e1 k _ h1]
theorem equal_int' {k : IntKind} {a b : Int} {w : World} (d : Nat) (t : TypeId) (h : P.underlying t = some (.int k)) : (Op.equalIn (d + 1) t (.int k a) (.int k b)).run P w = .ok (a == b) w := run_equalIn_int w d t k k a b h
theorem equal_str' {a b : List UInt8} {w : World} (d : Nat) (t : TypeId) (h : P.underlying t = some .string) : (Op.equalIn (d + 1) t (strV a) (strV b)).run P w = .ok (decide (a = b)) w := by
  rw [strV, strV, run_equalIn_string w d t _ _ h, ← beq_toListBytes, bytes_beq]
theorem check_two (h : Two P t u0 u1) {a c : Value} (e : Bool) (w : World) (e0 : ∀ k t, P.underlying t = some u0 → (Instr.checkKey e (k + 1) t a).run P w = .ok () w) (e1 : ∀ k t, P.underlying t = some u1 → (Instr.checkKey e (k + 1) t c).run P w = .ok () w) (k : Nat) :
    (Instr.checkKey e (k + 2) t (.agg #[a, c])).run P w = .ok () w := by
  obtain ⟨f0, f1, ht, n0, n1, o0, o1, p0, p1, h0, h1, hp⟩ := h.on
  have q0 : (part f0.type #[a, c] f0.offset).run P w = .ok a w := run_part_plain w p0 (by rw [o0]; rfl)
  have q2 : (part f1.type #[a, c] f1.offset).run P w = .ok c w := run_part_plain w p1 (by rw [o1]; rfl)
  rw [Instr.checkKey]
  simp only [Sem.run_bind, run_underlying' ht, Result.andThen_ok]
  rw [← Array.forIn_toList]
  simp only [List.forIn_cons, List.forIn_nil, n0, n1, ne_eq, not_false_eq_true, if_true, Sem.run_bind, q0, q2, Result.andThen_ok, e0 k _ h0, e1 k _ h1, Sem.run_pure]
theorem check_int' {k : IntKind} {a : Int} {w : World} (e : Bool) (d : Nat) (t : TypeId) (h : P.underlying t = some (.int k)) : (Instr.checkKey e (d + 1) t (.int k a)).run P w = .ok () w := by simp [Instr.checkKey, run_underlying' h]
theorem check_str' {a : List UInt8} {w : World} (e : Bool) (d : Nat) (t : TypeId) (h : P.underlying t = some .string) : (Instr.checkKey e (d + 1) t (strV a)).run P w = .ok () w := by simp [Instr.checkKey, run_underlying' h, strV]
theorem findAsk {κ : Type} [DecidableEq κ] {enc : κ → Value} {t : TypeId} (heq : ∀ x y w, (Op.equal t (enc x) (enc y)).run P w = .ok (decide (x = y)) w) (x : κ) (w : World) :
    ∀ (es : List MapEntry) (l : List (κ × Value)) (i : Nat), es.map (fun e => (e.key, e.val)) = l.map (fun p => (enc p.1, p.2)) → (Instr.findAsking t (enc x) es i).run P w = .ok (idx l x i) w := by
  intro es
  induction es with
  | nil =>
    intro l i hl
    have : l = [] := by cases l <;> simp at hl ⊢
    subst this; simp [Instr.findAsking, idx]
  | cons e r ih =>
    intro l i hl
    cases l with
    | nil => simp at hl
    | cons p q =>
      simp only [List.map_cons, List.cons.injEq, Prod.mk.injEq] at hl
      obtain ⟨⟨h1, h2⟩, h3⟩ := hl
      simp only [Instr.findAsking, Sem.run_bind, h1, heq, Result.andThen_ok, idx]
      by_cases hp : p.1 = x
      · subst hp; simp [h2]
      · have : ¬ x = p.1 := fun e => hp e.symm
        simp only [this, hp, decide_false, if_false, Bool.false_eq_true]
        exact ih q (i + 1) h3
/-- structs of a number and a text as keys. -/
theorem keys_int_str {k : IntKind} (h : Two P t (.int k) .string) : Keys P t (fun p : Int × List UInt8 => Value.agg #[.int k p.1, strV p.2]) where
  check := fun e x w => check_two h e w (fun n t ht => check_int' e n t ht) (fun n t ht => check_str' e n t ht) 9998
  find := fun x es l hl w => by
    obtain ⟨f0, f1, ht, _⟩ := h.on
    have heq : ∀ x y w, (Op.equal t (Value.agg #[.int k (x : Int × List UInt8).1, strV x.2]) (.agg #[.int k (y : Int × List UInt8).1, strV y.2])).run P w = .ok (decide (x = y)) w := fun x y w => by
      have := equal_two h w (fun n t ht => equal_int' (a := x.1) (b := y.1) n t ht) (fun n t ht => equal_str' (a := x.2) (b := y.2) n t ht) 9998
      rw [show Op.equal t (Value.agg #[.int k x.1, strV x.2]) (.agg #[.int k y.1, strV y.2]) = Op.equalIn (9998 + 2) t (Value.agg #[.int k x.1, strV x.2]) (.agg #[.int k y.1, strV y.2]) from rfl, this]
      congr 1
      rw [Bool.eq_iff_iff]
      simp [Prod.ext_iff]
    have hfa := findAsk heq x w es l 0 hl
    simp only [Instr.findKey, Sem.run_bind, run_underlying' ht, Result.andThen_ok]
    cases es with
    | nil =>
      have : l = [] := by cases l <;> simp at hl ⊢
      subst this; simp [Instr.findNow, idx]
    | cons e r =>
      have : Instr.findNow (.struct #[f0, f1]) (Value.agg #[.int k x.1, strV x.2]) (e :: r) 0 = none := rfl
      rw [this]
      exact hfa
  bits := fun x => by simp [Instr.sameBits, strV, bytes_beq]
/-- structs of two numbers as keys. -/
theorem keys_int_int {k j : IntKind} (h : Two P t (.int k) (.int j)) : Keys P t (fun p : Int × Int => Value.agg #[.int k p.1, .int j p.2]) where
  check := fun e x w => check_two h e w (fun n t ht => check_int' e n t ht) (fun n t ht => check_int' e n t ht) 9998
  find := fun x es l hl w => by
    obtain ⟨f0, f1, ht, _⟩ := h.on
    have heq : ∀ x y w, (Op.equal t (Value.agg #[.int k (x : Int × Int).1, .int j x.2]) (.agg #[.int k (y : Int × Int).1, .int j y.2])).run P w = .ok (decide (x = y)) w := fun x y w => by
      have := equal_two h w (fun n t ht => equal_int' (a := x.1) (b := y.1) n t ht) (fun n t ht => equal_int' (a := x.2) (b := y.2) n t ht) 9998
      rw [show Op.equal t (Value.agg #[.int k x.1, .int j x.2]) (.agg #[.int k y.1, .int j y.2]) = Op.equalIn (9998 + 2) t (Value.agg #[.int k x.1, .int j x.2]) (.agg #[.int k y.1, .int j y.2]) from rfl, this]
      congr 1
      rw [Bool.eq_iff_iff]
      simp [Prod.ext_iff]
    have hfa := findAsk heq x w es l 0 hl
    simp only [Instr.findKey, Sem.run_bind, run_underlying' ht, Result.andThen_ok]
    cases es with
    | nil =>
      have : l = [] := by cases l <;> simp at hl ⊢
      subst this; simp [Instr.findNow, idx]
    | cons e r =>
      have : Instr.findNow (.struct #[f0, f1]) (Value.agg #[.int k x.1, .int j x.2]) (e :: r) 0 = none := rfl
      rw [this]
      exact hfa
  bits := fun x => by simp [Instr.sameBits]
end

/-! ### an entry, and its value behind it -/
section
variable {κ : Type} [DecidableEq κ] {P : Program} {w w' : World} {r : Nat} {enc : κ → Value} {l : List (κ × Value)}
theorem idx_any : ∀ {l : List (κ × Value)} {x : κ} {i : Nat}, idx l x i = none → ∀ j, idx l x j = none
  | [], _, _, _, _ => rfl
  | p :: r, x, i, h, j => by
    simp only [idx] at h ⊢
    by_cases hp : p.1 = x
    · simp [hp] at h
    · simp only [hp, if_false] at h ⊢; exact idx_any h _
theorem mput_mput : ∀ (l : List (κ × Value)) (x : κ) (u v : Value), mput (mput l x u) x v = mput l x v
  | [], x, u, v => by simp [mput]
  | p :: r, x, u, v => by
    simp only [mput]
    by_cases hp : p.1 = x
    · simp [hp, mput]
    · simp only [hp, if_false, mput]; rw [mput_mput r x u v]
theorem find_born {es : Array MapEntry} (hb : (es.toList.map (·.born)).Pairwise (· < ·)) {j : Nat} {e : MapEntry} (he : es[j]? = some e) : es.findIdx? (fun x => (x.born : Int) == ((e.born : Nat) : Int)) = some j := by
  rw [Array.findIdx?_eq_some_iff_getElem]
  obtain ⟨hj, hej⟩ := Array.getElem?_eq_some_iff.1 he
  refine ⟨hj, by simp [hej], fun i hi => ?_⟩
  have h1 := List.pairwise_iff_getElem.1 hb i j (by simp; omega) (by simpa using hj) hi
  simp only [List.getElem_map, Array.getElem_toList, hej] at h1
  simp only [beq_iff_eq, Int.natCast_inj, Bool.not_eq_true, beq_eq_false_iff_ne, ne_eq]
  omega
/-- the map as it is behind 'm[k]' on the left of an assignment, until the value comes: a stamp leads to the entry. -/
def Pending (w : World) (r : Nat) (enc : κ → Value) (l : List (κ × Value)) (x : κ) (n : Int) : Prop :=
  ∃ es clock j e, w.heap[r]? = some (.map es clock) ∧ es.toList.map (fun e => (e.key, e.val)) = l.map (fun p => (enc p.1, p.2)) ∧
    (es.toList.map (·.born)).Pairwise (· < ·) ∧ (∀ e ∈ es.toList, e.born < clock) ∧ es[j]? = some e ∧ n = (e.born : Int) ∧ e.key = enc x ∧ l[j]? = some (x, e.val) ∧ ∀ u, mput l x u = l.set j (x, u)
theorem Pending.ext {m : Nat → Prop} {x : κ} {n : Int} (h : Pending w r enc l x n) (k : Ext m w w') (hn : ¬ m r) : Pending w' r enc l x n := by
  obtain ⟨es, clock, j, e, h, h2⟩ := h; exact ⟨es, clock, j, e, k.get h hn, h2⟩
theorem Pending.map {x : κ} {n : Int} (h : Pending w r enc l x n) : MapIs w r enc l := by
  obtain ⟨es, clock, j, e, h, h2, h3, h4, _⟩ := h; exact ⟨es, clock, h, h2, h3, h4⟩
theorem set_self {α : Type} : ∀ {l : List α} {j : Nat} {a : α}, l[j]? = some a → l.set j a = l
  | [], j, a, h => by simp at h
  | b :: r, 0, a, h => by simp at h; simp [h]
  | b :: r, j + 1, a, h => by simp at h; simp [set_self h]
theorem MapIs.entry {t kt et : TypeId} {i : TypeInfo} {z : Value} (h : MapIs w r enc l) (K : Keys P kt enc) (ht : P.underlying t = some (.map kt et)) (hi : P.info? et = some i) (hz : i.zero = some z) (x : κ) :
    ∃ n w', (Instr.mapEntry t (.map (some r)) (enc x)).run P w = .ok (.tuple #[(mlook l x).getD z, .int .i64 n]) w' ∧ Pending w' r enc (mput l x ((mlook l x).getD z)) x n ∧ ∀ m : Nat → Prop, m r → Ext m w w' := by
  have hlt := h.lt
  obtain ⟨es, clock, hr, hl, hb, hc⟩ := h
  cases hx : idx l x 0 with
  | none =>
    obtain ⟨h0, h1⟩ := idx_none hx
    have hsz : es.size = l.length := by have := congrArg List.length hl; simpa using this
    refine ⟨(clock : Int), _, ?_, ⟨es.push { key := enc x, val := z, born := clock }, clock + 1, es.size, { key := enc x, val := z, born := clock }, setObj_get hlt, ?_, ?_, ?_, by simp, rfl, rfl, ?_, ?_⟩, fun m hm => Ext.setObj _ hm⟩
    · simp only [Instr.mapEntry, Sem.run_bind, run_underlying' ht, Result.andThen_ok, run_getMap hr, K.check, K.find x _ _ hl, hx, zeroValue_run hi hz, run_setObj hr, Sem.run_pure, h0, Option.getD_none, goInt]
    · simp [h0, h1, hl]
    · simp only [Array.toList_push, List.map_append, List.map_cons, List.map_nil, List.pairwise_append, hb, true_and]
      exact ⟨by simp, fun a ha b hb' => by simp at hb'; subst hb'; exact born_lt hc a ha⟩
    · intro e he
      simp only [Array.toList_push, List.mem_append, List.mem_singleton] at he
      rcases he with he | rfl
      · have := hc e he; omega
      · simp
    · rw [h1, hsz]; simp [h0]
    · intro u
      rw [h0, Option.getD_none, h1 z, hsz]
      -- the last one is x's
      have hnone : ∀ (q : List (κ × Value)), (∀ i, idx q x i = none) → mput (q ++ [(x, z)]) x u = q ++ [(x, u)] := by
        intro q
        induction q with
        | nil => intro _; simp [mput]
        | cons p s ih =>
          intro hq
          have h2 := hq 0
          simp only [idx] at h2
          by_cases hp : p.1 = x
          · simp [hp] at h2
          · simp only [List.cons_append, mput, hp, if_false]
            rw [ih fun i => ?_]
            cases i with
            | zero => simp only [hp, if_false] at h2; exact (idx_any h2 0)
            | succ i => simp only [hp, if_false] at h2; exact idx_any h2 _
      rw [hnone l fun i => idx_any hx i]
      simp
  | some p =>
    obtain ⟨j, u⟩ := p
    obtain ⟨k, hj, hk, h0, h1⟩ := idx_some hx
    obtain rfl : j = k := by omega
    have hjj := congrArg (fun L => L[j]?) hl
    simp only [List.getElem?_map, Array.getElem?_toList, hk, Option.map_some] at hjj
    cases he : es[j]? with
    | none => rw [he] at hjj; simp at hjj
    | some e =>
      rw [he] at hjj
      simp only [Option.map_some, Option.some.injEq, Prod.mk.injEq] at hjj
      have hek : ((es[j]?).map (·.key)).getD (enc x) = enc x := by simp [he, hjj.1]
      refine ⟨(e.born : Int), _, ?_, ⟨es.modify j fun e => { e with key := enc x }, clock, j, { e with key := enc x }, setObj_get hlt, ?_, ?_, ?_, ?_, rfl, rfl, ?_, ?_⟩, fun m hm => Ext.setObj _ hm⟩
      · simp only [Instr.mapEntry, Sem.run_bind, run_underlying' ht, Result.andThen_ok, run_getMap hr, K.check, K.find x _ _ hl, hx, hek, Instr.keyThatStays, K.bits, if_true, Sem.run_pure, run_setObj hr, h0, Option.getD_some, he, Option.map_some, goInt]
        simp only [hjj.1, K.bits, if_true, Sem.run_pure, Result.andThen_ok, run_setObj hr]
      · rw [h0, h1, Option.getD_some, set_self hk, ← hl]
        apply List.ext_getElem?
        intro i
        simp only [List.getElem?_map, Array.getElem?_toList, Array.getElem?_modify]
        by_cases hji : j = i
        · subst hji; simp [he, hjj.1]
        · simp [hji]
      · rw [born_modify]; exact hb; intro e; rfl
      · intro e he
        have := List.mem_map_of_mem (f := fun e : MapEntry => e.born) he
        rw [born_modify es j (fun e => { e with key := enc x }) (fun e => rfl)] at this
        exact born_lt hc _ this
      · simp [Array.getElem?_modify, he]
      · rw [h0, h1, Option.getD_some, set_self hk, hk]; simp [hjj.2]
      · intro v; rw [h0, Option.getD_some, h1 u, set_self hk, h1]
theorem Pending.store {t : TypeId} {x : κ} {n : Int} (h : Pending w r enc l x n) (v : Value) :
    ∃ w', (Instr.entryStore t (.map (some r)) (.int .i64 n) v).run P w = .ok () w' ∧ MapIs w' r enc (mput l x v) ∧ ∀ m : Nat → Prop, m r → Ext m w w' := by
  have hlt := h.map.lt
  obtain ⟨es, clock, j, e, hr, hl, hb, hc, he, rfl, hk, hlj, hput⟩ := h
  refine ⟨_, ?_, ⟨es.modify j fun e => { e with val := v }, clock, setObj_get hlt, ?_, ?_, ?_⟩, fun m hm => Ext.setObj _ hm⟩
  · simp only [Instr.entryStore, Sem.run_bind, run_getMap hr, Result.andThen_ok, asInt, Sem.run_pure, find_born hb he, run_setObj hr]
    simp [asIntOf, find_born hb he, run_setObj hr]
  · rw [hput]
    apply List.ext_getElem?
    intro i
    have hi := congrArg (fun L => L[i]?) hl
    simp only [List.getElem?_map, Array.getElem?_toList] at hi
    simp only [List.getElem?_map, Array.getElem?_toList, Array.getElem?_modify, List.getElem?_set]
    by_cases hji : j = i
    · subst hji
      have hlt := (List.getElem?_eq_some_iff.1 hlj).1
      simp [he, hk, hlt]
    · simp only [hji, if_false]; exact hi
  · rw [born_modify]; exact hb; intro e; rfl
  · intro e he
    have := List.mem_map_of_mem (f := fun e : MapEntry => e.born) he
    rw [born_modify es j (fun e => { e with val := v }) (fun e => rfl)] at this
    exact born_lt hc _ this
end
end Go.Mx
