/- Laws on memory: what stays, maps as lists of keys and values, rows of cells. -/
import Derived.Test.YtgagmbmkpfjbbaaMxH
import Derived.Maps.AppendAt
import Derived.Laws.BytesArg
set_option linter.unusedSimpArgs false
set_option linter.unusedVariables false
set_option linter.unnecessarySimpa false
set_option linter.unusedSectionVars false
namespace Go.Mx

/-! ### what stays -/
/-- all blocks that were there are as they were, but for those of m. -/
structure Ext (m : Nat → Prop) (w w' : World) : Prop where
  os : w'.os = w.os
  tape : w'.tape = w.tape
  output : w'.output = w.output
  size : w.heap.size ≤ w'.heap.size
  block : ∀ b, b < w.heap.size → ¬ m b → w'.heap[b]? = w.heap[b]?
/-- no block. -/
def no : Nat → Prop := fun _ => False
/-- blocks from a number on. -/
def from_ (n : Nat) : Nat → Prop := fun b => n ≤ b
section
variable {m m' : Nat → Prop} {w w1 w' : World}
theorem Ext.refl (m : Nat → Prop) (w : World) : Ext m w w := ⟨rfl, rfl, rfl, Nat.le_refl _, fun _ _ _ => rfl⟩
theorem Ext.trans (h : Ext m w w1) (k : Ext m w1 w') : Ext m w w' :=
  ⟨k.os.trans h.os, k.tape.trans h.tape, k.output.trans h.output, Nat.le_trans h.size k.size,
    fun b hb hm => (k.block b (Nat.lt_of_lt_of_le hb h.size) hm).trans (h.block b hb hm)⟩
theorem Ext.mono (h : Ext m w w') (hm : ∀ b, m b → b < w.heap.size → m' b) : Ext m' w w' :=
  ⟨h.os, h.tape, h.output, h.size, fun b hb hn => h.block b hb fun h' => hn (hm b h' hb)⟩
theorem Ext.none (h : Ext no w w') : Ext m w w' := h.mono fun _ h => h.elim
theorem Ext.drew (h : Ext m w w1) : Ext m w w1.drew := ⟨h.os, h.tape, h.output, h.size, h.block⟩
theorem Ext.alloc (h : Ext m w w1) (o : Obj) : Ext m w (w1.alloc o) :=
  h.trans ⟨rfl, rfl, rfl, by simp, fun b hb _ => heap_alloc_old w1 o b hb⟩
theorem heap_setCell_other (w : World) (a : Addr) (u : Value) (k : Nat) (h : k ≠ a.block) : (w.setCell a u).heap[k]? = w.heap[k]? := by
  simp only [World.setCell, Array.getElem?_modify]
  rw [if_neg (by omega)]
theorem Ext.setCell (h : Ext m w w1) {a : Addr} (ha : m a.block ∨ w.heap.size ≤ a.block) (u : Value) : Ext m w (w1.setCell a u) :=
  ⟨h.os, h.tape, h.output, by simpa using h.size, fun b hb hn => by
    rw [heap_setCell_other _ _ _ _ (fun e => by subst e; rcases ha with ha | ha; exact hn ha; omega)]
    exact h.block b hb hn⟩
theorem Ext.of_grown {row : Option Nat} (h : w.grownBy w' row) (hr : ∀ k, row = some k → m k ∨ w.heap.size ≤ k) : Ext m w w' :=
  ⟨h.os, h.tape, h.output, h.size, fun b hb hn => h.block b hb (fun e => by
    rcases hr b e.symm with h' | h'
    · exact hn h'
    · omega)⟩
/-- then another step, which may turn blocks that are new, too. -/
theorem Ext.then (h : Ext m w w1) (k : Ext m' w1 w') (hm : ∀ b, m' b → m b ∨ w.heap.size ≤ b) : Ext m w w' :=
  ⟨k.os.trans h.os, k.tape.trans h.tape, k.output.trans h.output, Nat.le_trans h.size k.size,
    fun b hb hn => (k.block b (Nat.lt_of_lt_of_le hb h.size) (fun h' => by
      rcases hm b h' with h'' | h''
      · exact hn h''
      · omega)).trans (h.block b hb hn)⟩
theorem Ext.get (h : Ext m w w') {b : Nat} {o : Obj} (hb : w.heap[b]? = some o) (hn : ¬ m b) : w'.heap[b]? = some o :=
  (h.block b (Array.getElem?_eq_some_iff.1 hb).1 hn).trans hb
theorem Ext.cell (h : Ext m w w') {a : Addr} {v : Value} (hc : w.cell? a = some v) (hn : ¬ m a.block) : w'.cell? a = some v :=
  (World.cell?_of_block (h.block a.block (World.block_lt_of_cell? w a hc) hn)).trans hc
end

/-! ### a struct in a block of its own -/
def Blk (w : World) (b : Nat) (t : TypeId) (cs : List Value) : Prop := w.heap[b]? = some (.cells cs.toArray t (0, 0))
section
variable {w w' : World} {b : Nat} {t : TypeId} {cs : List Value}
theorem Blk.cell (h : Blk w b t cs) {i : Nat} {v : Value} (hv : cs[i]? = some v) : w.cell? ⟨b, i, none⟩ = some v := by
  simp only [Blk] at h
  simp [World.cell?, h, hv]
theorem Blk.lt (h : Blk w b t cs) : b < w.heap.size := (Array.getElem?_eq_some_iff.1 h).1
theorem Blk.free (h : Blk w b t cs) (a : Addr) (ha : a.block = b) : w.frozen? a = false := by
  simp only [Blk] at h
  simp [World.frozen?, ha, h]
theorem Blk.can (h : Blk w b t cs) {i : Nat} {v : Value} (hv : cs[i]? = some v) : canStore w ⟨b, i, none⟩ := ⟨⟨v, h.cell hv⟩, h.free _ rfl⟩
theorem Blk.set (h : Blk w b t cs) (i : Nat) (v : Value) : Blk (w.setCell ⟨b, i, none⟩ v) b t (cs.set i v) := by
  simp only [Blk] at h ⊢
  simp only [World.setCell, Array.getElem?_modify, if_true, h, Option.map_some]
  simp
theorem Blk.set_other (h : Blk w b t cs) {a : Addr} (ha : b ≠ a.block) (v : Value) : Blk (w.setCell a v) b t cs := by
  simp only [Blk] at h ⊢
  rw [heap_setCell_other _ _ _ _ ha]; exact h
theorem Blk.ext {m : Nat → Prop} (h : Blk w b t cs) (k : Ext m w w') (hn : ¬ m b) : Blk w' b t cs := k.get h hn
theorem Blk.new (w : World) (t : TypeId) (cs : List Value) : Blk (w.alloc (.cells cs.toArray t)) w.heap.size t cs := heap_alloc_new w _
theorem Blk.drew (h : Blk w b t cs) : Blk w.drew b t cs := h
theorem Blk.alloc (h : Blk w b t cs) (o : Obj) : Blk (w.alloc o) b t cs := by
  simp only [Blk] at h ⊢
  rw [heap_alloc_old w o b (Array.getElem?_eq_some_iff.1 h).1]; exact h
end
theorem add_blk (b i : Nat) : (blk b).add i = ⟨b, i, none⟩ := by unfold Addr.add; split <;> simp_all [blk]
theorem Blk.cella {w : World} {b : Nat} {t : TypeId} {cs : List Value} (h : Blk w b t cs) {i : Nat} {v : Value} (hv : cs[i]? = some v) : w.cell? ((blk b).add i) = some v := by
  rw [add_blk]; exact h.cell hv
theorem Blk.cana {w : World} {b : Nat} {t : TypeId} {cs : List Value} (h : Blk w b t cs) {i : Nat} {v : Value} (hv : cs[i]? = some v) : canStore w ((blk b).add i) := by
  rw [add_blk]; exact h.can hv
theorem Blk.seta {w : World} {b : Nat} {t : TypeId} {cs : List Value} (h : Blk w b t cs) (i : Nat) (v : Value) : Blk (w.setCell ((blk b).add i) v) b t (cs.set i v) := by
  rw [add_blk]; exact h.set i v
theorem add_zero (a : Addr) : a.add 0 = a := rfl
theorem block_add (a : Addr) (i : Nat) : (a.add i).block = a.block := by unfold Addr.add; split <;> rfl

theorem info_of {P : Program} {e : TypeId} {z : Value} {size bytes : Nat} (h : (P.info? e).map (fun i => (i.zero, i.size, i.bytes)) = some (some z, size, bytes)) :
    ∃ i, P.info? e = some i ∧ i.zero = some z ∧ i.size = size ∧ i.bytes = bytes := by
  obtain ⟨i, hi, hzz⟩ := Option.map_eq_some_iff.1 h
  simp only [Prod.mk.injEq] at hzz
  exact ⟨i, hi, hzz.1, hzz.2.1, hzz.2.2⟩
/-! ### maps -/
section
variable {κ : Type} [DecidableEq κ]
/-- where a key stands, and what is there. -/
def idx : List (κ × Value) → κ → Nat → Option (Nat × Value)
  | [], _, _ => none
  | p :: r, x, i => if p.1 = x then some (i, p.2) else idx r x (i + 1)
/-- the value at a key. -/
def mlook : List (κ × Value) → κ → Option Value
  | [], _ => none
  | p :: r, x => if p.1 = x then some p.2 else mlook r x
def mput : List (κ × Value) → κ → Value → List (κ × Value)
  | [], x, v => [(x, v)]
  | p :: r, x, v => if p.1 = x then (x, v) :: r else p :: mput r x v
theorem idx_some : ∀ {l : List (κ × Value)} {x : κ} {i j : Nat} {v : Value}, idx l x i = some (j, v) → ∃ k, j = i + k ∧ l[k]? = some (x, v) ∧ mlook l x = some v ∧ ∀ u, mput l x u = l.set k (x, u)
  | [], _, _, _, _, h => by simp [idx] at h
  | p :: r, x, i, j, v, h => by
    simp only [idx] at h
    by_cases hp : p.1 = x
    · simp only [hp, if_true, Option.some.injEq, Prod.mk.injEq] at h
      exact ⟨0, by omega, by simp [← h.2, ← hp], by simp [mlook, hp, h.2], fun u => by simp [mput, hp]⟩
    · simp only [hp, if_false] at h
      obtain ⟨k, rfl, h1, h2, h3⟩ := idx_some h
      exact ⟨k + 1, by omega, by simpa using h1, by simpa [mlook, hp] using h2, fun u => by simp [mput, hp, h3 u]⟩
theorem idx_none : ∀ {l : List (κ × Value)} {x : κ} {i : Nat}, idx l x i = none → mlook l x = none ∧ ∀ u, mput l x u = l ++ [(x, u)]
  | [], _, _, _ => ⟨rfl, fun u => rfl⟩
  | p :: r, x, i, h => by
    simp only [idx] at h
    by_cases hp : p.1 = x
    · simp [hp] at h
    · simp only [hp, if_false] at h
      obtain ⟨h1, h2⟩ := idx_none h
      exact ⟨by simp [mlook, hp, h1], fun u => by simp [mput, hp, h2 u]⟩

/-- keys of a type, told by κ. -/
structure Keys (P : Program) (t : TypeId) (enc : κ → Value) : Prop where
  check : ∀ e x w, (Instr.checkKey e 10000 t (enc x)).run P w = .ok () w
  find : ∀ (x : κ) (es : List MapEntry) (l : List (κ × Value)), es.map (fun e => (e.key, e.val)) = l.map (fun p => (enc p.1, p.2)) → ∀ w,
    (Instr.findKey t (enc x) es).run P w = .ok (idx l x 0) w
  bits : ∀ x, Instr.sameBits 10000 (enc x) (enc x) = true
  
/-- block r is a map of these keys and values, in the order in which they came. -/
def MapIs (w : World) (r : Nat) (enc : κ → Value) (l : List (κ × Value)) : Prop :=
  ∃ es clock, w.heap[r]? = some (.map es clock) ∧ es.toList.map (fun e => (e.key, e.val)) = l.map (fun p => (enc p.1, p.2)) ∧
    (es.toList.map (·.born)).Pairwise (· < ·) ∧ ∀ e ∈ es.toList, e.born < clock

variable {P : Program} {w w' : World} {r : Nat} {enc : κ → Value} {l : List (κ × Value)}
theorem MapIs.new (w : World) (enc : κ → Value) : MapIs (w.alloc (.map #[] 0)) w.heap.size enc [] :=
  ⟨#[], 0, heap_alloc_new w _, by simp, by simp, by simp⟩
theorem MapIs.lt (h : MapIs w r enc l) : r < w.heap.size := by
  obtain ⟨es, clock, h, _⟩ := h; exact (Array.getElem?_eq_some_iff.1 h).1
theorem MapIs.ext {m : Nat → Prop} (h : MapIs w r enc l) (k : Ext m w w') (hn : ¬ m r) : MapIs w' r enc l := by
  obtain ⟨es, clock, h, h2⟩ := h; exact ⟨es, clock, k.get h hn, h2⟩
theorem MapIs.drew (h : MapIs w r enc l) : MapIs w.drew r enc l := h

theorem run_getMap {es : Array MapEntry} {clock : Nat} (h : w.heap[r]? = some (.map es clock)) : (getObj r).run P w = .ok (.map es clock) w := by
  simp [getObj, Sem.run, h]
theorem zeroValue_run {e : TypeId} {i : TypeInfo} {z : Value} (hi : P.info? e = some i) (hz : i.zero = some z) (w : World) : (zeroValue e).run P w = .ok z w := by
  simp [zeroValue, run_typeInfo' hi, hz]

theorem MapIs.lookup {t kt et : TypeId} {i : TypeInfo} {z : Value} (h : MapIs w r enc l) (K : Keys P kt enc) (ht : P.underlying t = some (.map kt et)) (hi : P.info? et = some i) (hz : i.zero = some z) (x : κ) (ok : Bool) :
    (Instr.lookup t (.map (some r)) (enc x) ok).run P w = .ok (if ok then .tuple #[(mlook l x).getD z, .bool (mlook l x).isSome] else (mlook l x).getD z) w := by
  obtain ⟨es, clock, hr, hl, _⟩ := h
  simp only [Instr.lookup, Sem.run_bind, run_underlying' ht, Result.andThen_ok, run_getMap hr, Sem.run_pure, K.check, K.find x _ _ hl]
  cases hx : idx l x 0 with
  | none =>
    obtain ⟨h1, _⟩ := idx_none hx
    simp only [Sem.run_bind, zeroValue_run hi hz, Result.andThen_ok, Sem.run_pure, h1]
    cases ok <;> rfl
  | some p =>
    obtain ⟨j, v⟩ := p
    obtain ⟨k, _, _, h1, _⟩ := idx_some hx
    simp only [Sem.run_pure, Result.andThen_ok, h1]
    cases ok <;> rfl

theorem run_setObj {es es' : Array MapEntry} {clock c' : Nat} (h : w.heap[r]? = some (.map es clock)) :
    (setObj r (.map es' c')).run P w = .ok () { w with heap := w.heap.setIfInBounds r (.map es' c') } := by
  simp [setObj, Sem.run, h]
theorem Ext.setObj {m : Nat → Prop} (o : Obj) (hm : m r) : Ext m w { w with heap := w.heap.setIfInBounds r o } :=
  ⟨rfl, rfl, rfl, by simp, fun b hb hn => by
    have : r ≠ b := fun e => hn (e ▸ hm)
    simp [Array.getElem?_setIfInBounds_ne this]⟩
theorem setObj_get {o : Obj} (h : r < w.heap.size) : ({ w with heap := w.heap.setIfInBounds r o } : World).heap[r]? = some o := by
  simp [h]

theorem map_modify_key {es : Array MapEntry} {l : List (κ × Value)} (hl : es.toList.map (fun e => (e.key, e.val)) = l.map (fun p => (enc p.1, p.2))) {k : Nat} {x : κ} {v : Value}
    (hk : l[k]? = some (x, v)) (u : Value) : ((es.modify k fun e => { e with key := enc x, val := u }).toList.map fun e => (e.key, e.val)) = (l.set k (x, u)).map fun p => (enc p.1, p.2) := by
  apply List.ext_getElem?
  intro j
  have hj := congrArg (fun L => L[j]?) hl
  simp only [List.getElem?_map, Array.getElem?_toList] at hj
  simp only [List.getElem?_map, Array.getElem?_toList, Array.getElem?_modify, List.getElem?_set]
  by_cases hjk : k = j
  · subst hjk
    have hlt := (List.getElem?_eq_some_iff.1 hk).1
    simp only [if_true, hlt]
    cases he : es[k]? with
    | none => rw [he, hk] at hj; simp at hj
    | some e => simp
  · simp only [hjk, if_false]
    exact hj
theorem born_modify (es : Array MapEntry) (k : Nat) (f : MapEntry → MapEntry) (hf : ∀ e, (f e).born = e.born) : ((es.modify k f).toList.map (·.born)) = es.toList.map (·.born) := by
  apply List.ext_getElem?
  intro j
  simp only [List.getElem?_map, Array.getElem?_toList, Array.getElem?_modify]
  split
  · cases es[j]? <;> simp [hf]
  · rfl
theorem born_lt {es : Array MapEntry} {clock : Nat} (h : ∀ e ∈ es.toList, e.born < clock) : ∀ b ∈ es.toList.map (·.born), b < clock := by
  intro b hb
  obtain ⟨e, he, rfl⟩ := List.mem_map.1 hb
  exact h e he

theorem MapIs.update {t kt et : TypeId} (h : MapIs w r enc l) (K : Keys P kt enc) (ht : P.underlying t = some (.map kt et)) (x : κ) (v : Value) :
    ∃ w', (Instr.mapUpdate t (.map (some r)) (enc x) v).run P w = .ok () w' ∧ MapIs w' r enc (mput l x v) ∧ ∀ m : Nat → Prop, m r → Ext m w w' := by
  have hlt := h.lt
  obtain ⟨es, clock, hr, hl, hb, hc⟩ := h
  cases hx : idx l x 0 with
  | none =>
    obtain ⟨_, h1⟩ := idx_none hx
    refine ⟨_, ?_, ⟨es.push { key := enc x, val := v, born := clock }, clock + 1, setObj_get hlt, ?_, ?_, ?_⟩, fun m hm => Ext.setObj _ hm⟩
    · simp only [Instr.mapUpdate, Sem.run_bind, run_underlying' ht, Result.andThen_ok, run_getMap hr, K.check, K.find x _ _ hl, hx, run_setObj hr]
    · simp [h1, hl]
    · simp only [Array.toList_push, List.map_append, List.map_cons, List.map_nil, List.pairwise_append, hb, true_and]
      exact ⟨by simp, fun a ha b hb' => by simp at hb'; subst hb'; exact born_lt hc a ha⟩
    · intro e he
      simp only [Array.toList_push, List.mem_append, List.mem_singleton] at he
      rcases he with he | rfl
      · have := hc e he; omega
      · simp
  | some p =>
    obtain ⟨j, u⟩ := p
    obtain ⟨k, hj, hk, _, h1⟩ := idx_some hx
    obtain rfl : j = k := by omega
    have hek : ((es[j]?).map (·.key)).getD (enc x) = enc x := by
      have hjj := congrArg (fun L => L[j]?) hl
      simp only [List.getElem?_map, Array.getElem?_toList, hk, Option.map_some] at hjj
      cases he : es[j]? with
      | none => rfl
      | some e => rw [he] at hjj; simp at hjj; simp [hjj.1]
    refine ⟨_, ?_, ⟨es.modify j fun e => { e with key := enc x, val := v }, clock, setObj_get hlt, ?_, ?_, ?_⟩, fun m hm => Ext.setObj _ hm⟩
    · simp only [Instr.mapUpdate, Sem.run_bind, run_underlying' ht, Result.andThen_ok, run_getMap hr, K.check, K.find x _ _ hl, hx, hek, Instr.keyThatStays, K.bits, if_true, Sem.run_pure, run_setObj hr]
    · rw [h1]; exact map_modify_key hl hk v
    · rw [born_modify]; exact hb; intro e; rfl
    · intro e he
      have := List.mem_map_of_mem (f := fun e : MapEntry => e.born) he
      rw [born_modify es j (fun e => { e with key := enc x, val := v }) (fun e => rfl)] at this
      exact born_lt hc _ this

theorem MapIs.len {t kt et : TypeId} {ty : TypeId} (h : MapIs w r enc l) (ht : P.underlying t = some (.map kt et)) :
    (Builtin.len_ #[t] ty #[.map (some r)]).run P w = .ok (.int .i64 l.length) w := by
  obtain ⟨es, clock, hr, hl, _⟩ := h
  have : es.size = l.length := by
    have := congrArg List.length hl
    simpa using this
  simp [Builtin.len_, run_underlying' ht, run_getMap hr, goInt, this]
end

/-- whole numbers as keys. -/
theorem keys_int {P : Program} {t : TypeId} {k : IntKind} (ht : P.underlying t = some (.int k)) : Keys P t (fun n : Int => Value.int k n) where
  check := fun e x w => by
    have h : ∀ n, (Instr.checkKey e (n + 1) t (.int k x)).run P w = .ok () w := fun n => by simp [Instr.checkKey, run_underlying' ht]
    exact h 9999
  find := fun x es l hl w => by
    have h : ∀ (es : List MapEntry) (l : List (Int × Value)) (i : Nat), es.map (fun e => (e.key, e.val)) = l.map (fun p => (Value.int k p.1, p.2)) →
        Instr.findNow (.int k) (.int k x) es i = some (idx l x i) := by
      intro es
      induction es with
      | nil =>
        intro l i hl
        have : l = [] := by cases l <;> simp at hl ⊢
        subst this; rfl
      | cons e r ih =>
        intro l i hl
        cases l with
        | nil => simp at hl
        | cons p q =>
          simp only [List.map_cons, List.cons.injEq, Prod.mk.injEq] at hl
          obtain ⟨⟨h1, h2⟩, h3⟩ := hl
          simp only [Instr.findNow, h1, Instr.sameNow, if_true, idx]
          by_cases hp : p.1 = x
          · subst hp; simp [h2]
          · have : (x == p.1) = false := by simpa using fun e => hp e.symm
            simp only [this, hp, if_false]
            exact ih q (i + 1) h3
    simp [Instr.findKey, run_underlying' ht, h es l 0 hl]
  bits := fun x => by simp [Instr.sameBits]

def strV (s : List UInt8) : Value := .string ⟨s.toArray⟩
theorem bytes_beq (a b : List UInt8) : ((⟨a.toArray⟩ : ByteArray) == ⟨b.toArray⟩) = decide (a = b) := by
  show ByteArray.beq _ _ = _
  rw [Bool.eq_iff_iff]
  simp [ByteArray.beq]
/-- texts as keys. -/
theorem keys_str {P : Program} {t : TypeId} (ht : P.underlying t = some .string) : Keys P t strV where
  check := fun e x w => by
    have h : ∀ n, (Instr.checkKey e (n + 1) t (strV x)).run P w = .ok () w := fun n => by simp [Instr.checkKey, run_underlying' ht, strV]
    exact h 9999
  find := fun x es l hl w => by
    have h : ∀ (es : List MapEntry) (l : List (List UInt8 × Value)) (i : Nat), es.map (fun e => (e.key, e.val)) = l.map (fun p => (strV p.1, p.2)) →
        Instr.findNow .string (strV x) es i = some (idx l x i) := by
      intro es
      induction es with
      | nil =>
        intro l i hl
        have : l = [] := by cases l <;> simp at hl ⊢
        subst this; rfl
      | cons e r ih =>
        intro l i hl
        cases l with
        | nil => simp at hl
        | cons p q =>
          simp only [List.map_cons, List.cons.injEq, Prod.mk.injEq] at hl
          obtain ⟨⟨h1, h2⟩, h3⟩ := hl
          simp only [Instr.findNow, h1, strV, Instr.sameNow, idx, bytes_beq]
          by_cases hp : p.1 = x
          · subst hp; simp [h2]
          · have : decide (x = p.1) = false := by simpa using fun e => hp e.symm
            simp only [this, hp, if_false]
            exact ih q (i + 1) h3
    simp [Instr.findKey, run_underlying' ht, h es l 0 hl]
  bits := fun x => by simp [Instr.sameBits, strV, bytes_beq]

end Go.Mx
