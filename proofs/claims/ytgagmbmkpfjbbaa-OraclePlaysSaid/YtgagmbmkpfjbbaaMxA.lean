/- The words of a symbolic executor over the model's code: what an operation asks and yields, as a predicate over facts on slots; each rule is proved against the model's own run. No program is named here. -/
import Derived.Calls
import Derived.Orders
import Derived.Laws.Sem
import Derived.Laws.World
import Derived.Tactics
namespace Go.Mx

/-! ### facts on slots -/
abbrev Fs := List (Nat × Value)
def get : Fs → Nat → Option Value
  | [], _ => none
  | p :: r, t => bif Nat.beq p.1 t then some p.2 else get r t
def has : Fs → Nat → Bool
  | [], _ => false
  | p :: r, t => bif Nat.beq p.1 t then true else has r t
def ev (f : Fs) : Operand → Option Value
  | .tmp t => get f t
  | .const v => some v
  | .global _ => none
  | .func k => some (.func (.func k) #[] #[])
def rho (f : Fs) (x : Operand) : Value := (ev f x).getD undef
def known (f : Fs) : List Operand → Bool
  | [] => true
  | x :: r => bif (ev f x).isSome then known f r else false

theorem get_append (f g : Fs) (t : Nat) : get (f ++ g) t = (get f t).or (get g t) := by
  induction f with
  | nil => simp [get]
  | cons p r ih =>
    simp only [List.cons_append, get, ih]
    cases Nat.beq p.1 t <;> simp

structure Fr (n : Nat) (f : Fs) (a : Act) : Prop where
  size : a.tmps.size = n
  defers : a.defers = []
  at_ : ∀ t v, get f t = some v → a.tmps[t]? = some v

theorem Fr.eval {n : Nat} {f : Fs} {a : Act} (h : Fr n f a) {x : Operand} (hx : (ev f x).isSome = true) : a.eval x = rho f x := by
  cases x with
  | tmp t =>
    simp only [ev] at hx
    obtain ⟨v, hv⟩ := Option.isSome_iff_exists.1 hx
    have := h.at_ t v hv
    simp [Act.eval, rho, ev, hv, this]
  | const v => rfl
  | global g => simp [ev] at hx
  | func k => rfl

theorem known_mem {f : Fs} {l : List Operand} (h : known f l = true) : ∀ x ∈ l, (ev f x).isSome = true := by
  induction l with
  | nil => simp
  | cons y r ih =>
    intro x hx
    simp only [known] at h
    cases hy : (ev f y).isSome
    · simp [hy] at h
    · simp only [hy, cond_true] at h
      rcases List.mem_cons.1 hx with rfl | hx
      · exact hy
      · exact ih h x hx

theorem beq_true {a b : Nat} (h : Nat.beq a b = true) : a = b := Nat.eq_of_beq_eq_true h

theorem Fr.put {n : Nat} {f : Fs} {a : Act} (h : Fr n f a) {d : Nat} (hd : Nat.blt d n = true) (v : Value) : Fr n ((d, v) :: f) (a.put (some d) v) := by
  have hlt : d < n := by simpa [Nat.blt_eq] using hd
  refine ⟨by simp [Act.put, h.size], h.defers, fun t u ht => ?_⟩
  simp only [get] at ht
  simp only [Act.put]
  cases hb : Nat.beq d t
  · simp only [hb, cond_false] at ht
    have hne : d ≠ t := fun e => by subst e; simp at hb
    rw [Array.getElem?_setIfInBounds_ne hne]
    exact h.at_ t u ht
  · simp only [hb, cond_true, Option.some.injEq] at ht
    have := beq_true hb
    subst this; subst ht
    rw [Array.getElem?_setIfInBounds_self]
    simp [h.size, hlt]

/-! ### shapes of cells -/
inductive CS where
  | int (k : IntKind) | bool | str | ptr | slice | map | func | any
def CS.ex : CS → (Value → Prop) → Prop
  | .int k, Φ => ∃ n : Int, Φ (.int k n)
  | .bool, Φ => ∃ b : Bool, Φ (.bool b)
  | .str, Φ => ∃ s : ByteArray, Φ (.string s)
  | .ptr, Φ => ∃ o : Option Addr, Φ (.pointer o)
  | .slice, Φ => ∃ (a : Option Addr) (n c : Nat), Φ (.slice a n c)
  | .map, Φ => ∃ r : Option Nat, Φ (.map r)
  | .func, Φ => ∃ (k : Nat) (first cap : Array Value), Φ (.func (.func k) first cap)
  | .any, Φ => ∃ v, Φ v
def CS.all : CS → (Value → Prop) → Prop
  | .int k, Φ => ∀ n : Int, Φ (.int k n)
  | .bool, Φ => ∀ b : Bool, Φ (.bool b)
  | .str, Φ => ∀ s : ByteArray, Φ (.string s)
  | .ptr, Φ => ∀ o : Option Addr, Φ (.pointer o)
  | .slice, Φ => ∀ (a : Option Addr) (n c : Nat), Φ (.slice a n c)
  | .map, Φ => ∀ r : Option Nat, Φ (.map r)
  | .func, Φ => ∀ (k : Nat) (first cap : Array Value), Φ (.func (.func k) first cap)
  | .any, Φ => ∀ v, Φ v
theorem CS.ex_out {s : CS} {Φ : Value → Prop} (h : s.ex Φ) : ∃ v, Φ v := by
  cases s <;> simp only [CS.ex] at h <;>
    first
      | (obtain ⟨a, n, c, h⟩ := h; exact ⟨_, h⟩)
      | (obtain ⟨a, h⟩ := h; exact ⟨_, h⟩)
def CS.fits : CS → Value → Bool
  | .int k, .int k' _ => decide (k = k')
  | .bool, .bool _ => true
  | .str, .string _ => true
  | .ptr, .pointer _ => true
  | .slice, .slice _ _ _ => true
  | .map, .map _ => true
  | .func, .func (.func _) _ _ => true
  | .any, _ => true
  | _, _ => false
theorem CS.all_out {s : CS} {Φ : Value → Prop} (h : s.all Φ) {v : Value} (hv : s.fits v = true) : Φ v := by
  cases s <;> simp only [CS.all] at h <;> first | exact h v | skip
  all_goals (cases v <;> simp only [CS.fits, Bool.false_eq_true] at hv)
  case int.int k k' n => have := of_decide_eq_true hv; subst this; exact h n
  case func.func fn a b => cases fn <;> simp at hv; exact h _ _ _
  all_goals first | exact h _ | exact h _ _ _
def csOf : Value → CS
  | .int k _ => .int k
  | .bool _ => .bool
  | .string _ => .str
  | .pointer _ => .ptr
  | .slice _ _ _ => .slice
  | .map _ => .map
  | .nilFunc => .func
  | .func (.func _) _ _ => .func
  | _ => .any
def exs : List CS → (List Value → Prop) → Prop
  | [], Φ => Φ []
  | s :: r, Φ => s.ex fun v => exs r fun vs => Φ (v :: vs)
def alls : List CS → (List Value → Prop) → Prop
  | [], Φ => Φ []
  | s :: r, Φ => s.all fun v => alls r fun vs => Φ (v :: vs)
theorem exs_out : ∀ {l : List CS} {Φ : List Value → Prop}, exs l Φ → ∃ vs, vs.length = l.length ∧ Φ vs
  | [], _, h => ⟨[], rfl, h⟩
  | s :: r, Φ, h => by
    obtain ⟨v, h⟩ := CS.ex_out h
    obtain ⟨vs, hl, h⟩ := exs_out h
    exact ⟨v :: vs, by simp [hl], h⟩
def fitsAll : List CS → List Value → Bool
  | [], [] => true
  | s :: r, v :: vs => bif s.fits v then fitsAll r vs else false
  | _, _ => false
theorem alls_out : ∀ {l : List CS} {Φ : List Value → Prop}, alls l Φ → ∀ {vs : List Value}, fitsAll l vs = true → Φ vs
  | [], _, h, [], _ => h
  | s :: r, Φ, h, v :: vs, hv => by
    simp only [fitsAll] at hv
    cases hs : s.fits v
    · simp [hs] at hv
    · simp only [hs, cond_true] at hv
      exact alls_out (CS.all_out h hs) hv
  | [], _, _, _ :: _, hv => by simp [fitsAll] at hv
  | _ :: _, _, _, [], hv => by simp [fitsAll] at hv
/-- a value's shape: one cell; a struct or an array of few cells; one of many. -/
inductive Sh where
  | one (s : CS) | agg (l : List CS) | big
def Sh.ex : Sh → (Value → Prop) → Prop
  | .one s, Φ => s.ex Φ
  | .agg l, Φ => exs l fun vs => Φ (.agg vs.toArray)
  | .big, Φ => ∃ cs : Array Value, Φ (.agg cs)
def Sh.all : Sh → (Value → Prop) → Prop
  | .one s, Φ => s.all Φ
  | .agg l, Φ => alls l fun vs => Φ (.agg vs.toArray)
  | .big, Φ => ∀ cs : Array Value, Φ (.agg cs)
def Sh.fits : Sh → Value → Bool
  | .one s, v => s.fits v
  | .agg l, .agg cs => fitsAll l cs.toList
  | .big, .agg _ => true
  | _, _ => false
theorem Sh.ex_out {s : Sh} {Φ : Value → Prop} (h : s.ex Φ) : ∃ v, Φ v := by
  cases s with
  | one s => exact CS.ex_out h
  | agg l => obtain ⟨vs, _, h⟩ := exs_out h; exact ⟨_, h⟩
  | big => obtain ⟨cs, h⟩ := h; exact ⟨_, h⟩
theorem Sh.all_out {s : Sh} {Φ : Value → Prop} (h : s.all Φ) {v : Value} (hv : s.fits v = true) : Φ v := by
  cases s with
  | one s => exact CS.all_out h hv
  | agg l =>
    cases v <;> simp only [Sh.fits, Bool.false_eq_true] at hv
    have := alls_out h hv
    simpa using this
  | big =>
    cases v <;> simp only [Sh.fits, Bool.false_eq_true] at hv
    exact h _
def sexs : List Sh → (List Value → Prop) → Prop
  | [], Φ => Φ []
  | s :: r, Φ => s.ex fun v => sexs r fun vs => Φ (v :: vs)
theorem sexs_out : ∀ {l : List Sh} {Φ : List Value → Prop}, sexs l Φ → ∃ vs, Φ vs
  | [], _, h => ⟨[], h⟩
  | s :: r, Φ, h => by
    obtain ⟨v, h⟩ := Sh.ex_out h
    obtain ⟨vs, h⟩ := sexs_out h
    exact ⟨_, h⟩
def salls : List Sh → (List Value → Prop) → Prop
  | [], Φ => Φ []
  | s :: r, Φ => s.all fun v => salls r fun vs => Φ (v :: vs)
def sfitsAll : List Sh → List Value → Bool
  | [], [] => true
  | s :: r, v :: vs => bif s.fits v then sfitsAll r vs else false
  | _, _ => false
theorem salls_out : ∀ {l : List Sh} {Φ : List Value → Prop}, salls l Φ → ∀ {vs : List Value}, sfitsAll l vs = true → Φ vs
  | [], _, h, [], _ => h
  | s :: r, Φ, h, v :: vs, hv => by
    simp only [sfitsAll] at hv
    cases hs : s.fits v
    · simp [hs] at hv
    · simp only [hs, cond_true] at hv
      exact salls_out (Sh.all_out h hs) hv
  | [], _, _, _ :: _, hv => by simp [sfitsAll] at hv
  | _ :: _, _, _, [], hv => by simp [sfitsAll] at hv
/-- the shape of a type's values. -/
def shOf (P : Program) (t : TypeId) : Sh :=
  match P.info? t with
  | some i =>
    match i.zero with
    | some (.agg cs) => bif Nat.ble cs.size 24 then .agg (cs.toList.map csOf) else .big
    | some v => .one (csOf v)
    | none => .big
  | none => .big
/-- what a call hands back. -/
def resEx (P : Program) (t : TypeId) (Φ : Value → Prop) : Prop :=
  match P.info? t with
  | some i =>
    match i.desc with
    | .tuple ts => sexs (ts.toList.map (shOf P)) fun vs => Φ (.tuple vs.toArray)
    | _ => (shOf P t).ex Φ
  | none => False
theorem resEx_out {P : Program} {t : TypeId} {Φ : Value → Prop} (h : resEx P t Φ) : ∃ v, Φ v := by
  unfold resEx at h
  split at h
  · split at h
    · obtain ⟨vs, h⟩ := sexs_out h; exact ⟨_, h⟩
    · exact Sh.ex_out h
  · exact h.elim

end Go.Mx
