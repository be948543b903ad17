/- The words of a symbolic executor over the model's code: what an operation asks and yields, as a predicate over facts on slots; each rule is proved against the model's own run. No program is named here. -/
import Derived.Calls
import Derived.Orders
import Derived.Laws.Sem
import Derived.Laws.World
import Derived.Tactics
import Derived.Carry
import Derived.OrdersHeld
import Derived.Maps.AppendAt
import Derived.Laws.BytesArg
import Derived.ProofKit
import Derived.OpenShut
import Derived.ShutString
import Derived.ChangeOld
import Derived.Below
import Derived.Laws.StructEq
import Derived.ChangeKeysEq
import Derived.Laws.MakeOwn
import Derived.Laws.Bits64
import Derived.Laws.BitsLemmas
import Derived.Laws.OwnMore
import Derived.Test.YtebghegecofmhaaProg
import Derived.KernelRfl
abbrev Go.RW := Go.Value → Go.World → Prop
namespace Go.Mx

/-! ### facts on slots -/
abbrev Fs := List (Nat × Value)
def get : Fs → Nat → Option Value
  | [], _ => none
  | p :: r, t => bif Nat.beq p.1 t then some p.2 else get r t
def has : Fs → Nat → Bool
  | [], _ => false
  | p :: r, t => bif Nat.beq p.1 t then true else has r t
def ev (f : Fs) : Operand → Option Value
  | .tmp t => get f t
  | .const v => some v
  | .global _ => none
  | .func k => some (.func (.func k) #[] #[])
def rho (f : Fs) (x : Operand) : Value := (ev f x).getD undef
def known (f : Fs) : List Operand → Bool
  | [] => true
  | x :: r => bif (ev f x).isSome then known f r else false

theorem Q0L (f g : Fs) (t : Nat) : get (f ++ g) t = (get f t).or (get g t) := by
  induction f with
  | nil => simp [get]
  | cons p r ih =>
    simp only [List.cons_append, get, ih]
    cases Nat.beq p.1 t <;> simp

structure Fr (D : List Deferred) (n : Nat) (f : Fs) (a : Act) : Prop where
  size : a.tmps.size = n
  defers : a.defers = D
  at_ : ∀ t v, get f t = some v → a.tmps[t]? = some v

theorem Fr.eval {D : List Deferred} {n : Nat} {f : Fs} {a : Act} (h : Fr D n f a) {x : Operand} (hx : (ev f x).isSome = true) : a.eval x = rho f x := by
  cases x with
  | tmp t =>
    simp only [ev] at hx
    obtain ⟨v, hv⟩ := Option.isSome_iff_exists.1 hx
    have := h.at_ t v hv
    simp [Act.eval, rho, ev, hv, this]
  | const v => rfl
  | global g => simp [ev] at hx
  | func k => rfl

theorem Q4b {f : Fs} {l : List Operand} (h : known f l = true) : ∀ x ∈ l, (ev f x).isSome = true := by
  induction l with
  | nil => simp
  | cons y r ih =>
    intro x hx
    simp only [known] at h
    cases hy : (ev f y).isSome
    · simp [hy] at h
    · simp only [hy, cond_true] at h
      rcases List.mem_cons.1 hx with rfl | hx
      · exact hy
      · exact ih h x hx

theorem Q0B {a b : Nat} (h : Nat.beq a b = true) : a = b := Nat.eq_of_beq_eq_true h

theorem Fr.put {D : List Deferred} {n : Nat} {f : Fs} {a : Act} (h : Fr D n f a) {d : Nat} (hd : Nat.blt d n = true) (v : Value) : Fr D n ((d, v) :: f) (a.put (some d) v) := by
  have hlt : d < n := by simpa [Nat.blt_eq] using hd
  refine ⟨by simp [Act.put, h.size], h.defers, fun t u ht => ?_⟩
  simp only [get] at ht
  simp only [Act.put]
  cases hb : Nat.beq d t
  · simp only [hb, cond_false] at ht
    have hne : d ≠ t := fun e => by subst e; simp at hb
    rw [Array.getElem?_setIfInBounds_ne hne]
    exact h.at_ t u ht
  · simp only [hb, cond_true, Option.some.injEq] at ht
    have := Q0B hb
    subst this; subst ht
    rw [Array.getElem?_setIfInBounds_self]
    simp [h.size, hlt]

/-! ### shapes of cells -/
inductive CS where
  | int (k : IntKind) | bool | str | ptr | slice | map | func | any
def CS.ex : CS → (Value → Prop) → Prop
  | .int k, Φ => ∃ n : Int, Φ (.int k n)
  | .bool, Φ => ∃ b : Bool, Φ (.bool b)
  | .str, Φ => ∃ s : ByteArray, Φ (.string s)
  | .ptr, Φ => ∃ o : Option Addr, Φ (.pointer o)
  | .slice, Φ => ∃ (a : Option Addr) (n c : Nat), Φ (.slice a n c)
  | .map, Φ => ∃ r : Option Nat, Φ (.map r)
  | .func, Φ => ∃ (k : Nat) (first cap : Array Value), Φ (.func (.func k) first cap)
  | .any, Φ => ∃ v, Φ v
def CS.all : CS → (Value → Prop) → Prop
  | .int k, Φ => ∀ n : Int, Φ (.int k n)
  | .bool, Φ => ∀ b : Bool, Φ (.bool b)
  | .str, Φ => ∀ s : ByteArray, Φ (.string s)
  | .ptr, Φ => ∀ o : Option Addr, Φ (.pointer o)
  | .slice, Φ => ∀ (a : Option Addr) (n c : Nat), Φ (.slice a n c)
  | .map, Φ => ∀ r : Option Nat, Φ (.map r)
  | .func, Φ => ∀ (k : Nat) (first cap : Array Value), Φ (.func (.func k) first cap)
  | .any, Φ => ∀ v, Φ v
theorem CS.ex_out {s : CS} {Φ : Value → Prop} (h : s.ex Φ) : ∃ v, Φ v := by
  cases s <;> simp only [CS.ex] at h <;>
    first
      | (obtain ⟨a, n, c, h⟩ := h; exact ⟨_, h⟩)
      | (obtain ⟨a, h⟩ := h; exact ⟨_, h⟩)
def CS.fits : CS → Value → Bool
  | .int k, .int k' _ => decide (k = k')
  | .bool, .bool _ => true
  | .str, .string _ => true
  | .ptr, .pointer _ => true
  | .slice, .slice _ _ _ => true
  | .map, .map _ => true
  | .func, .func (.func _) _ _ => true
  | .any, _ => true
  | _, _ => false
theorem CS.all_out {s : CS} {Φ : Value → Prop} (h : s.all Φ) {v : Value} (hv : s.fits v = true) : Φ v := by
  cases s <;> simp only [CS.all] at h <;> first | exact h v | skip
  all_goals (cases v <;> simp only [CS.fits, Bool.false_eq_true] at hv)
  case int.int k k' n => have := of_decide_eq_true hv; subst this; exact h n
  case func.func fn a b => cases fn <;> simp at hv; exact h _ _ _
  all_goals first | exact h _ | exact h _ _ _
def csOf : Value → CS
  | .int k _ => .int k
  | .bool _ => .bool
  | .string _ => .str
  | .pointer _ => .ptr
  | .slice _ _ _ => .slice
  | .map _ => .map
  | .nilFunc => .func
  | .func (.func _) _ _ => .func
  | _ => .any
def exs : List CS → (List Value → Prop) → Prop
  | [], Φ => Φ []
  | s :: r, Φ => s.ex fun v => exs r fun vs => Φ (v :: vs)
def alls : List CS → (List Value → Prop) → Prop
  | [], Φ => Φ []
  | s :: r, Φ => s.all fun v => alls r fun vs => Φ (v :: vs)
theorem exs_out : ∀ {l : List CS} {Φ : List Value → Prop}, exs l Φ → ∃ vs, vs.length = l.length ∧ Φ vs
  | [], _, h => ⟨[], rfl, h⟩
  | s :: r, Φ, h => by
    obtain ⟨v, h⟩ := CS.ex_out h
    obtain ⟨vs, hl, h⟩ := exs_out h
    exact ⟨v :: vs, by simp [hl], h⟩
def fitsAll : List CS → List Value → Bool
  | [], [] => true
  | s :: r, v :: vs => bif s.fits v then fitsAll r vs else false
  | _, _ => false
theorem Q3z : ∀ {l : List CS} {Φ : List Value → Prop}, alls l Φ → ∀ {vs : List Value}, fitsAll l vs = true → Φ vs
  | [], _, h, [], _ => h
  | s :: r, Φ, h, v :: vs, hv => by
    simp only [fitsAll] at hv
    cases hs : s.fits v
    · simp [hs] at hv
    · simp only [hs, cond_true] at hv
      exact Q3z (CS.all_out h hs) hv
  | [], _, _, _ :: _, hv => by simp [fitsAll] at hv
  | _ :: _, _, _, [], hv => by simp [fitsAll] at hv
inductive Sh where
  | one (s : CS) | agg (l : List CS) | big
def Sh.ex : Sh → (Value → Prop) → Prop
  | .one s, Φ => s.ex Φ
  | .agg l, Φ => exs l fun vs => Φ (.agg vs.toArray)
  | .big, Φ => ∃ cs : Array Value, Φ (.agg cs)
def Sh.all : Sh → (Value → Prop) → Prop
  | .one s, Φ => s.all Φ
  | .agg l, Φ => alls l fun vs => Φ (.agg vs.toArray)
  | .big, Φ => ∀ cs : Array Value, Φ (.agg cs)
def Sh.fits : Sh → Value → Bool
  | .one s, v => s.fits v
  | .agg l, .agg cs => fitsAll l cs.toList
  | .big, .agg _ => true
  | _, _ => false
theorem Sh.ex_out {s : Sh} {Φ : Value → Prop} (h : s.ex Φ) : ∃ v, Φ v := by
  cases s with
  | one s => exact CS.ex_out h
  | agg l => obtain ⟨vs, _, h⟩ := exs_out h; exact ⟨_, h⟩
  | big => obtain ⟨cs, h⟩ := h; exact ⟨_, h⟩
theorem Sh.all_out {s : Sh} {Φ : Value → Prop} (h : s.all Φ) {v : Value} (hv : s.fits v = true) : Φ v := by
  cases s with
  | one s => exact CS.all_out h hv
  | agg l =>
    cases v <;> simp only [Sh.fits, Bool.false_eq_true] at hv
    have := Q3z h hv
    simpa using this
  | big =>
    cases v <;> simp only [Sh.fits, Bool.false_eq_true] at hv
    exact h _
def sexs : List Sh → (List Value → Prop) → Prop
  | [], Φ => Φ []
  | s :: r, Φ => s.ex fun v => sexs r fun vs => Φ (v :: vs)
theorem Q3n : ∀ {l : List Sh} {Φ : List Value → Prop}, sexs l Φ → ∃ vs, Φ vs
  | [], _, h => ⟨[], h⟩
  | s :: r, Φ, h => by
    obtain ⟨v, h⟩ := Sh.ex_out h
    obtain ⟨vs, h⟩ := Q3n h
    exact ⟨_, h⟩
def salls : List Sh → (List Value → Prop) → Prop
  | [], Φ => Φ []
  | s :: r, Φ => s.all fun v => salls r fun vs => Φ (v :: vs)
def Q0N : List Sh → List Value → Bool
  | [], [] => true
  | s :: r, v :: vs => bif s.fits v then Q0N r vs else false
  | _, _ => false
theorem Q2X : ∀ {l : List Sh} {Φ : List Value → Prop}, salls l Φ → ∀ {vs : List Value}, Q0N l vs = true → Φ vs
  | [], _, h, [], _ => h
  | s :: r, Φ, h, v :: vs, hv => by
    simp only [Q0N] at hv
    cases hs : s.fits v
    · simp [hs] at hv
    · simp only [hs, cond_true] at hv
      exact Q2X (Sh.all_out h hs) hv
  | [], _, _, _ :: _, hv => by simp [Q0N] at hv
  | _ :: _, _, _, [], hv => by simp [Q0N] at hv
def shOf (P : Program) (t : TypeId) : Sh :=
  match P.info? t with
  | some i =>
    match i.zero with
    | some (.agg cs) => bif Nat.ble cs.size 24 then .agg (cs.toList.map csOf) else .big
    | some v => .one (csOf v)
    | none => .big
  | none => .big
def resEx (P : Program) (t : TypeId) (Φ : Value → Prop) : Prop :=
  match P.info? t with
  | some i =>
    match i.desc with
    | .tuple ts => sexs (ts.toList.map (shOf P)) fun vs => Φ (.tuple vs.toArray)
    | _ => (shOf P t).ex Φ
  | none => False
theorem Q1B {P : Program} {t : TypeId} {Φ : Value → Prop} (h : resEx P t Φ) : ∃ v, Φ v := by
  unfold resEx at h
  split at h
  · split at h
    · obtain ⟨vs, h⟩ := Q3n h; exact ⟨_, h⟩
    · exact Sh.ex_out h
  · exact h.elim

end Go.Mx
namespace Go.Mx

abbrev Chi := Option (World → Prop)
def Chi.at : Chi → World → Prop
  | none, _ => True
  | some c, w => c w

def aggK (P : Program) (t : TypeId) : Option Bool :=
  match P.underlying t with
  | some (.struct _) => some true
  | some (.array _ _) => some true
  | some _ => some false
  | none => none
def szB (P : Program) (t : TypeId) (n : Nat) : Bool :=
  match P.info? t with
  | some i => Nat.beq i.size n
  | none => false

def cellsAt (w : World) (a : Addr) : List Value → Nat → Prop
  | [], _ => True
  | v :: r, i => w.cell? (a.add i) = some v ∧ cellsAt w a r (i + 1)

section
variable (P : Program) (ρ : Operand → Value)

def mint (op : BinOp) (k : IntKind) (a b : Int) (K : Value → Prop) : Prop :=
  match op with
  | .add => K (.int k (k.wrap (a + b)))
  | .sub => K (.int k (k.wrap (a - b)))
  | .mul => K (.int k (k.wrap (a * b)))
  | .quo => b ≠ 0 ∧ K (.int k (k.wrap (a.tdiv b)))
  | .rem => b ≠ 0 ∧ K (.int k (a.tmod b))
  | .and => K (.int k (k.wrap (BitVec.ofInt k.bits a &&& BitVec.ofInt k.bits b).toNat))
  | .or => K (.int k (k.wrap (BitVec.ofInt k.bits a ||| BitVec.ofInt k.bits b).toNat))
  | .xor => K (.int k (k.wrap (BitVec.ofInt k.bits a ^^^ BitVec.ofInt k.bits b).toNat))
  | .andNot => K (.int k (k.wrap (BitVec.ofInt k.bits a &&& ~~~(BitVec.ofInt k.bits b)).toNat))
  | .eql => K (.bool (a == b))
  | .neq => K (.bool (a != b))
  | .lss => K (.bool (decide (a < b)))
  | .leq => K (.bool (decide (a ≤ b)))
  | .gtr => K (.bool (decide (a > b)))
  | .geq => K (.bool (decide (a ≥ b)))
  | _ => False

def asV (ty : TypeId) (s : Sem Value) (w : World) (K : Value → Chi → Prop) : Prop :=
  resEx P ty fun v => s.run P w = .ok v w ∧ K v (some fun w' => s.run P w' = .ok v w')

def okGuard (t : TypeId) (a b : Value) : Bool :=
  match a, b with
  | .agg _, .agg _ => !(P.eqGuardType P.depth t)
  | .nilIface, .nilIface => false
  | _, _ => true

def mbin (ty : TypeId) (w : World) (op : BinOp) (t : TypeId) (x y : Value) (K : Value → Chi → Prop) : Prop :=
  match op, x, y with
  | .shl, .int k a, .int _ b => 0 ≤ b ∧ K (.int k (k.wrap (a * 2 ^ (min b.toNat k.bits)))) none
  | .shr, .int k a, .int _ b => 0 ≤ b ∧ K (.int k (a.fdiv (2 ^ (min b.toNat k.bits)))) none
  | op, .int k a, .int k' b => bif decide (k = k') then mint op k a b (K · none) else False
  | .eql, .string a, .string b => K (.bool (a.toList == b.toList)) none
  | .neq, .string a, .string b => K (.bool (!(a.toList == b.toList))) none
  | .eql, .bool a, .bool b => match P.underlying t with | some .bool => K (.bool (a == b)) none | _ => False
  | .neq, .bool a, .bool b => match P.underlying t with | some .bool => K (.bool (!(a == b))) none | _ => False
  | .eql, .pointer a, .pointer none => match P.underlying t with | some (.pointer _) => K (.bool a.isNone) none | _ => False
  | .neq, .pointer a, .pointer none => match P.underlying t with | some (.pointer _) => K (.bool (!a.isNone)) none | _ => False
  | .eql, .slice a _ _, .slice none _ _ => match P.underlying t with | some (.slice _) => K (.bool a.isNone) none | _ => False
  | .neq, .slice a _ _, .slice none _ _ => match P.underlying t with | some (.slice _) => K (.bool (!a.isNone)) none | _ => False
  | _, _, _ => bif okGuard P t x y then asV P ty (binOp op t x y) w K else False

def forksK : List Value → Nat → Int → (Value → Prop) → Prop
  | [], _, _, _ => True
  | c :: r, i, j, K => (j = Int.ofNat i → K c) ∧ forksK r (i + 1) j K
def isFns (cs : Array Value) : Bool := match cs[0]? with | some (Value.func _ _ _) => true | some (Value.int _ _) => true | _ => false
theorem Q2Z {K : Value → Prop} : ∀ {l : List Value} {i : Nat} {j : Nat} (_ : forksK l i (Int.ofNat (i + j)) K) (hj : j < l.length), K l[j]
  | [], _, _, _, hj => by simp at hj
  | c :: r, i, 0, h, _ => h.1 rfl
  | c :: r, i, j + 1, h, hj => by
    have := Q2Z (l := r) (i := i + 1) (j := j) (by rw [show i + 1 + j = i + (j + 1) by omega]; exact h.2) (by simpa using hj)
    simpa using this
def mpart (t : TypeId) (cs : Array Value) (off : Nat) (K : Value → Prop) : Prop :=
  match P.info? t with
  | some i =>
    match aggK P t with
    | some true => K (.agg (cs.extract off (off + i.size)))
    | some false => (match cs[off]? with | some v => K v | none => False)
    | none => False
  | none => False

def optInt : Option Operand → (Option Int → Prop) → Prop
  | none, Φ => Φ none
  | some x, Φ => match ρ x with | .int _ n => Φ (some n) | _ => False

def mcut (len cap : Nat) (lo hi mx : Option Int) (K : Nat → Nat → Nat → Prop) : Prop :=
  match lo, hi, mx with
  | none, none, none => K 0 len cap
  | some l, none, none => 0 ≤ l ∧ l ≤ len ∧ K l.toNat len cap
  | none, some h, none => 0 ≤ h ∧ h ≤ cap ∧ K 0 h.toNat cap
  | some l, some h, none => 0 ≤ h ∧ h ≤ cap ∧ 0 ≤ l ∧ l ≤ h ∧ K l.toNat h.toNat cap
  | none, some h, some m => 0 ≤ m ∧ m ≤ cap ∧ 0 ≤ h ∧ h ≤ m ∧ K 0 h.toNat m.toNat
  | some l, some h, some m => 0 ≤ m ∧ m ≤ cap ∧ 0 ≤ h ∧ h ≤ m ∧ 0 ≤ l ∧ l ≤ h ∧ K l.toNat h.toNat m.toNat
  | _, none, some _ => False

def mslice (t : TypeId) (x : Value) (lo hi mx : Option Int) (K : Value → Prop) : Prop :=
  match P.underlying t, x with
  | some (.slice e), .slice a n c =>
    match P.info? e with
    | some i => mcut n c lo hi mx fun l h m => K (.slice (if m = l then a else a.map (·.add (l * i.size))) (h - l) (m - l))
    | none => False
  | some .string, .string s => mcut s.size s.size lo hi none fun l h _ => mx = none ∧ K (.string (s.extract l h))
  | some (.array n e), .pointer (some a) =>
    match P.info? e with
    | some i => mcut n n lo hi mx fun l h m => K (.slice (some (if m = l then a else a.add (l * i.size))) (h - l) (m - l))
    | none => False
  | _, _ => False

def mbuild (t : TypeId) (parts : List (Nat × Value)) (K : Value → Prop) : Prop :=
  match P.info? t, P.underlying t with
  | some i, some (.struct fields) =>
    match i.zero with
    | some z =>
      match Instr.fill (fun j => (fields[j]?).bind fun fl => (P.info? fl.type).map fun u => (fl.offset, u.size)) z.cells parts with
      | some cells => bif fields.all (fun fl => (P.info? fl.type).isSome) then K (.agg cells) else False
      | none => False
    | none => False
  | some i, some (.array _ e) =>
    match i.zero, P.info? e with
    | some z, some u =>
      match Instr.fill (fun j => some (j * u.size, u.size)) z.cells parts with
      | some cells => K (.agg cells)
      | none => False
    | _, _ => False
  | _, _ => False

def mcallb (ty : TypeId) (w : World) (b : Builtin) (ts : Array TypeId) (args : List Value) (K : Value → Chi → Prop) : Prop :=
  match b, args with
  | .len, [.slice _ n _] => match (ts[0]?).bind P.underlying with | some (.slice _) => K (.int .i64 n) none | _ => False
  | .len, [.string s] => match (ts[0]?).bind P.underlying with | some .string => K (.int .i64 s.size) none | _ => False
  | .cap, [.slice _ _ c] => match (ts[0]?).bind P.underlying with | some (.slice _) => K (.int .i64 c) none | _ => False
  | .max, [.int k a, .int _ b] => K (.int k (if b > a then b else a)) none
  | .min, [.int k a, .int _ b] => K (.int k (if b < a then b else a)) none
  | .len, args => asV P ty (Builtin.len_ ts ty args.toArray) w K
  | _, _ => False

def mload (t : TypeId) (a : Addr) (w : World) (K : Value → Chi → Prop) : Prop :=
  match shOf P t with
  | .one s => (match aggK P t with
    | some false => s.ex fun v => w.cell? a = some v ∧ K v (some fun w' => w'.cell? a = some v)
    | _ => False)
  | .agg l =>
    (match aggK P t, szB P t l.length with
    | some true, true => exs l fun vs => cellsAt w a vs 0 ∧ K (.agg vs.toArray) (some fun w' => cellsAt w' a vs 0)
    | _, _ => False)
  | .big =>
    (match aggK P t with
    | some true => ∃ cs : Array Value, szB P t cs.size = true ∧ cellsAt w a cs.toList 0 ∧ K (.agg cs) (some fun w' => cellsAt w' a cs.toList 0)
    | _ => False)

def mrd (o : Oper) (w : World) (K : Value → Chi → Prop) : Prop :=
  match o.op with
  | .move x => K (ρ x) none
  | .assign x => K (ρ x) none
  | .pick c a b => match ρ c with | .bool t => K (bif t then ρ a else ρ b) none | _ => False
  | .nilCheck x =>
    match ρ x with
    | .pointer p => p.elim False fun a => K (.pointer (some a)) none
    | .func (.func k) first cap => K (.func (.func k) first cap) none
    | _ => False
  | .binOp op t x y _ =>
    match op, ρ x, ρ y, y with
    | .neq, .nilIface, .nilIface, .const _ => (match P.underlying t with | some (.interface _) => K (.bool false) none | _ => False)
    | .eql, .nilIface, .nilIface, .const _ => (match P.underlying t with | some (.interface _) => K (.bool true) none | _ => False)
    | op, vx, vy, _ => mbin P o.type w op t vx vy K
  | .unOp op _ x =>
    match op, ρ x with
    | .not, .bool b => K (.bool (!b)) none
    | .neg, .int k n => K (.int k (k.wrap (0 - n))) none
    | _, _ => False
  | .extract x i => match ρ x with | .tuple vs => (match vs[i]? with | some v => K v none | none => False) | _ => False
  | .fieldAddr s x i =>
    match P.underlying s, ρ x with
    | some (.struct fs), .pointer (some a) =>
      match fs[i]? with
      | some fl => match P.info? fl.type with | some u => (bif Nat.beq u.size 0 then False else K (.pointer (some (a.add fl.offset))) none) | none => False
      | none => False
    | _, _ => False
  | .field s x i =>
    match P.underlying s, ρ x with
    | some (.struct fs), .agg cs => (match fs[i]? with | some fl => mpart P fl.type cs fl.offset (K · none) | none => False)
    | _, _ => False
  | .indexAddr t x i =>
    match P.underlying t, ρ x, ρ i with
    | some (.slice e), .slice p n _, .int _ j =>
      match P.info? e with
      | some u => p.elim False fun a => 0 ≤ j ∧ j < n ∧ K (.pointer (some (a.add (j.toNat * u.size)))) none
      | none => False
    | some (.array n e), .pointer (some a), .int _ j =>
      match P.info? e with
      | some u => 0 ≤ j ∧ j < n ∧ K (.pointer (some (a.add (j.toNat * u.size)))) none
      | none => False
    | _, _, _ => False
  | .index t x i =>
    match P.underlying t, ρ x, ρ i with
    | some .string, .string s, .int _ j => 0 ≤ j ∧ ∃ b, s[j.toNat]? = some b ∧ K (.int .u8 b.toNat) none
    | some (.array n e), .agg cs, .int _ j => match P.info? e with | some u => 0 ≤ j ∧ j < n ∧ (bif isFns cs then (bif Nat.beq u.size 1 && Nat.ble n cs.size then (match aggK P e with | some false => forksK cs.toList 0 j (K · none) | _ => False) else False) else mpart P e cs (j.toNat * u.size) (K · none)) | none => False
    | _, _, _ => False
  | .slice t x lo hi mx => optInt ρ lo fun l => optInt ρ hi fun h => optInt ρ mx fun m => mslice P t (ρ x) l h m (K · none)
  | .makeFunc fn first cap => K (.func fn (first.map ρ) (cap.map ρ)) none
  | .makeInterface t x => match P.underlying t with | some (.interface _) => False | some _ => K (.iface t (ρ x)) none | none => False
  | .build t parts => mbuild P t (parts.toList.map fun p => (p.1, ρ p.2)) (K · none)
  | .convert s d x =>
    match P.underlying s, P.underlying d, ρ x with
    | some _, some (.int k), .int _ n => K (.int k (k.wrap n)) none
    | some _, some .string, .string s => K (.string s) none
    | _, _, _ => asV P o.type (convert s d (ρ x)) w K
  | .load t x => match ρ x with | .pointer (some a) => mload P t a w K | _ => False
  | .call c => match c.callee with | .builtin b => mcallb P o.type w b c.argTypes (c.args.toList.map ρ) K | _ => False
  | .lookup t x i ok => asV P o.type (Instr.lookup t (ρ x) (ρ i) ok) w K
  | .typeAssert x t d ok => asV P o.type (Instr.typeAssert (ρ x) t d ok) w K
  | _ => False
end

/-! ### the rules are the model's -/
section
variable {P : Program} {ρ : Operand → Value}

def Good (P : Program) (s : Sem Next) (w : World) (K : Value → Chi → Prop) : Prop :=
  ∃ (v : Value) (χ : Chi), Chi.at χ w ∧ (∀ w', Chi.at χ w' → s.run P w' = .ok (.value v) w') ∧ K v χ
theorem Good.pure_ {s : Sem Next} {w : World} {K : Value → Chi → Prop} {v : Value} (h : ∀ w', s.run P w' = .ok (.value v) w') (hK : K v none) : Good P s w K :=
  ⟨v, none, trivial, fun w' _ => h w', hK⟩
theorem asV_ok {ty : TypeId} {s : Sem Value} {w : World} {K : Value → Chi → Prop} (h : asV P ty s w K) :
    ∃ (v : Value) (χ : Chi), Chi.at χ w ∧ (∀ w', Chi.at χ w' → s.run P w' = .ok v w') ∧ K v χ := by
  obtain ⟨v, h1, h2⟩ := Q1B h
  exact ⟨v, some fun w' => s.run P w' = .ok v w', h1, fun _ h => h, h2⟩

theorem Q0G {w : World} {a : Addr} : ∀ (vs : List Value) (i : Nat) (acc : Array Value), cellsAt w a vs i →
    (loadCellsFrom a i vs.length acc).run P w = .ok (acc ++ vs.toArray) w
  | [], _, acc, _ => by simp [loadCellsFrom]
  | v :: r, i, acc, h => by
    simp only [List.length_cons, loadCellsFrom, Sem.run_bind, run_load, h.1, Result.andThen_ok]
    rw [Q0G r (i + 1) (acc.push v) h.2]
    have e : acc.push v ++ r.toArray = acc ++ (v :: r).toArray := by
      apply Array.ext'
      simp
    rw [e]

theorem run_underlying' {t : TypeId} {d : TypeDesc} (h : P.underlying t = some d) (w : World) : (underlying t).run P w = .ok d w := by
  simp [underlying, h]
theorem run_typeInfo' {t : TypeId} {i : TypeInfo} (h : P.info? t = some i) (w : World) : (typeInfo t).run P w = .ok i w := by
  simp [typeInfo, h]
theorem run_sizeOf' {t : TypeId} {i : TypeInfo} (h : P.info? t = some i) (w : World) : (sizeOf t).run P w = .ok i.size w := by
  simp [sizeOf, run_typeInfo' h]
theorem run_isAgg' {t : TypeId} {b : Bool} (h : aggK P t = some b) (w : World) : (isAgg t).run P w = .ok b w := by
  unfold aggK at h
  cases hu : P.underlying t with
  | none => simp [hu] at h
  | some d =>
    simp only [hu] at h
    simp only [isAgg, Sem.run_bind, run_underlying' hu, Result.andThen_ok]
    cases d <;> simp at h <;> subst h <;> rfl
theorem Q2G {t : TypeId} {n : Nat} (h : szB P t n = true) : ∃ i, P.info? t = some i ∧ i.size = n := by
  unfold szB at h
  split at h
  · rename_i i hi; exact ⟨i, hi, Q0B h⟩
  · cases h
theorem Q3y {t : TypeId} {cs : Array Value} {off : Nat} {K : Value → Prop} (h : mpart P t cs off K) :
    ∃ v, (∀ w, (part t cs off).run P w = .ok v w) ∧ K v := by
  unfold mpart at h
  split at h
  · rename_i i hi
    split at h
    · rename_i hb
      exact ⟨_, fun w => by simp [part, run_isAgg' hb, run_sizeOf' hi], h⟩
    · rename_i hb
      split at h
      · rename_i v hv
        exact ⟨v, fun w => by simp [part, run_isAgg' hb, hv], h⟩
      · exact h.elim
    · exact h.elim
  · exact h.elim
theorem Q1V {t : TypeId} {a : Addr} {w : World} {K : Value → Chi → Prop} (h : mload P t a w K) :
    ∃ (v : Value) (χ : Chi), Chi.at χ w ∧ (∀ w', Chi.at χ w' → (loadVar t a).run P w' = .ok v w') ∧ K v χ := by
  unfold mload at h
  split at h
  · split at h
    · rename_i hb
      obtain ⟨v, h1, h2⟩ := CS.ex_out h
      exact ⟨v, some fun w' => w'.cell? a = some v, h1, fun w' h => by
        simp only [Chi.at] at h
        simp [loadVar, run_isAgg' hb, h], h2⟩
    · exact h.elim
  · rename_i l _
    split at h
    · rename_i hb hs
      obtain ⟨vs, hl, h1, h2⟩ := exs_out h
      obtain ⟨i, hi, hz⟩ := Q2G hs
      exact ⟨_, some fun w' => cellsAt w' a vs 0, h1, fun w' h => by
        simp only [Chi.at] at h
        have e := Q0G (P := P) vs 0 #[] h
        simp [loadVar, run_isAgg' hb, run_sizeOf' hi, loadCells, hz, ← hl, e], h2⟩
    · exact h.elim
  · split at h
    · rename_i hb
      obtain ⟨cs, hs, h1, h2⟩ := h
      obtain ⟨i, hi, hz⟩ := Q2G hs
      exact ⟨_, some fun w' => cellsAt w' a cs.toList 0, h1, fun w' h => by
        simp only [Chi.at] at h
        have e := Q0G (P := P) cs.toList 0 #[] h
        simp only [Array.length_toList] at e
        simp [loadVar, run_isAgg' hb, run_sizeOf' hi, loadCells, hz, e], h2⟩
    · exact h.elim

end
end Go.Mx
set_option linter.unusedSimpArgs false
set_option linter.unusedVariables false
namespace Go.Mx
section
variable {P : Program} {ρ : Operand → Value}

theorem Good.of_value {s : Sem Value} {w : World} {K : Value → Chi → Prop} (h : ∃ (v : Value) (χ : Chi), Chi.at χ w ∧ (∀ w', Chi.at χ w' → s.run P w' = .ok v w') ∧ K v χ) :
    Good P (do pure (Next.value (← s))) w K := by
  obtain ⟨v, χ, h1, h2, h3⟩ := h
  exact ⟨v, χ, h1, fun w' h => by simp [h2 w' h], h3⟩
theorem Good.of_pure {s : Sem Value} {w : World} {K : Value → Chi → Prop} (h : ∃ v : Value, (∀ w', s.run P w' = .ok v w') ∧ K v none) :
    Good P (do pure (Next.value (← s))) w K := by
  obtain ⟨v, h2, h3⟩ := h
  exact ⟨v, none, trivial, fun w' _ => by simp [h2 w'], h3⟩

theorem mint_ok {op : BinOp} {k : IntKind} {a b : Int} {K : Value → Prop} (h : mint op k a b K) (h1 : op ≠ .shl) (h2 : op ≠ .shr) (t : TypeId) :
    ∃ v : Value, (∀ w, (binOp op t (.int k a) (.int k b)).run P w = .ok v w) ∧ K v := by
  cases op <;> simp only [mint] at h <;> first
    | exact h.elim
    | exact absurd rfl h1
    | exact absurd rfl h2
    | (obtain ⟨hb, h⟩ := h; refine ⟨_, ?_, h⟩; intro w; simp [binOp, Op.intDiv, hb]; done)
    | (refine ⟨_, ?_, h⟩; intro w; simp [binOp, Op.intArith, Op.intBits, Op.intCmp]; done)

theorem Q0u {op : BinOp} {t : TypeId} {x y : Operand} {a b : Value} (w : World)
    (h : (match a, b with | .nilIface, .nilIface => false | .agg _, .agg _ => false | _, _ => true) = true) :
    (eqGuard op t x y a b).run P w = .ok () w := by
  unfold eqGuard
  cases op <;> simp <;> (cases a <;> cases b <;> simp at h ⊢)

theorem Q3E {op : BinOp} {t : TypeId} {x y : Operand} {a b : Value} (h : okGuard P t a b = true) (w : World) :
    (eqGuard op t x y a b).run P w = .ok () w := by
  unfold okGuard at h
  split at h
  · have h' : P.eqGuardType P.depth t = false := by simpa using h
    cases op <;> simp [eqGuard, h']
  · cases h
  · rename_i h1 h2
    refine Q0u w ?_
    cases a <;> cases b <;> simp at h1 h2 ⊢

theorem Q1o {t : TypeId} (hu : P.underlying t = some .bool) (a b : Bool) (w : World) : (Op.equal t (.bool a) (.bool b)).run P w = .ok (a == b) w := by
  have h : ∀ d, (Op.equalIn (d + 1) t (.bool a) (.bool b)).run P w = .ok (a == b) w := fun d => by simp [Op.equalIn, run_underlying' hu]
  exact h 9999
theorem Q1C {t e : TypeId} (hu : P.underlying t = some (.pointer e)) (a : Option Addr) (w : World) : (Op.equal t (.pointer a) (.pointer none)).run P w = .ok a.isNone w := by
  have h : ∀ d, (Op.equalIn (d + 1) t (.pointer a) (.pointer none)).run P w = .ok a.isNone w := fun d => by cases a <;> simp [Op.equalIn, run_underlying' hu]
  exact h 9999
theorem Q0U {t e : TypeId} (hu : P.underlying t = some (.slice e)) (a : Option Addr) (n c m d : Nat) (w : World) : (Op.equal t (.slice a n c) (.slice none m d)).run P w = .ok a.isNone w := by
  have h : ∀ k, (Op.equalIn (k + 1) t (.slice a n c) (.slice none m d)).run P w = .ok a.isNone w := fun k => by cases a <;> simp [Op.equalIn, run_underlying' hu]
  exact h 9999
theorem Q19 {t : TypeId} {ms} (hu : P.underlying t = some (.interface ms)) (w : World) : (Op.equal t .nilIface .nilIface).run P w = .ok true w := by
  have h : ∀ d, (Op.equalIn (d + 1) t .nilIface .nilIface).run P w = .ok true w := fun d => by simp [Op.equalIn, run_underlying' hu]
  exact h _
theorem Q2H (t : TypeId) : binOp .eql t .nilIface .nilIface = (do pure (.bool (← Op.equal t .nilIface .nilIface))) := rfl
theorem Q2F (t : TypeId) : binOp .neq t .nilIface .nilIface = (do pure (.bool (!(← Op.equal t .nilIface .nilIface)))) := rfl
theorem Q27 (t : TypeId) (a b : Option Addr) (n c m d : Nat) : binOp .eql t (.slice a n c) (.slice b m d) = (do pure (.bool (← Op.equal t (.slice a n c) (.slice b m d)))) := rfl
theorem Q2c (t : TypeId) (a b : Option Addr) (n c m d : Nat) : binOp .neq t (.slice a n c) (.slice b m d) = (do pure (.bool (!(← Op.equal t (.slice a n c) (.slice b m d))))) := rfl
theorem Q1q (t : TypeId) (a b : Bool) : binOp .eql t (.bool a) (.bool b) = (do pure (.bool (← Op.equal t (.bool a) (.bool b)))) := rfl
theorem Q1p (t : TypeId) (a b : Bool) : binOp .neq t (.bool a) (.bool b) = (do pure (.bool (!(← Op.equal t (.bool a) (.bool b))))) := rfl
theorem Q1v (t : TypeId) (a b : Option Addr) : binOp .eql t (.pointer a) (.pointer b) = (do pure (.bool (← Op.equal t (.pointer a) (.pointer b)))) := by cases a <;> cases b <;> rfl
theorem Q1x (t : TypeId) (a b : Option Addr) : binOp .neq t (.pointer a) (.pointer b) = (do pure (.bool (!(← Op.equal t (.pointer a) (.pointer b))))) := by cases a <;> cases b <;> rfl

theorem mbin_ok {o : Oper} {w : World} {op : BinOp} {t ty : TypeId} {x y : Operand} {K : Value → Chi → Prop}
    (ho : o.op = .binOp op t x y ty) (h : mbin P o.type w op t (ρ x) (ρ y) K) : Good P (execOp ρ o) w K := by
  have hex : execOp ρ o = (do pure (Next.value (← (do eqGuard op t x y (ρ x) (ρ y); binOp op t (ρ x) (ρ y))))) := by
    simp only [execOp, ho]
  generalize hx : ρ x = vx at h hex
  generalize hy : ρ y = vy at h hex
  unfold mbin at h
  split at h
  · obtain ⟨hb, h⟩ := h
    rw [hex]
    refine Good.of_pure ⟨_, fun w' => ?_, h⟩
    rename_i k a j b
    have : ¬ b < 0 := by omega
    simp [Q0u, binOp, Op.shift, this]
  · obtain ⟨hb, h⟩ := h
    rw [hex]
    refine Good.of_pure ⟨_, fun w' => ?_, h⟩
    rename_i k a j b
    have : ¬ b < 0 := by omega
    simp [Q0u, binOp, Op.shift, this]
  · rename_i k a k' b h1 h2
    cases hk : decide (k = k')
    · simp [hk] at h
    · simp only [hk, cond_true] at h
      have := of_decide_eq_true hk
      subst this
      have hs1 : op ≠ .shl := fun e => h1 e
      have hs2 : op ≠ .shr := fun e => h2 e
      obtain ⟨v, hv, hK⟩ := mint_ok (P := P) h hs1 hs2 t
      rw [hex]
      exact Good.of_pure ⟨v, fun w' => by simp [Q0u, hv w'], hK⟩
  · rw [hex]; exact Good.of_pure ⟨_, fun w' => by simp [Q0u, binOp, Op.stringOp], h⟩
  · rw [hex]; exact Good.of_pure ⟨_, fun w' => by simp [Q0u, binOp, Op.stringOp], h⟩
  · split at h
    · rename_i hu
      rw [hex]; exact Good.of_pure ⟨_, fun w' => by simp [Q0u, Q1q, Q1p, Q1o hu], h⟩
    · exact h.elim
  · split at h
    · rename_i hu
      rw [hex]; exact Good.of_pure ⟨_, fun w' => by simp [Q0u, Q1q, Q1p, Q1o hu], h⟩
    · exact h.elim
  · split at h
    · rename_i hu
      rw [hex]; exact Good.of_pure ⟨_, fun w' => by simp [Q0u, Q1v, Q1x, Q1C hu], h⟩
    · exact h.elim
  · split at h
    · rename_i hu
      rw [hex]; exact Good.of_pure ⟨_, fun w' => by simp [Q0u, Q1v, Q1x, Q1C hu], h⟩
    · exact h.elim
  · split at h
    · rename_i hu
      rw [hex]; exact Good.of_pure ⟨_, fun w' => by simp [Q0u, Q27, Q0U hu], h⟩
    · exact h.elim
  · split at h
    · rename_i hu
      rw [hex]; exact Good.of_pure ⟨_, fun w' => by simp [Q0u, Q2c, Q0U hu], h⟩
    · exact h.elim
  · cases hg : okGuard P t vx vy
    · simp [hg] at h
    · simp only [hg, cond_true] at h
      obtain ⟨v, χ, h1, h2, h3⟩ := asV_ok h
      have hgd : ∀ w', (eqGuard op t x y vx vy).run P w' = .ok () w' := fun w' => Q3E hg w'
      rw [hex]
      exact Good.of_value ⟨v, χ, h1, fun w' h => by simp [hgd w', h2 w' h], h3⟩

theorem Q2a {x : Option Operand} {Φ : Option Int → Prop} (h : optInt ρ x Φ) :
    ∃ l : Option Int, Φ l ∧ ((x = none ∧ l = none) ∨ ∃ y k n, x = some y ∧ ρ y = .int k n ∧ l = some n) := by
  cases x with
  | none => exact ⟨none, h, .inl ⟨rfl, rfl⟩⟩
  | some y =>
    simp only [optInt] at h
    split at h
    · rename_i k n hn
      exact ⟨some n, h, .inr ⟨y, k, n, rfl, hn, rfl⟩⟩
    · exact h.elim

theorem Q0w {k : IntKind} {i : Int} {y : Nat} {c : BoundsCode} (h0 : 0 ≤ i) (h1 : i ≤ y) (w : World) : (Instr.sliceBound (.int k i) y c).run P w = .ok i.toNat w := by
  simp [Instr.sliceBound, asIntOf, h0, h1]

def Bd (v : Option Value) (l : Option Int) : Prop := (v = none ∧ l = none) ∨ ∃ k n, v = some (.int k n) ∧ l = some n

theorem Q0Q {b : Bool} {len cap : Nat} {lo hi mx : Option Value} {l h m : Option Int} {K : Nat → Nat → Nat → Prop}
    (hlo : Bd lo l) (hhi : Bd hi h) (hmx : Bd mx m) (hc : mcut len cap l h m K) :
    ∃ x y z, (∀ w, (Instr.sliceBounds b len cap lo hi mx).run P w = .ok (x, y, z) w) ∧ K x y z := by
  rcases hlo with ⟨rfl, rfl⟩ | ⟨kl, nl, rfl, rfl⟩ <;> rcases hhi with ⟨rfl, rfl⟩ | ⟨kh, nh, rfl, rfl⟩ <;> rcases hmx with ⟨rfl, rfl⟩ | ⟨km, nm, rfl, rfl⟩ <;> simp only [mcut] at hc
  · exact ⟨_, _, _, fun w => by simp [Instr.sliceBounds]; done, hc⟩
  · obtain ⟨h1, h2, hK⟩ := hc
    exact ⟨_, _, _, fun w => by simp [Instr.sliceBounds, Q0w h1 h2]; done, hK⟩
  · obtain ⟨h1, h2, h3, h4, hK⟩ := hc
    have e : (nh.toNat : Int) = nh := Int.toNat_of_nonneg h3
    have h2' : nm ≤ (cap : Int) := h2
    have hm : nh ≤ ((nm.toNat : Nat) : Int) := by omega
    exact ⟨_, _, _, fun w => by simp [Instr.sliceBounds, Q0w h1 h2, Q0w h3 hm]; done, hK⟩
  · obtain ⟨h1, h2, hK⟩ := hc
    exact ⟨_, _, _, fun w => by simp [Instr.sliceBounds, Q0w h1 h2]; done, hK⟩
  · obtain ⟨h1, h2, h3, h4, hK⟩ := hc
    have hm : nl ≤ ((nh.toNat : Nat) : Int) := by omega
    exact ⟨_, _, _, fun w => by simp [Instr.sliceBounds, Q0w h1 h2, Q0w h3 hm]; done, hK⟩
  · obtain ⟨h1, h2, h3, h4, h5, h6, hK⟩ := hc
    have hm : nh ≤ ((nm.toNat : Nat) : Int) := by omega
    have hl : nl ≤ ((nh.toNat : Nat) : Int) := by omega
    exact ⟨_, _, _, fun w => by simp [Instr.sliceBounds, Q0w h1 h2, Q0w h3 hm, Q0w h5 hl]; done, hK⟩

theorem Q3R {t : TypeId} {x : Value} {lo hi mx : Option Value} {l h m : Option Int} {K : Value → Prop}
    (hlo : Bd lo l) (hhi : Bd hi h) (hmx : Bd mx m) (hs : mslice P t x l h m K) : ∃ v : Value, (∀ w, (Instr.sliceAt t x lo hi mx).run P w = .ok v w) ∧ K v := by
  unfold mslice at hs
  split at hs
  · rename_i e a n c hu
    split at hs
    · rename_i i hi'
      obtain ⟨x, y, z, hr, hK⟩ := Q0Q (P := P) (b := true) hlo hhi hmx hs
      exact ⟨_, fun w => by simp [Instr.sliceAt, Instr.slice, run_underlying' hu, hr w, run_sizeOf' hi'], hK⟩
    · exact hs.elim
  · rename_i s hu
    obtain ⟨x, y, z, hr, rfl, hK⟩ := Q0Q (P := P) (b := false) hlo hhi (m := none) (mx := none) (.inl ⟨rfl, rfl⟩) hs
    obtain rfl : mx = none := by rcases hmx with ⟨h, _⟩ | ⟨k, n, _, h⟩; exact h; cases h
    exact ⟨_, fun w => by simp [Instr.sliceAt, Instr.slice, run_underlying' hu, hr w], hK⟩
  · rename_i n e a hu
    split at hs
    · rename_i i hi'
      obtain ⟨x, y, z, hr, hK⟩ := Q0Q (P := P) (b := false) hlo hhi hmx hs
      exact ⟨_, fun w => by simp [Instr.sliceAt, Instr.sureAddr, run_underlying' hu, hr w, run_sizeOf' hi'], hK⟩
    · exact hs.elim
  · exact hs.elim

theorem Q46 {o : Oper} {w : World} {c : Call} {b : Builtin} {K : Value → Chi → Prop} (ho : o.op = .call c) (hc : c.callee = .builtin b)
    (h : mcallb P o.type w b c.argTypes (c.args.toList.map ρ) K) : Good P (execOp ρ o) w K := by
  obtain ⟨cs, hex⟩ : ∃ cs, execOp ρ o = builtin b c.argTypes o.type cs (c.args.map ρ) := by
    refine ⟨c.args.map fun | .const _ => true | _ => false, ?_⟩
    simp only [execOp, ho, resolve, hc, invoke, pure_bind]
    rfl
  have hargs : c.args.map ρ = (c.args.toList.map ρ).toArray := by apply Array.ext'; simp
  generalize c.args.toList.map ρ = args at h hargs
  unfold mcallb at h
  split at h
  · split at h
    · rename_i e hu
      obtain ⟨t, ht, hu⟩ := Option.bind_eq_some_iff.1 hu
      rw [hex, hargs]
      exact Good.pure_ (fun w' => by simp [builtin, Builtin.len_, ht, run_underlying' hu, goInt]) h
    · exact h.elim
  · split at h
    · rename_i hu
      obtain ⟨t, ht, hu⟩ := Option.bind_eq_some_iff.1 hu
      rw [hex, hargs]
      exact Good.pure_ (fun w' => by simp [builtin, Builtin.len_, ht, run_underlying' hu, goInt]) h
    · exact h.elim
  · split at h
    · rename_i e hu
      obtain ⟨t, ht, hu⟩ := Option.bind_eq_some_iff.1 hu
      rw [hex, hargs]
      exact Good.pure_ (fun w' => by simp [builtin, Builtin.cap_, ht, run_underlying' hu, goInt]) h
    · exact h.elim
  · rw [hex, hargs]
    exact Good.pure_ (fun w' => by simp [builtin, Builtin.max_, Builtin.max2]) h
  · rw [hex, hargs]
    exact Good.pure_ (fun w' => by simp [builtin, Builtin.min_, Builtin.min2]) h
  · obtain ⟨v, χ, h1, h2, h3⟩ := asV_ok h
    rw [hex, hargs]
    exact ⟨v, χ, h1, fun w' h => by simp [builtin, h2 w' h], h3⟩
  · exact h.elim

theorem Q1Y (fields : Array Field) (w : World) (h : fields.all (fun fl => (P.info? fl.type).isSome) = true) :
    ((fields.mapM fun f => Prod.mk f.offset <$> sizeOf f.type : Sem (Array (Nat × Nat)))).run P w = .ok (fields.map fun fl => (fl.offset, ((P.info? fl.type).map (·.size)).getD 0)) w := by
  have hl : ∀ (l : List Field), l.all (fun fl => (P.info? fl.type).isSome) = true →
      ((l.mapM fun f => Prod.mk f.offset <$> sizeOf f.type : Sem (List (Nat × Nat)))).run P w = .ok (l.map fun fl => (fl.offset, ((P.info? fl.type).map (·.size)).getD 0)) w := by
    intro l
    induction l with
    | nil => intro _; simp
    | cons f r ih =>
      intro h
      simp only [List.all_cons, Bool.and_eq_true] at h
      obtain ⟨i, hi⟩ := Option.isSome_iff_exists.1 h.1
      rw [List.mapM_cons]
      simp [run_sizeOf' hi, ih h.2, hi]
  rw [← Array.toArray_toList (xs := fields)] at h ⊢
  rw [List.mapM_toArray]
  simp only [List.all_toArray] at h
  simp only [Sem.run_map, hl _ h, Result.andThen_ok]
  congr 1
  apply Array.ext'
  simp

theorem Q3Y {t : TypeId} {parts : Array (Nat × Value)} {K : Value → Prop} (h : mbuild P t parts.toList K) :
    ∃ v : Value, (∀ w, (Instr.build t parts).run P w = .ok v w) ∧ K v := by
  unfold mbuild at h
  split at h
  · rename_i i fields hi hu
    split at h
    · rename_i z hz
      split at h
      · rename_i cells hf
        cases ha : fields.all (fun fl => (P.info? fl.type).isSome)
        · simp [ha] at h
        · simp only [ha, cond_true] at h
          have hf' : Instr.fill (fun j => (fields[j]?).map fun fl => (fl.offset, ((P.info? fl.type).map (·.size)).getD 0)) z.cells parts.toList = some cells := by
            rw [← hf]
            congr 1
            funext j
            cases hj : fields[j]? with
            | none => rfl
            | some fl =>
              have := Array.all_eq_true_iff_forall_mem.1 ha fl (Array.mem_of_getElem? hj)
              obtain ⟨u, hu'⟩ := Option.isSome_iff_exists.1 this
              simp [hu']
          exact ⟨_, fun w => by simp [Instr.build, zeroValue, run_typeInfo' hi, hz, run_underlying' hu, Q1Y fields w ha, hf'], h⟩
      · exact h.elim
    · exact h.elim
  · rename_i i n e hi hu
    split at h
    · rename_i z u hz hu'
      split at h
      · rename_i cells hf
        exact ⟨_, fun w => by simp [Instr.build, zeroValue, run_typeInfo' hi, hz, run_underlying' hu, run_sizeOf' hu', hf], h⟩
      · exact h.elim
    · exact h.elim
  · exact h.elim

theorem bd_of {x : Option Operand} {l : Option Int} (h : (x = none ∧ l = none) ∨ ∃ y k n, x = some y ∧ ρ y = .int k n ∧ l = some n) : Bd (x.map ρ) l := by
  rcases h with ⟨rfl, rfl⟩ | ⟨y, k, n, rfl, h, rfl⟩
  · exact .inl ⟨rfl, rfl⟩
  · exact .inr ⟨k, n, by simp [h], rfl⟩

theorem mrd_ok {o : Oper} {w : World} {K : Value → Chi → Prop} (h : mrd P ρ o w K) : Good P (execOp ρ o) w K := by
  unfold mrd at h
  split at h
  · rename_i x ho; exact Good.pure_ (fun w' => by simp [execOp, ho]) h
  · rename_i x ho; exact Good.pure_ (fun w' => by simp [execOp, ho]) h
  · rename_i c a b ho
    split at h
    · rename_i t ht
      refine Good.pure_ (v := bif t then ρ a else ρ b) (fun w' => ?_) h
      cases t <;> simp [execOp, ho, ht, asBool]
    · exact h.elim
  · rename_i x ho
    split at h
    · rename_i p hp
      cases p with
      | none => exact h.elim
      | some a => exact Good.pure_ (fun w' => by simp [execOp, ho, hp]) h
    · rename_i k first cap hp
      exact Good.pure_ (fun w' => by simp [execOp, ho, hp]) h
    · exact h.elim
  · rename_i op t x y ty ho
    split at h
    · rename_i z hx hy
      split at h
      · rename_i ms hu
        refine Good.pure_ (v := .bool false) (fun w' => ?_) h
        simp only [execOp, ho, hx, hy]
        simp [eqGuard, Q2F, Q19 hu]
      · exact h.elim
    · rename_i z hx hy
      split at h
      · rename_i ms hu
        refine Good.pure_ (v := .bool true) (fun w' => ?_) h
        simp only [execOp, ho, hx, hy]
        simp [eqGuard, Q2H, Q19 hu]
      · exact h.elim
    · exact mbin_ok ho h
  · rename_i op t x ho
    split at h
    · rename_i b hb; exact Good.pure_ (fun w' => by simp [execOp, ho, hb, Op.unary]) h
    · rename_i k n hb; exact Good.pure_ (fun w' => by simp [execOp, ho, hb, Op.unary, Op.intArith]) h
    · exact h.elim
  · rename_i x i ho
    split at h
    · rename_i vs hv
      split at h
      · rename_i v hvi; exact Good.pure_ (fun w' => by simp [execOp, ho, hv, Instr.extract, hvi]) h
      · exact h.elim
    · exact h.elim
  · rename_i s x i ho
    split at h
    · rename_i fs a hu hx
      split at h
      · rename_i fl hfl
        split at h
        · rename_i u hu'
          cases hz : Nat.beq u.size 0
          · simp only [hz, cond_false] at h
            have hne : u.size ≠ 0 := fun e => by simp [e] at hz
            exact Good.pure_ (fun w' => by simp [execOp, ho, hx, Instr.fieldAt, run_underlying' hu, hfl, Instr.sureAddr, fieldPlace, run_sizeOf' hu', hne]) h
          · simp [hz] at h
        · exact h.elim
      · exact h.elim
    · exact h.elim
  · rename_i s x i ho
    split at h
    · rename_i fs cs hu hx
      split at h
      · rename_i fl hfl
        obtain ⟨v, hv, hK⟩ := Q3y h
        exact Good.pure_ (fun w' => by simp [execOp, ho, hx, Instr.field, run_underlying' hu, hfl, asAgg, hv]) hK
      · exact h.elim
    · exact h.elim
  · rename_i t x i ho
    split at h
    · rename_i e p n c k j hu hx hi
      split at h
      · rename_i u hu'
        cases p with
        | none => exact h.elim
        | some a =>
          obtain ⟨h0, h1, h⟩ := h
          exact Good.pure_ (fun w' => by simp [execOp, ho, hx, hi, Instr.indexAt, run_underlying' hu, asIntOf, h0, h1, run_sizeOf' hu']) h
      · exact h.elim
    · rename_i n e a k j hu hx hi
      split at h
      · rename_i u hu'
        obtain ⟨h0, h1, h⟩ := h
        exact Good.pure_ (fun w' => by simp [execOp, ho, hx, hi, Instr.indexAt, run_underlying' hu, asIntOf, h0, h1, run_sizeOf' hu', Instr.sureAddr]) h
      · exact h.elim
    · exact h.elim
  · rename_i t x i ho
    split at h
    · rename_i s k j hu hx hi
      obtain ⟨h0, b, hb, h⟩ := h
      exact Good.pure_ (fun w' => by simp [execOp, ho, hx, hi, Instr.index, run_underlying' hu, asIntOf, h0, hb]) h
    · rename_i n e cs k j hu hx hi
      split at h
      · rename_i u hu'
        obtain ⟨h0, h1, h⟩ := h
        have h : mpart P e cs (j.toNat * u.size) (K · none) := by
          cases hf : isFns cs with
          | false => rw [hf] at h; exact h
          | true =>
            rw [hf] at h
            simp only [cond_true] at h
            cases hc : (Nat.beq u.size 1 && Nat.ble n cs.size) with
            | false => rw [hc] at h; exact h.elim
            | true =>
              rw [hc] at h
              simp only [cond_true] at h
              simp only [Bool.and_eq_true] at hc
              have hs := Nat.eq_of_beq_eq_true hc.1
              have hn := Nat.le_of_ble_eq_true hc.2
              unfold mpart
              rw [hu']
              simp only []
              cases ha : aggK P e with
              | none => rw [ha] at h; exact h
              | some b =>
                rw [ha] at h
                cases b with
                | true => exact h.elim
                | false =>
                  simp only [] at h ⊢
                  have hj : j.toNat < cs.size := by omega
                  have := Q2Z (l := cs.toList) (i := 0) (j := j.toNat) (by rw [Nat.zero_add, show Int.ofNat j.toNat = j by simp; omega]; exact h) (by simpa using hj)
                  rw [hs, Nat.mul_one, Array.getElem?_eq_getElem hj]
                  simpa using this
        obtain ⟨v, hv, hK⟩ := Q3y h
        exact Good.pure_ (fun w' => by simp [execOp, ho, hx, hi, Instr.index, run_underlying' hu, asIntOf, h0, h1, run_sizeOf' hu', hv]) hK
      · exact h.elim
    · exact h.elim
  · rename_i t x lo hi mx ho
    obtain ⟨l, h, hl⟩ := Q2a h
    obtain ⟨hh, h, hhi⟩ := Q2a h
    obtain ⟨m, h, hm⟩ := Q2a h
    obtain ⟨v, hv, hK⟩ := Q3R (bd_of hl) (bd_of hhi) (bd_of hm) h
    exact Good.pure_ (fun w' => by simp [execOp, ho, hv w']) hK
  · rename_i fn first cap ho
    exact Good.pure_ (fun w' => by simp [execOp, ho, Instr.makeFunc]) h
  · rename_i t x ho
    split at h
    · exact h.elim
    · rename_i d hd hu
      refine Good.pure_ (fun w' => ?_) h
      simp only [execOp, ho, Instr.makeInterface, Sem.run_bind, run_underlying' hu, Result.andThen_ok]
      cases d <;> first | rfl | exact absurd rfl (hd _)
    · exact h.elim
  · rename_i t parts ho
    have h' : mbuild P t ((parts.map fun (i, x) => (i, ρ x)).toList) (K · none) := by simpa using h
    obtain ⟨v, hv, hK⟩ := Q3Y h'
    exact Good.pure_ (fun w' => by simp only [execOp, ho, Sem.run_bind, hv w', Result.andThen_ok]; rfl) hK
  · rename_i s d x ho
    split at h
    · rename_i ds k j n hs hd hx
      exact Good.pure_ (fun w' => by
        simp only [execOp, ho, hx, convert, Sem.run_bind, run_underlying' hs, run_underlying' hd, Result.andThen_ok]
        rfl) h
    · rename_i ds b hs hd hx
      refine Good.pure_ (fun w' => ?_) h
      simp only [execOp, ho, hx, convert, Sem.run_bind, run_underlying' hs, run_underlying' hd, Result.andThen_ok]
      rfl
    · obtain ⟨v, χ, h1, h2, h3⟩ := asV_ok h
      exact ⟨v, χ, h1, fun w' h => by simp [execOp, ho, h2 w' h], h3⟩
  · rename_i t x ho
    split at h
    · rename_i a hx
      obtain ⟨v, χ, h1, h2, hK⟩ := Q1V h
      exact ⟨v, χ, h1, fun w' h => by simp [execOp, ho, hx, Instr.loadAt, Instr.sureAddr, h2 w' h], hK⟩
    · exact h.elim
  · rename_i c ho
    split at h
    · rename_i b hb; exact Q46 ho hb h
    · exact h.elim
  · rename_i t x i ok ho
    obtain ⟨v, χ, h1, h2, h3⟩ := asV_ok h
    exact ⟨v, χ, h1, fun w' h => by simp [execOp, ho, h2 w' h], h3⟩
  · rename_i x t d ok ho
    obtain ⟨v, χ, h1, h2, h3⟩ := asV_ok h
    exact ⟨v, χ, h1, fun w' h => by simp [execOp, ho, h2 w' h], h3⟩
  · exact h.elim
end
end Go.Mx
namespace Go.Mx

def enters (P : Program) (k : Nat) : Bool :=
  match P.funcs[k]? with
  | some fn => fn.body.isSome && !(fn.name == "runtime.NumGoroutine")
  | none => false

def Q2u (k : Nat) (args : Array Value) : Sem Value := do
  match (← callFunc k args) with
  | .value v => pure v
  | _ => stuck "a function with a body"
def callK (P : Program) (k : Nat) (args : List Value) (ty : TypeId) (w : World) (K : RW) : Prop :=
  bif enters P k then Calls P k args.toArray w (fun e w' => resEx P ty fun v => e = .returned v ∧ K v w') else resEx P ty fun v => ∃ w', (Q2u k args.toArray).run P w = .ok v w' ∧ K v w'

def Q06 (w : World) (a : Addr) : Prop := (∃ u, w.cell? a = some u) ∧ w.frozen? a = false
def storesK (a : Addr) : List Value → Nat → World → (World → Prop) → Prop
  | [], _, w, K => K w
  | v :: r, i, w, K => Q06 w (a.add i) ∧ bif v.oneCell' then storesK a r (i + 1) (w.setCell (a.add i) v) K else False

section
variable (P : Program) (ρ : Operand → Value)

def runV (ty : TypeId) (s : Sem Value) (w : World) (K : RW) : Prop :=
  resEx P ty fun v => ∃ w', s.run P w = .ok v w' ∧ K v w'
def runU (s : Sem Unit) (w : World) (K : RW) : Prop := ∃ w', s.run P w = .ok () w' ∧ K undef w'

def mslit (t : TypeId) (len : Nat) (parts : List (Nat × Value)) (w : World) (K : RW) : Prop :=
  match P.underlying t with
  | some (.slice e) =>
    match P.info? e with
    | some i =>
      match i.zero with
      | some z =>
        bif Nat.ble (len * i.size) (2 ^ 24) then
          (match Instr.fill (fun j => some (j * i.size, i.size)) (bif Nat.beq (len * i.size) 0 then #[] else (Array.range (len * i.size)).map (z.cells[· % z.cells.size]!)) parts with
          | some cells => K (.slice (some ⟨w.heap.size, 0, none⟩) len len) (w.alloc (.cells cells e))
          | none => False)
        else False
      | none => False
    | none => False
  | _ => False

def meff (o : Oper) (w : World) (K : RW) : Prop :=
  match o.op with
  | .alloc e =>
    match P.info? e with
    | some i => (match i.zero with | some z => K (.pointer (some ⟨w.heap.size, 0, none⟩)) (w.alloc (.cells z.cells e)) | none => False)
    | none => False
  | .box e x => K (.pointer (some ⟨w.heap.size, 0, none⟩)) (w.alloc (.cells (ρ x).cells e))
  | .buildSlice t len parts => mslit P t len (parts.toList.map fun p => (p.1, ρ p.2)) w K
  | .makeMap _ r => match r with | none => K (.map (some w.heap.size)) (w.alloc (.map #[] 0)) | some _ => False
  | .makeSlice t l c => runV P o.type (Instr.makeSlice t (ρ l) (ρ c)) w K
  | .store t a x =>
    match ρ a with
    | .pointer (some ad) => bif szB P t (ρ x).cells.size then storesK ad (ρ x).cells.toList 0 w (fun w' => K undef w') else False
    | _ => False
  | .convert s d x => runV P o.type (convert s d (ρ x)) w K
  | .mapUpdate t m k x => runU P (Instr.mapUpdate t (ρ m) (ρ k) (ρ x)) w K
  | .mapEntry t m k =>
    (match P.underlying t with
    | some (.map _ e) => (shOf P e).ex fun v => ∃ (n : Int) (w' : World), (Instr.mapEntry t (ρ m) (ρ k)).run P w = .ok (.tuple #[v, .int .i64 n]) w' ∧ K (.tuple #[v, .int .i64 n]) w'
    | _ => False)
  | .entryStore t m s x => runU P (Instr.entryStore t (ρ m) (ρ s) (ρ x)) w K
  | .range t x => runV P o.type (Instr.range t (ρ x)) w K
  | .next it isString => runV P o.type (Instr.next (ρ it) isString o.type) w K
  | .call c =>
    match c.callee with
    | .value f =>
      (match ρ f with
      | .func (.func k) first cap => callK P k (first.toList ++ c.args.toList.map ρ ++ cap.toList) o.type w K
      | _ => False)
    | .builtin .append => runV P o.type (Builtin.append_ c.argTypes o.type (c.args.toList.map ρ).toArray) w K
    | .builtin .copy => runV P o.type (Builtin.copy_ c.argTypes o.type (c.args.toList.map ρ).toArray) w K
    | .builtin .delete => runV P o.type (Builtin.delete_ c.argTypes o.type (c.args.toList.map ρ).toArray) w K
    | .builtin .clear => runV P o.type (Builtin.clear_ c.argTypes o.type (c.args.toList.map ρ).toArray) w K
    | _ => False
  | _ => False

def isRd (op : Op) : Bool :=
  match op with
  | .move _ | .assign _ | .pick .. | .nilCheck _ | .binOp .. | .unOp .. | .extract .. | .fieldAddr .. | .field .. | .indexAddr .. | .index .. | .slice ..
  | .makeFunc .. | .makeInterface .. | .build .. | .load .. | .lookup .. | .typeAssert .. => true
  | .convert s d _ => (match P.underlying s, P.underlying d with | some (.slice _), some (.slice _) => false | some .string, some (.slice _) => false | _, _ => true)
  | .call c => (match c.callee with | .builtin .len => true | .builtin .cap => true | .builtin .max => true | .builtin .min => true | _ => false)
  | _ => false

def mop (o : Oper) (w : World) (K : RW) : Prop :=
  bif isRd P o.op then mrd P ρ o w (fun v _ => K v w) else meff P ρ o w K
end

section
variable {P : Program} {ρ : Operand → Value}

def OpOk (P : Program) (s : Sem Next) (w : World) (K : RW) : Prop :=
  match s.run P w with
  | .ok (.value v) w' => K v w'
  | .ok .skip w' => K undef w'
  | .ok (.enter k args) w' => Calls P k args w' fun e w'' => ∃ v, e = .returned v ∧ K v w''
  | _ => False

theorem OpOk.mono {s : Sem Next} {w : World} {K K' : RW} (h : OpOk P s w K) (hk : ∀ v w', K v w' → K' v w') : OpOk P s w K' := by
  unfold OpOk at *
  split at h
  · exact hk _ _ h
  · exact hk _ _ h
  · exact h.mono fun e w'' ⟨v, he, h⟩ => ⟨v, he, hk _ _ h⟩
  · exact h.elim

theorem OpOk.of_good {s : Sem Next} {w : World} {K : RW} (h : Good P s w (fun v _ => K v w)) : OpOk P s w K := by
  obtain ⟨v, χ, h1, h2, h3⟩ := h
  unfold OpOk
  rw [h2 w h1]
  exact h3
theorem OpOk.of_run {s : Sem Value} {w w' : World} {v : Value} {K : RW} (h : s.run P w = .ok v w') (hK : K v w') : OpOk P (do pure (Next.value (← s))) w K := by
  unfold OpOk
  simp [h, hK]
theorem OpOk.of_runU {s : Sem Unit} {w w' : World} {K : RW} (h : s.run P w = .ok () w') (hK : K undef w') : OpOk P (do s; pure Next.skip) w K := by
  unfold OpOk
  simp [h, hK]
theorem OpOk.of_runV {ty : TypeId} {s : Sem Value} {w : World} {K : RW} (h : runV P ty s w K) : OpOk P (do pure (Next.value (← s))) w K := by
  obtain ⟨v, w', h1, h2⟩ := Q1B h
  exact .of_run h1 h2

theorem Q2q {a : Addr} : ∀ {vs : List Value} {i : Nat} {w : World} {K : World → Prop}, storesK a vs i w K → ∃ w', (storeCells a vs i).run P w = .ok () w' ∧ K w'
  | [], i, w, K, h => ⟨w, by simp [storeCells], h⟩
  | v :: r, i, w, K, h => by
    obtain ⟨⟨⟨u, hu⟩, hf⟩, h⟩ := h
    cases hv : v.oneCell'
    · simp [hv] at h
    · simp only [hv, cond_true] at h
      obtain ⟨w', h1, h2⟩ := Q2q h
      exact ⟨w', by simp [storeCells, run_store _ _ _ _ _ hv, hu, hf, h1], h2⟩

theorem Q3h {k : Nat} {args : Array Value} (h : enters P k = true) (w : World) : (callFunc k args).run P w = .ok (.enter k args) w := by
  unfold enters at h
  split at h
  · rename_i fn hfn
    simp only [Bool.and_eq_true, Bool.not_eq_true'] at h
    obtain ⟨h1, h2⟩ := h
    obtain ⟨b, hb⟩ := Option.isSome_iff_exists.1 h1
    simp only [callFunc, Sem.run_bind, run_program, Result.andThen_ok, hfn, h2, hb]
    simp
  · cases h

theorem Q4i {t : TypeId} {len : Nat} {parts : Array (Nat × Value)} {w : World} {K : RW} (h : mslit P t len parts.toList w K) :
    ∃ v w', (Instr.buildSlice t len parts).run P w = .ok v w' ∧ K v w' := by
  unfold mslit at h
  split at h
  · rename_i e hu
    split at h
    · rename_i i hi
      split at h
      · rename_i z hz
        cases hb : Nat.ble (len * i.size) (2 ^ 24)
        · simp [hb] at h
        · simp only [hb, cond_true] at h
          have hle : ¬ (len * i.size > 2 ^ 24) := by have := Nat.le_of_ble_eq_true hb; omega
          split at h
          · rename_i cells hf
            refine ⟨_, _, ?_, h⟩
            by_cases h0 : len * i.size = 0
            · simp only [h0, Nat.beq_refl, cond_true] at hf
              have hr : ∀ f : Nat → Value, Array.map f (Array.range 0) = #[] := fun f => by apply Array.ext'; simp
              simp [Instr.buildSlice, run_underlying' hu, run_sizeOf' hi, h0, hr, hf, newRow]
            · have hb0 : Nat.beq (len * i.size) 0 = false := by
                cases hb : Nat.beq (len * i.size) 0
                · rfl
                · exact absurd (Q0B hb) h0
              simp only [hb0, cond_false] at hf
              simp [Instr.buildSlice, run_underlying' hu, run_sizeOf' hi, h0, hle, zeroValue, run_typeInfo' hi, hz, hf, newRow]
          · exact h.elim
      · exact h.elim
    · exact h.elim
  · exact h.elim

theorem meff_ok {o : Oper} {w : World} {K : RW} (h : meff P ρ o w K) : OpOk P (execOp ρ o) w K := by
  unfold meff at h
  split at h
  · rename_i e ho
    split at h
    · rename_i i hi
      split at h
      · rename_i z hz
        simp only [execOp, ho]
        exact .of_run (by simp [Instr.alloc, zeroValue, run_typeInfo' hi, hz, newVar, newRow]) h
      · exact h.elim
    · exact h.elim
  · rename_i e x ho
    simp only [execOp, ho]
    exact .of_run (by simp [Instr.box, newVar, newRow]) h
  · rename_i t len parts ho
    have h' : mslit P t len ((parts.map fun (i, x) => (i, ρ x)).toList) w K := by simpa using h
    obtain ⟨v, w', h1, h2⟩ := Q4i h'
    simp only [execOp, ho]
    exact .of_run h1 h2
  · rename_i t r ho
    split at h
    · simp only [execOp, ho]
      exact .of_run (by simp [Instr.makeMap]) h
    · exact h.elim
  · rename_i t l c ho
    simp only [execOp, ho]
    exact .of_runV h
  · rename_i t a x ho
    split at h
    · rename_i ad ha
      cases hs : szB P t (ρ x).cells.size
      · simp [hs] at h
      · simp only [hs, cond_true] at h
        obtain ⟨i, hi, hz⟩ := Q2G hs
        obtain ⟨w', h1, h2⟩ := Q2q (P := P) h
        simp only [execOp, ho]
        refine .of_runU (w' := w') ?_ h2
        simp [Instr.storeAt, ha, Instr.sureAddr, storeVar, run_sizeOf' hi, hz, h1]
    · exact h.elim
  · rename_i s d x ho
    simp only [execOp, ho]
    exact .of_runV h
  · rename_i t m k x ho
    obtain ⟨w', h1, h2⟩ := h
    simp only [execOp, ho]
    exact .of_runU h1 h2
  · rename_i t m k ho
    split at h
    · obtain ⟨v, n, w', h1, h2⟩ := Sh.ex_out h
      simp only [execOp, ho]
      exact .of_run h1 h2
    · exact h.elim
  · rename_i t m k x ho
    obtain ⟨w', h1, h2⟩ := h
    simp only [execOp, ho]
    exact .of_runU h1 h2
  · rename_i t x ho
    simp only [execOp, ho]
    exact .of_runV h
  · rename_i it b ho
    simp only [execOp, ho]
    exact .of_runV h
  · rename_i c ho
    have hargs : c.args.map ρ = (c.args.toList.map ρ).toArray := by apply Array.ext'; simp
    split at h
    · rename_i f hf
      split at h
      · rename_i k first cap hk
        unfold callK at h
        cases he : enters P k
        · simp only [he, cond_false] at h
          obtain ⟨v, w', h1, h2⟩ := Q1B h
          have hr : execOp ρ o = callFunc k (first.toList ++ c.args.toList.map ρ ++ cap.toList).toArray := by
            simp only [execOp, ho, resolve, hf, hk, Deferred.ofValue, pure_bind, invoke]
            congr 1
            apply Array.ext'
            simp
          rw [hr]
          unfold OpOk
          unfold Q2u at h1
          simp only [Sem.run_bind] at h1
          generalize (callFunc k (first.toList ++ c.args.toList.map ρ ++ cap.toList).toArray).run P w = q at *
          cases q with
          | ok n w1 =>
            simp only [Result.andThen_ok] at h1
            cases n <;> simp only [Sem.run_pure, Result.ok.injEq] at h1
            case value u =>
              obtain ⟨rfl, rfl⟩ := h1
              exact h2
            all_goals (first | (cases h1; done) | (simp [stuck] at h1; done))
          | halt x w1 => simp [Result.andThen] at h1
        · simp only [he, cond_true] at h
          unfold OpOk
          have hr : (execOp ρ o).run P w = .ok (.enter k (first.toList ++ c.args.toList.map ρ ++ cap.toList).toArray) w := by
            simp only [execOp, ho, resolve, hf, hk, Deferred.ofValue, pure_bind, invoke, Sem.run_bind, Sem.run_pure, Result.andThen_ok, Q3h he]
            congr 2
            apply Array.ext'
            simp
          rw [hr]
          refine h.mono fun e w'' hh => ?_
          obtain ⟨v, h1, h2⟩ := Q1B hh
          exact ⟨v, h1, h2⟩
      · exact h.elim
    · rename_i hf
      simp only [execOp, ho, resolve, hf, pure_bind, invoke, builtin, hargs]
      exact .of_runV h
    · rename_i hf
      simp only [execOp, ho, resolve, hf, pure_bind, invoke, builtin, hargs]
      exact .of_runV h
    · rename_i hf
      simp only [execOp, ho, resolve, hf, pure_bind, invoke, builtin, hargs]
      exact .of_runV h
    · rename_i hf
      simp only [execOp, ho, resolve, hf, pure_bind, invoke, builtin, hargs]
      exact .of_runV h
    · exact h.elim
  · exact h.elim

theorem mop_ok {o : Oper} {w : World} {K : RW} (h : mop P ρ o w K) : OpOk P (execOp ρ o) w K := by
  unfold mop at h
  cases hr : isRd P o.op
  · simp only [hr, cond_false] at h; exact meff_ok h
  · simp only [hr, cond_true] at h; exact .of_good (mrd_ok h)

theorem OpOk.wp {o : Oper} {a : Act} {w : World} {K : Act → World → Prop} {Q : Exit → Act → World → Prop} {K' : RW}
    (h : OpOk P (execOp a.eval o) w K') (hk : ∀ v w', K' v w' → K (a.put o.dst v) w') : o.wp P a w K Q := by
  unfold Oper.wp
  unfold OpOk at h
  generalize (execOp a.eval o).run P w = r at *
  cases r with
  | ok n w' =>
    cases n <;> simp only at h <;> simp only [Oper.upon]
    case value v => exact hk _ _ h
    case skip => exact hk _ _ h
    case enter f args => exact h.mono fun e w'' ⟨v, he, hv⟩ => by subst he; exact hk _ _ hv
    all_goals exact h.elim
  | halt x w' => exact h.elim
end
end Go.Mx
set_option linter.unnecessarySimpa false
namespace Go.Mx

def opnds : Op → List Operand
  | .alloc _ | .ready _ | .waits _ => []
  | .move x | .assign x | .box _ x | .load _ x | .nilCheck x | .unOp _ _ x | .convert _ _ x | .sliceToArrayPointer _ x | .makeInterface _ x
  | .makeChan _ x | .fieldAddr _ x _ | .field _ x _ | .range _ x | .next x _ | .entry x | .typeAssert x _ _ _ | .extract x _ | .panic x | .recv _ x _ => [x]
  | .pick c a b => [c, a, b]
  | .build _ ps | .buildSlice _ _ ps => ps.toList.map (·.2)
  | .store _ a v | .binOp _ _ a v _ | .makeSlice _ a v | .indexAddr _ a v | .index _ a v | .lookup _ a v _ | .mapEntry _ a v | .send a v => [a, v]
  | .makeFunc _ first captured => first.toList ++ captured.toList
  | .makeMap _ r => r.toList
  | .slice _ x l h m => x :: (l.toList ++ h.toList ++ m.toList)
  | .mapUpdate _ m k v | .entryStore _ m k v | .insert _ m k v => [m, k, v]
  | .call c | .go c | .defer c => (match c.callee with | .value f => [f] | .invoke r _ => [r] | .builtin _ => []) ++ c.args.toList
  | .select cs _ => []

theorem Q30 {op : Op} (hs : ∀ cs b, op ≠ .select cs b) {x : Operand} (h : x ∈ op.operands) : x ∈ opnds op := by
  cases op <;> simp only [Op.operands] at h <;> simp only [opnds]
  case select cs b => exact absurd rfl (hs cs b)
  case call c => simp only [Call.operands] at h; cases hc : c.callee <;> simp [hc] at h ⊢ <;> exact h
  case go c => simp only [Call.operands] at h; cases hc : c.callee <;> simp [hc] at h ⊢ <;> exact h
  case defer c => simp only [Call.operands] at h; cases hc : c.callee <;> simp [hc] at h ⊢ <;> exact h
  all_goals (first | (simpa using h) | (simp at h ⊢; done) | (simp [or_assoc] at h ⊢; exact h))

def isSel : Op → Bool | .select .. => true | _ => false
theorem Q17 {op : Op} (h : isSel op = false) : ∀ cs b, op ≠ .select cs b := fun cs b e => by subst e; simp [isSel] at h

def mopF (P : Program) (f : Fs) (o : Oper) (w : World) (K : RW) : Prop :=
  bif known f (opnds o.op) then mop P (rho f) o w K else False
def mrdF (P : Program) (f : Fs) (o : Oper) (w : World) (K : Value → Chi → Prop) : Prop :=
  bif known f (opnds o.op) then mrd P (rho f) o w K else False
def meffF (P : Program) (f : Fs) (o : Oper) (w : World) (K : RW) : Prop :=
  bif known f (opnds o.op) then meff P (rho f) o w K else False

theorem Q2A {D : List Deferred} {n : Nat} {f : Fs} {a : Act} (h : Fr D n f a) {o : Oper} (hk : known f (opnds o.op) = true) (hs : isSel o.op = false) :
    execOp a.eval o = execOp (rho f) o :=
  execOp_congr o (Q17 hs) fun x hx => h.eval (Q4b hk x (Q30 (Q17 hs) hx))

theorem Q2y {P : Program} {ρ : Operand → Value} {o : Oper} {w : World} {K : Value → Chi → Prop} (h : mrd P ρ o w K) : isSel o.op = false := by
  cases ho : o.op <;> simp only [mrd, ho] at h <;> first | exact h.elim | rfl
theorem Q24 {P : Program} {ρ : Operand → Value} {o : Oper} {w : World} {K : RW} (h : meff P ρ o w K) : isSel o.op = false := by
  cases ho : o.op <;> simp only [meff, ho] at h <;> first | exact h.elim | rfl
theorem Q3P {P : Program} {ρ : Operand → Value} {o : Oper} {w : World} {K : RW} (h : mop P ρ o w K) : isSel o.op = false := by
  unfold mop at h
  cases hr : isRd P o.op
  · simp only [hr, cond_false] at h; exact Q24 h
  · simp only [hr, cond_true] at h; exact Q2y h

theorem mopF_ok {D : List Deferred} {P : Program} {n : Nat} {f : Fs} {a : Act} {o : Oper} {w : World} {K : RW} (hf : Fr D n f a) (h : mopF P f o w K) :
    OpOk P (execOp a.eval o) w K := by
  unfold mopF at h
  cases hk : known f (opnds o.op)
  · simp [hk] at h
  · simp only [hk, cond_true] at h
    rw [Q2A hf hk (Q3P h)]
    exact mop_ok h
theorem Q4g {D : List Deferred} {P : Program} {n : Nat} {f : Fs} {a : Act} {o : Oper} {w : World} {K : RW} (hf : Fr D n f a) (h : meffF P f o w K) :
    OpOk P (execOp a.eval o) w K := by
  unfold meffF at h
  cases hk : known f (opnds o.op)
  · simp [hk] at h
  · simp only [hk, cond_true] at h
    rw [Q2A hf hk (Q24 h)]
    exact meff_ok h
theorem mrdF_ok {D : List Deferred} {P : Program} {n : Nat} {f : Fs} {a : Act} {o : Oper} {w : World} {K : Value → Chi → Prop} (hf : Fr D n f a) (h : mrdF P f o w K) :
    Good P (execOp a.eval o) w K := by
  unfold mrdF at h
  cases hk : known f (opnds o.op)
  · simp [hk] at h
  · simp only [hk, cond_true] at h
    rw [Q2A hf hk (Q2y h)]
    exact mrd_ok h

/-! ### guards -/
abbrev Dg := List (Nat × Bool)
def dget : Dg → Nat → Option Bool
  | [], _ => none
  | p :: r, t => bif Nat.beq p.1 t then some p.2 else dget r t
def ddrop (d : Nat) : Dg → Dg
  | [] => []
  | p :: r => bif Nat.beq p.1 d then ddrop d r else p :: ddrop d r
def DgOk (dg : Dg) (f : Fs) : Prop := ∀ s b, dget dg s = some b → get f s = some (.bool b)
theorem Q1F {d s : Nat} {b : Bool} : ∀ {dg : Dg}, dget (ddrop d dg) s = some b → dget dg s = some b ∧ d ≠ s
  | [], h => by simp [ddrop, dget] at h
  | p :: r, h => by
    simp only [ddrop] at h
    cases hp : Nat.beq p.1 d
    · simp only [hp, cond_false, dget] at h
      simp only [dget]
      cases hs : Nat.beq p.1 s
      · simp only [hs, cond_false] at h ⊢; exact Q1F h
      · simp only [hs, cond_true] at h ⊢
        refine ⟨h, fun e => ?_⟩
        subst e; rw [hp] at hs; cases hs
    · simp only [hp, cond_true] at h
      have h' := Q1F h
      simp only [dget]
      have e := Q0B hp
      cases hs : Nat.beq p.1 s
      · simp only [cond_false]; exact h'
      · have := Q0B hs
        exact absurd (e.symm.trans this) h'.2
theorem DgOk.put {dg : Dg} {f : Fs} (h : DgOk dg f) (d : Nat) (v : Value) : DgOk (ddrop d dg) ((d, v) :: f) := by
  intro s b hs
  obtain ⟨h1, h2⟩ := Q1F hs
  simp only [get]
  cases hb : Nat.beq d s
  · simp only [cond_false]; exact h s b h1
  · exact absurd (Q0B hb) h2

def gsplit (lo f : Fs) (dg : Dg) (s : Nat) (Φ : Bool → Dg → Fs → Prop) : Prop :=
  match dget dg s with
  | some b => Φ b dg f
  | none =>
    match get (f ++ lo) s with
    | some (.bool b) => bif b then Φ true ((s, true) :: dg) ((s, .bool true) :: f) else Φ false ((s, false) :: dg) ((s, .bool false) :: f)
    | _ => False
def Q1P : Option Value → Bool
  | some (.tuple ⟨[]⟩) => true
  | _ => false
def gask (ops : List Oper) (lo f : Fs) (dg : Dg) (o : Oper) (Φ : Bool → Dg → Fs → Prop) : Prop :=
  match o.guard with
  | none => Φ true dg f
  | some (j, want) =>
    match (ops[j]?).bind (·.dst) with
    | some s => bif Q1P (get (f ++ lo) s) then Φ false dg f else gsplit lo f dg s fun b dg' f' => Φ (bif b then want else !want) dg' f'
    | none => False

theorem gask_ok {D : List Deferred} {P : Program} {n : Nat} {ops : List Oper} {lo f : Fs} {dg : Dg} {o : Oper} {Φ : Bool → Dg → Fs → Prop} {a : Act}
    (h : gask ops lo f dg o Φ) (hf : Fr D n (f ++ lo) a) (hd : DgOk dg (f ++ lo)) :
    ∃ b dg' f', Region.wanted o (yielded ops.toArray a.tmps) = b ∧ Φ b dg' f' ∧ Fr D n (f' ++ lo) a ∧ DgOk dg' (f' ++ lo) := by
  unfold gask at h
  cases hg : o.guard with
  | none =>
    simp only [hg] at h
    exact ⟨true, dg, f, by simp [Region.wanted, hg], h, hf, hd⟩
  | some p =>
    obtain ⟨j, want⟩ := p
    simp only [hg] at h
    cases hs : (ops[j]?).bind (·.dst) with
    | none => simp only [hs] at h
    | some s =>
      simp only [hs] at h
      have hy : ∀ b, get (f ++ lo) s = some (.bool b) → yielded ops.toArray a.tmps j = some b := fun b hb => by
        have := hf.at_ s _ hb
        simp [yielded, hs, this]
      have hw : ∀ b, get (f ++ lo) s = some (.bool b) → Region.wanted o (yielded ops.toArray a.tmps) = (bif b then want else !want) := fun b hb => by
        simp only [Region.wanted, hg, hy b hb]
        cases b <;> cases want <;> rfl
      by_cases hun : Q1P (get (f ++ lo) s) = true
      · simp only [hun, cond_true] at h
        have hv : get (f ++ lo) s = some undef := by
          cases hg : get (f ++ lo) s with
          | none => rw [hg] at hun; cases hun
          | some v =>
            rw [hg] at hun
            unfold Q1P at hun
            split at hun
            · rename_i heq; rw [heq]; rfl
            · cases hun
        refine ⟨false, dg, f, ?_, h, hf, hd⟩
        have := hf.at_ s _ hv
        simp [Region.wanted, hg, yielded, hs, this, undef]
      have hun' : Q1P (get (f ++ lo) s) = false := by simpa using hun
      simp only [hun', cond_false] at h
      unfold gsplit at h
      cases hdg : dget dg s with
      | some b =>
        simp only [hdg] at h
        exact ⟨_, dg, f, hw b (hd s b hdg), h, hf, hd⟩
      | none =>
        simp only [hdg] at h
        split at h
        · rename_i b hb
          have hput : ∀ c : Bool, get (f ++ lo) s = some (.bool c) → Fr D n (((s, .bool c) :: f) ++ lo) a ∧ DgOk ((s, c) :: dg) (((s, .bool c) :: f) ++ lo) := fun c hc => by
            refine ⟨⟨hf.size, hf.defers, fun t u ht => ?_⟩, fun t u ht => ?_⟩
            · simp only [List.cons_append, get] at ht
              cases hb' : Nat.beq s t
              · simp only [hb', cond_false] at ht; exact hf.at_ t u ht
              · simp only [hb', cond_true, Option.some.injEq] at ht
                have e := Q0B hb'
                subst e; subst ht
                exact hf.at_ _ _ hc
            · simp only [List.cons_append, get]
              simp only [dget] at ht
              cases hb' : Nat.beq s t
              · simp only [hb', cond_false] at ht ⊢; exact hd t u ht
              · simp only [hb', cond_true, Option.some.injEq] at ht ⊢; subst ht; rfl
          cases b
          · simp only [cond_false] at h
            exact ⟨_, _, _, hw false hb, h, hput false hb⟩
          · simp only [cond_true] at h
            exact ⟨_, _, _, hw true hb, h, hput true hb⟩
        · exact h.elim

def putK (N : Nat) (d : Option Nat) (v : Value) (dg : Dg) (f : Fs) (Φ : Dg → Fs → Prop) : Prop :=
  match d with
  | none => Φ dg f
  | some d => bif Nat.blt d N then Φ (ddrop d dg) ((d, v) :: f) else False
theorem putK_ok {D : List Deferred} {N : Nat} {d : Option Nat} {v : Value} {dg : Dg} {lo f : Fs} {Φ : Dg → Fs → Prop} {a : Act} (h : putK N d v dg f Φ) (hf : Fr D N (f ++ lo) a) (hd : DgOk dg (f ++ lo)) :
    ∃ dg' f', Φ dg' f' ∧ Fr D N (f' ++ lo) (a.put d v) ∧ DgOk dg' (f' ++ lo) := by
  cases d with
  | none => exact ⟨dg, f, h, hf, hd⟩
  | some d =>
    simp only [putK] at h
    cases hb : Nat.blt d N
    · simp [hb] at h
    · simp only [hb, cond_true] at h
      exact ⟨_, _, h, hf.put hb v, hd.put d v⟩

def mops (P : Program) (N : Nat) (ops : List Oper) (lo : Fs) : List Oper → Dg → Fs → World → (Fs → World → Prop) → Prop
  | [], _, f, w, K => K f w
  | o :: rest, dg, f, w, K =>
    gask ops lo f dg o fun b dg f =>
      bif b then mopF P (f ++ lo) o w fun v w' => putK N o.dst v dg f fun dg f => mops P N ops lo rest dg f w' K
      else putK N o.dst undef dg f fun dg f => mops P N ops lo rest dg f w K

theorem mops_ok {D : List Deferred} {P : Program} {N : Nat} {ops : List Oper} {lo : Fs} {Q : Exit → Act → World → Prop} {K : Fs → World → Prop}
    (hQ : ∀ f w a, K f w → Fr D N (f ++ lo) a → Q .normal a w) :
    ∀ (l : List Oper) (dg : Dg) (f : Fs) (w : World) (a : Act), mops P N ops lo l dg f w K → Fr D N (f ++ lo) a → DgOk dg (f ++ lo) → wpList P ops.toArray Q l a w
  | [], dg, f, w, a, h, hf, hd => hQ f w a h hf
  | o :: rest, dg, f, w, a, h, hf, hd => by
    simp only [mops] at h
    obtain ⟨b, dg1, f1, hb, h, hf1, hd1⟩ := gask_ok (P := P) h hf hd
    unfold wpList
    cases b
    · rw [hb]
      simp only [cond_false] at h
      obtain ⟨dg2, f2, h, hf2, hd2⟩ := putK_ok h hf1 hd1
      exact mops_ok hQ rest dg2 f2 w _ h hf2 hd2
    · rw [hb]
      simp only [cond_true] at h
      refine .inl ((mopF_ok hf1 h).wp fun v w' h => ?_)
      obtain ⟨dg2, f2, h, hf2, hd2⟩ := putK_ok h hf1 hd1
      exact mops_ok hQ rest dg2 f2 w' _ h hf2 hd2

end Go.Mx
namespace Go.Mx

def memN : List Nat → Nat → Bool
  | [], _ => false
  | p :: r, t => bif Nat.beq p t then true else memN r t
theorem Q3w {l : List Nat} {t : Nat} : memN l t = true ↔ t ∈ l := by
  induction l with
  | nil => simp [memN]
  | cons p r ih =>
    simp only [memN]
    cases hb : Nat.beq p t
    · have : p ≠ t := fun e => by subst e; simp at hb
      simp [ih, Ne.symm this]
    · simp [Q0B hb]
def depsIn (ops : List Oper) (S : List Nat) (j : Nat) : Bool :=
  match ops[j]? with
  | some o => o.after.toList.all fun e => bif Region.binds .any e then memN S e.on else true
  | none => false
def readyL (ops : List Oper) (S : List Nat) : List Nat :=
  (List.range ops.length).filter fun i => bif memN S i then false else depsIn ops S i

abbrev Ent := List Nat × (World → Prop)
def updR (ops : List Oper) (i : Nat) : List Ent → List Ent
  | [] => []
  | e :: r => (bif depsIn ops e.1 i then (i :: e.1, e.2) else e) :: updR ops i r
def updE (ops : List Oper) (i : Nat) : List Ent → List Ent
  | [] => []
  | e :: r => bif depsIn ops e.1 i then (i :: e.1, e.2) :: updE ops i r else updE ops i r
def obl : List Ent → World → Prop
  | [], _ => True
  | e :: r, w => e.2 w ∧ obl r w
def oblK : List Ent → World → Prop → Prop
  | [], _, X => X
  | e :: r, w, X => e.2 w ∧ oblK r w X
theorem Q4p {L : List Ent} {w : World} {X : Prop} (h : oblK L w X) : obl L w ∧ X := by
  induction L with
  | nil => exact ⟨trivial, h⟩
  | cons e r ih => exact ⟨⟨h.1, (ih h.2).1⟩, (ih h.2).2⟩
def addE (S : List Nat) (χ : Chi) (L : List Ent) : List Ent := match χ with | none => L | some c => (S, c) :: L

/-! ### the tree of all orders, with what must stay -/
section
variable (P : Program) (ops : Array Oper) (Q : Exit → Act → World → Prop) (κ : Nat → Bool)

def upd (i : Nat) (L : List Ent) : List Ent := bif κ i then updE ops.toList i L else updR ops.toList i L

def wpL : Nat → Array Bool → List Ent → Act → World → Prop
  | 0, listed, _, a, w => Region.ready .any ops listed = [] ∧ Q .normal a w
  | fuel + 1, listed, L, a, w =>
    (Region.ready .any ops listed = [] → Q .normal a w) ∧
    ∀ i ∈ Region.ready .any ops listed, wpOp P ops Q i (fun a' w' => obl (upd ops κ i L) w' ∧ wpL fuel (listed.setIfInBounds i true) (upd ops κ i L) a' w') a w
end

section
variable {P : Program} {ops : Array Oper} {Q : Exit → Act → World → Prop} {κ : Nat → Bool}

theorem Q2l : ∀ (fuel : Nat) (listed : Array Bool) (L : List Ent) (a : Act) (w : World), wpL P ops Q κ fuel listed L a w → wpAny P .any ops Q fuel listed a w
  | 0, _, _, _, _, h => h
  | fuel + 1, _, L, _, _, h => ⟨h.1, fun i hi => wpOp_mono (fun a' w' h' => Q2l fuel _ _ a' w' h'.2) (h.2 i hi)⟩

inductive Sub : List Ent → List Ent → Prop where
  | nil : Sub [] []
  | keep (e : Ent) {l m : List Ent} : Sub l m → Sub (e :: l) (e :: m)
  | drop (e : Ent) {l m : List Ent} : Sub l m → Sub l (e :: m)
theorem Sub.refl : ∀ l : List Ent, Sub l l
  | [] => .nil
  | e :: r => .keep e (Sub.refl r)
theorem Sub.obl {l m : List Ent} (h : Sub l m) {w : World} (hm : obl m w) : Mx.obl l w := by
  induction h with
  | nil => trivial
  | keep e _ ih => exact ⟨hm.1, ih hm.2⟩
  | drop e _ ih => exact ih hm.2
theorem Sub.updR {l m : List Ent} (h : Sub l m) (o : List Oper) (i : Nat) : Sub (updR o i l) (updR o i m) := by
  induction h with
  | nil => exact .nil
  | keep e _ ih => exact .keep _ ih
  | drop e _ ih => exact .drop _ ih
theorem Sub.updE {l m : List Ent} (h : Sub l m) (o : List Oper) (i : Nat) : Sub (updE o i l) (updE o i m) := by
  induction h with
  | nil => exact .nil
  | keep e _ ih =>
    simp only [Mx.updE]
    cases depsIn o e.1 i
    · exact ih
    · exact .keep _ ih
  | drop e _ ih =>
    simp only [Mx.updE]
    cases depsIn o e.1 i
    · exact ih
    · exact .drop _ ih
theorem Sub.upd {l m : List Ent} (h : Sub l m) (i : Nat) : Sub (upd ops κ i l) (upd ops κ i m) := by
  unfold Mx.upd
  cases κ i
  · exact h.updR _ _
  · exact h.updE _ _
theorem wpL_sub : ∀ (fuel : Nat) (listed : Array Bool) (l m : List Ent) (a : Act) (w : World), Sub l m → wpL P ops Q κ fuel listed m a w → wpL P ops Q κ fuel listed l a w
  | 0, _, _, _, _, _, _, h => h
  | fuel + 1, _, l, m, _, _, hs, h => ⟨h.1, fun i hi => wpOp_mono (fun a' w' h' => ⟨(hs.upd i).obl h'.1, wpL_sub fuel _ _ _ a' w' (hs.upd i) h'.2⟩) (h.2 i hi)⟩

theorem Q1S {o : List Oper} {i : Nat} {L : List Ent} {w : World} (h : obl L w) : obl (updR o i L) w := by
  induction L with
  | nil => trivial
  | cons e r ih =>
    refine ⟨?_, ih h.2⟩
    cases depsIn o e.1 i <;> exact h.1
theorem Q2C {o : List Oper} {i : Nat} {L : List Ent} {w : World} (h : obl L w) : obl (updE o i L) w := by
  induction L with
  | nil => trivial
  | cons e r ih =>
    simp only [updE]
    cases depsIn o e.1 i
    · exact ih h.2
    · exact ⟨h.1, ih h.2⟩
theorem obl_upd {i : Nat} {L : List Ent} {w : World} (h : obl L w) : obl (upd ops κ i L) w := by
  unfold upd
  cases κ i
  · exact Q1S h
  · exact Q2C h

def free1 (o : List Oper) (i j : Nat) : Prop := ∀ oj, o[j]? = some oj → ∀ e ∈ oj.after, Region.binds .any e = true → e.on ≠ i
theorem Q16 {o : List Oper} {i j : Nat} (h : free1 o i j) (S : List Nat) : depsIn o (i :: S) j = depsIn o S j := by
  unfold depsIn
  cases ho : o[j]? with
  | none => rfl
  | some oj =>
    simp only
    rw [Bool.eq_iff_iff, List.all_eq_true, List.all_eq_true]
    refine forall_congr' fun e => forall_congr' fun he => ?_
    cases hb : Region.binds .any e
    · simp
    · have hne := h oj ho e (by simpa using he) hb
      simp only [cond_true, memN]
      have : Nat.beq i e.on = false := by
        cases hq : Nat.beq i e.on
        · rfl
        · exact absurd (Q0B hq).symm hne
      simp [this]

theorem Q1M {o : List Oper} {S T : List Nat} (h : ∀ t, memN S t = memN T t) (j : Nat) : depsIn o S j = depsIn o T j := by
  unfold depsIn
  cases o[j]? with
  | none => rfl
  | some oj => simp only [h]

inductive Same : List Ent → List Ent → Prop where
  | nil : Same [] []
  | cons {S T : List Nat} (χ : World → Prop) (h : ∀ t, memN S t = memN T t) {l m : List Ent} : Same l m → Same ((S, χ) :: l) ((T, χ) :: m)
theorem Same.refl : ∀ l : List Ent, Same l l
  | [] => .nil
  | (S, χ) :: r => .cons χ (fun _ => rfl) (Same.refl r)
theorem Same.obl {l m : List Ent} (h : Same l m) {w : World} (hm : obl m w) : Mx.obl l w := by
  induction h with
  | nil => trivial
  | cons χ _ _ ih => exact ⟨hm.1, ih hm.2⟩
theorem Q1b {S T : List Nat} (h : ∀ t, memN S t = memN T t) (i t : Nat) : memN (i :: S) t = memN (i :: T) t := by simp only [memN, h]
theorem Same.updR {l m : List Ent} (h : Same l m) (o : List Oper) (i : Nat) : Same (updR o i l) (updR o i m) := by
  induction h with
  | nil => exact .nil
  | @cons S T χ h _ _ _ ih =>
    simp only [Mx.updR, Q1M h i]
    cases depsIn o T i
    · exact .cons χ h ih
    · exact .cons χ (Q1b h i) ih
theorem Same.updE {l m : List Ent} (h : Same l m) (o : List Oper) (i : Nat) : Same (updE o i l) (updE o i m) := by
  induction h with
  | nil => exact .nil
  | @cons S T χ h _ _ _ ih =>
    simp only [Mx.updE, Q1M h i]
    cases depsIn o T i
    · exact ih
    · exact .cons χ (Q1b h i) ih
theorem Same.upd {l m : List Ent} (h : Same l m) (i : Nat) : Same (upd ops κ i l) (upd ops κ i m) := by
  unfold Mx.upd
  cases κ i
  · exact h.updR _ _
  · exact h.updE _ _
theorem Q3s : ∀ (fuel : Nat) (listed : Array Bool) (l m : List Ent) (a : Act) (w : World), Same l m → wpL P ops Q κ fuel listed m a w → wpL P ops Q κ fuel listed l a w
  | 0, _, _, _, _, _, _, h => h
  | fuel + 1, _, l, m, _, _, hs, h => ⟨h.1, fun i hi => wpOp_mono (fun a' w' h' => ⟨(hs.upd i).obl h'.1, Q3s fuel _ _ _ a' w' (hs.upd i) h'.2⟩) (h.2 i hi)⟩

theorem Q2W (i j : Nat) (S : List Nat) (t : Nat) : memN (i :: j :: S) t = memN (j :: i :: S) t := by
  simp only [memN]
  cases Nat.beq i t <;> cases Nat.beq j t <;> rfl
theorem Q10 {o : List Oper} {i j : Nat} (h1 : free1 o i j) (h2 : free1 o j i) : ∀ L : List Ent, Same (updR o i (updR o j L)) (updR o j (updR o i L))
  | [] => .nil
  | (S, χ) :: r => by
    simp only [updR]
    cases hj : depsIn o S j <;> cases hi : depsIn o S i <;> simp only [cond_true, cond_false, hi, hj, Q16 h1, Q16 h2]
    · exact .cons χ (fun _ => rfl) (Q10 h1 h2 r)
    · exact .cons χ (fun _ => rfl) (Q10 h1 h2 r)
    · exact .cons χ (fun _ => rfl) (Q10 h1 h2 r)
    · exact .cons χ (Q2W i j S) (Q10 h1 h2 r)
theorem Q0W {o : List Oper} {i j : Nat} (h1 : free1 o i j) (h2 : free1 o j i) : ∀ L : List Ent, Same (updR o i (updE o j L)) (updE o j (updR o i L))
  | [] => .nil
  | (S, χ) :: r => by
    simp only [updR, updE]
    cases hj : depsIn o S j <;> cases hi : depsIn o S i <;> simp only [cond_true, cond_false, hi, hj, Q16 h1, Q16 h2, updR]
    · exact Q0W h1 h2 r
    · exact Q0W h1 h2 r
    · exact .cons χ (fun _ => rfl) (Q0W h1 h2 r)
    · exact .cons χ (Q2W i j S) (Q0W h1 h2 r)
theorem Q3X {i j : Nat} (h1 : free1 ops.toList i j) (h2 : free1 ops.toList j i) (hi : κ i = false) (L : List Ent) :
    Same (upd ops κ i (upd ops κ j L)) (upd ops κ j (upd ops κ i L)) := by
  simp only [upd, hi, cond_false]
  cases κ j
  · exact Q10 h1 h2 L
  · exact Q0W h1 h2 L

theorem Q3Z {i : Nat} {oi : Oper} {v : Value} {χ : World → Prop} (hi : ops[i]? = some oi) (hκ : κ i = false)
    (hsel : ∀ (j : Nat) (o : Oper) cs b, ops[j]? = some o → o.op ≠ .select cs b)
    (hQ : ∀ c a w, Q (.panic c) (a.put oi.dst v) w → Q (.panic c) a w) :
    ∀ (fuel : Nat) (listed : Array Bool) (S : List Nat) (L : List Ent) (a : Act) (w : World),
      (∀ t, t < ops.size → listed.getD t false = memN S t) →
      (∀ (j : Nat) (oj : Oper), ops[j]? = some oj → j ≠ i → listed.getD j true = false → (∀ e ∈ oj.after, Region.binds .any e = true → e.on ≠ i) → oi.apart ops oj = true) →
      (∀ (j : Nat) (oj : Oper), ops[j]? = some oj → ∀ e ∈ oj.after, Region.binds .any e = true → e.on < ops.size) →
      i ∈ Region.ready .any ops listed → YieldsIf P ops χ oi v a → χ w → obl L w →
      wpL P ops Q κ fuel (listed.setIfInBounds i true) ((S, χ) :: upd ops κ i L) (a.put oi.dst v) w → wpL P ops Q κ (fuel + 1) listed L a w := by
  intro fuel
  induction fuel with
  | zero =>
    intro listed S L a w hS hfree hon hr hy hχ hL H
    refine ⟨fun h => (by rw [h] at hr; cases hr), fun j hj => ?_⟩
    by_cases hji : j = i
    · subst hji; exact hy.wpOp hi hχ ⟨obl_upd hL, H⟩
    · have := ready_mono hj hji
      rw [H.1] at this
      cases this
  | succ fuel ih =>
    intro listed S L a w hS hfree hon hr hy hχ hL H
    refine ⟨fun h => (by rw [h] at hr; cases hr), fun j hj => ?_⟩
    by_cases hji : j = i
    · subst hji
      exact hy.wpOp hi hχ ⟨obl_upd hL, wpL_sub _ _ _ _ _ _ (.drop _ (Sub.refl _)) H⟩
    · have h1 := H.2 j (ready_mono hj hji)
      obtain ⟨hjun, oj, hoj, hall⟩ := mem_ready.1 hj
      have hnot : ∀ e ∈ oj.after, Region.binds .any e = true → e.on ≠ i := fun e he hb heq => by
        have h1 := hall e he hb
        have h0 := (mem_ready.1 hr).1
        rw [heq] at h1
        rcases Nat.lt_or_ge i listed.size with h' | h'
        · simp [h'] at h0 h1; rw [h0] at h1; cases h1
        · simp [Array.getElem?_eq_none h'] at h1
      have hnot' : ∀ e ∈ oi.after, Region.binds .any e = true → e.on ≠ j := fun e he hb heq => by
        obtain ⟨_, oi', hoi', hall'⟩ := mem_ready.1 hr
        rw [hi] at hoi'
        obtain rfl := Option.some.inj hoi'
        have h1 := hall' e he hb
        rw [heq] at h1
        rcases Nat.lt_or_ge j listed.size with h' | h'
        · simp [h'] at hjun h1; rw [hjun] at h1; cases h1
        · simp [Array.getElem?_eq_none h'] at h1
      have f1 : free1 ops.toList i j := fun o ho e he hb => by
        have : o = oj := by simpa [hoj] using ho.symm
        subst this; exact hnot e he hb
      have f2 : free1 ops.toList j i := fun o ho e he hb => by
        have : o = oi := by simpa [hi] using ho.symm
        subst this; exact hnot' e he hb
      have hdep : depsIn ops.toList S j = true := by
        unfold depsIn
        have : ops.toList[j]? = some oj := by simpa using hoj
        simp only [this]
        rw [List.all_eq_true]
        intro e he
        cases hb : Region.binds .any e
        · rfl
        · have he' : e ∈ oj.after := by simpa using he
          simp only [cond_true]
          rw [← hS e.on (hon j oj hoj e he' hb)]
          exact hall e he' hb
      have h2 := wpOp_putIf hoj (hfree j oj hoj hji hjun hnot) (fun cs b => hsel i oi cs b hi) (fun cs b => hsel j oj cs b hoj) hQ hy h1
      have hfree' : ∀ k ok, ops[k]? = some ok → k ≠ i → (listed.setIfInBounds j true).getD k true = false →
          (∀ e ∈ ok.after, Region.binds .any e = true → e.on ≠ i) → oi.apart ops ok = true := fun k ok hk hki hun hno => by
        refine hfree k ok hk hki ?_ hno
        by_cases hjk : j = k
        · subst hjk; exact hjun
        · rw [getD_set_ne true hjk] at hun; exact hun
      have hjlt : j < listed.size := by
        rcases Nat.lt_or_ge j listed.size with h' | h'
        · exact h'
        · simp [Array.getElem?_eq_none h'] at hjun
      have hS' : ∀ t, t < ops.size → (listed.setIfInBounds j true).getD t false = memN (j :: S) t := fun t ht => by
        simp only [memN]
        by_cases hjt : j = t
        · subst hjt
          simp [hjlt]
        · rw [getD_set_ne false hjt, hS t ht]
          have : Nat.beq j t = false := by
            cases hq : Nat.beq j t
            · rfl
            · exact absurd (Q0B hq) hjt
          simp [this]
      refine wpOp_mono (fun a' w' h3 => ?_) h2
      obtain ⟨hy', hob, hrest⟩ := h3
      -- the entry of i stays
      have hupd : upd ops κ j ((S, χ) :: upd ops κ i L) = (j :: S, χ) :: upd ops κ j (upd ops κ i L) := by
        simp only [upd]
        cases κ j <;> simp [updR, updE, hdep]
      rw [hupd] at hob hrest
      have hsw := Q3X (κ := κ) f1 f2 hκ L
      have hobj : obl (upd ops κ j L) w' := by
        -- what must stay behind j: read off the list behind i and j
        have hh := hob.2
        have hso := hsw.obl hh
        clear hrest hupd hob h1 h2
        revert hso
        simp only [upd, hκ, cond_false]
        generalize (bif κ j then updE ops.toList j L else updR ops.toList j L) = M
        intro hso
        induction M with
        | nil => trivial
        | cons e r ihM =>
          refine ⟨?_, ihM hso.2⟩
          have := hso.1
          cases hd : depsIn ops.toList e.1 i <;> simpa [hd] using this
      refine ⟨hobj, ih (listed.setIfInBounds j true) (j :: S) (upd ops κ j L) a' w' hS' hfree' hon (ready_mono hr (Ne.symm hji)) hy' hob.1 hobj ?_⟩
      rw [Array.setIfInBounds_comm _ _ hji]
      exact Q3s _ _ _ _ _ _ (.cons χ (fun _ => rfl) hsw) hrest
end
end Go.Mx
namespace Go.Mx

def allL : List Nat → (Nat → Prop) → Prop
  | [], _ => True
  | [i], Φ => Φ i
  | i :: j :: r, Φ => Φ i ∧ allL (j :: r) Φ
theorem Q4j {l : List Nat} {Φ : Nat → Prop} (h : allL l Φ) : ∀ i ∈ l, Φ i := by
  induction l with
  | nil => simp
  | cons x r ih =>
    cases r with
    | nil => intro i hi; simp at hi; subst hi; exact h
    | cons y r =>
      intro i hi
      rcases List.mem_cons.1 hi with rfl | hi
      · exact h.1
      · exact ih h.2 i hi

def looks (ops : List Oper) (o : Oper) : List Nat :=
  (opnds o.op).filterMap (fun | .tmp t => some t | _ => none) ++ (match o.guard with | some (g, _) => ((ops[g]?).bind (·.dst)).toList | none => [])
def apartB (ops : List Oper) (x y : Oper) : Bool :=
  (match x.dst with
   | some d => bif memN (looks ops y) d then false else (match y.dst with | some e => !(Nat.beq d e) | none => true)
   | none => true) &&
  (match y.dst with
   | some d => !(memN (looks ops x) d)
   | none => true)
def waits (o : Oper) (i : Nat) : Bool := o.after.toList.any fun e => bif Nat.beq e.on i then Region.binds .any e else false
def rowOk (ops : List Oper) (x : Oper) (i : Nat) : List Oper → Nat → Bool
  | [], _ => true
  | y :: r, j => bif (bif waits y i then true else (bif waits x j then true else (apartB ops x y && apartB ops y x))) then rowOk ops x i r (j + 1) else false
def pairsOk (ops : List Oper) : List Oper → Nat → Bool
  | [], _ => true
  | x :: r, i => bif rowOk ops x i r (i + 1) then pairsOk ops r (i + 1) else false
def regOk (ops : List Oper) : Bool :=
  ops.all (fun o => !(isSel o.op) && o.after.toList.all fun e => Nat.blt e.on ops.length) && pairsOk ops ops 0

theorem Q2w {ops : List Oper} {o : Oper} (hs : isSel o.op = false) {d : Nat} (h : d ∈ o.looksAt ops.toArray) : d ∈ looks ops o := by
  simp only [Oper.looksAt, List.mem_append, List.mem_filterMap] at h
  simp only [looks, List.mem_append, List.mem_filterMap]
  rcases h with ⟨x, hx, hd⟩ | h
  · exact .inl ⟨x, Q30 (Q17 hs) (by simpa using hx), hd⟩
  · refine .inr ?_
    cases hg : o.guard with
    | none => simp [hg] at h
    | some p => obtain ⟨g, b⟩ := p; simpa [hg] using h
theorem Q3r {ops : List Oper} {x y : Oper} (hx : isSel x.op = false) (hy : isSel y.op = false) (h : apartB ops x y = true) : x.apart ops.toArray y = true := by
  simp only [apartB, Bool.and_eq_true] at h
  obtain ⟨h1, h2⟩ := h
  unfold Oper.apart
  rw [Bool.and_eq_true]
  constructor
  · cases hd : x.dst with
    | none => rfl
    | some d =>
      simp only [hd] at h1
      cases hm : memN (looks ops y) d
      · simp only [hm, cond_false] at h1
        have h3 : d ∉ y.looksAt ops.toArray := fun hh => by
          have := Q3w.2 (Q2w hy hh)
          rw [hm] at this; cases this
        have h4 : y.dst ≠ some d := fun e => by
          simp [e] at h1
        simp [h3, h4]
      · simp [hm] at h1
  · cases hd : y.dst with
    | none => rfl
    | some d =>
      simp only [hd] at h2
      have h3 : d ∉ x.looksAt ops.toArray := fun hh => by
        have := Q3w.2 (Q2w hx hh)
        rw [this] at h2; cases h2
      simp [h3]
theorem Q2o {o : Oper} {i : Nat} (h : waits o i = true) : ∃ e ∈ o.after, Region.binds .any e = true ∧ e.on = i := by
  obtain ⟨e, he, hb⟩ := List.any_eq_true.1 h
  cases hq : Nat.beq e.on i
  · simp [hq] at hb
  · simp only [hq, cond_true] at hb
    exact ⟨e, by simpa using he, hb, Q0B hq⟩
theorem Q2m {ops : List Oper} {x : Oper} {i : Nat} : ∀ {l : List Oper} {j : Nat}, rowOk ops x i l j = true → ∀ k y, l[k]? = some y →
    waits y i = true ∨ waits x (j + k) = true ∨ (apartB ops x y = true ∧ apartB ops y x = true)
  | [], _, _, k, y, hk => by simp at hk
  | z :: r, j, h, k, y, hk => by
    simp only [rowOk] at h
    cases hc : (bif waits z i then true else (bif waits x j then true else (apartB ops x z && apartB ops z x)))
    · rw [hc] at h; cases h
    · simp only [hc, cond_true] at h
      cases k with
      | zero =>
        simp at hk; subst hk
        cases h1 : waits z i
        · simp only [h1, cond_false] at hc
          cases h2 : waits x j
          · simp only [h2, cond_false, Bool.and_eq_true] at hc; exact .inr (.inr hc)
          · exact .inr (.inl (by simpa using h2))
        · exact .inl rfl
      | succ k =>
        have := Q2m h k y (by simpa using hk)
        rw [show j + (k + 1) = j + 1 + k by omega]
        exact this
theorem Q1a {ops : List Oper} : ∀ {l : List Oper} {i : Nat}, pairsOk ops l i = true → ∀ k m x y, l[k]? = some x → l[m]? = some y → k < m →
    waits y (i + k) = true ∨ waits x (i + m) = true ∨ (apartB ops x y = true ∧ apartB ops y x = true)
  | [], _, _, k, m, x, y, hk, hm, hlt => by simp at hk
  | z :: r, i, h, k, m, x, y, hk, hm, hlt => by
    simp only [pairsOk] at h
    cases hc : rowOk ops z i r (i + 1)
    · simp [hc] at h
    · simp only [hc, cond_true] at h
      obtain ⟨m, rfl⟩ : ∃ q, m = q + 1 := ⟨m - 1, by omega⟩
      cases k with
      | zero =>
        simp at hk; subst hk
        have := Q2m hc m y (by simpa using hm)
        rw [show i + (m + 1) = i + 1 + m by omega]
        simpa using this
      | succ k =>
        have := Q1a h k m x y (by simpa using hk) (by simpa using hm) (by omega)
        rw [show i + (m + 1) = i + 1 + m by omega, show i + (k + 1) = i + 1 + k by omega]
        exact this
theorem Q2v {ops : List Oper} (h : regOk ops = true) :
    (∀ (i : Nat) (o : Oper), ops[i]? = some o → isSel o.op = false) ∧ (∀ (i : Nat) (o : Oper), ops[i]? = some o → ∀ e ∈ o.after, e.on < ops.length) ∧
    (∀ (i j : Nat) (x y : Oper), ops[i]? = some x → ops[j]? = some y → i ≠ j → waits y i = true ∨ waits x j = true ∨ x.apart ops.toArray y = true) := by
  simp only [regOk, Bool.and_eq_true, List.all_eq_true] at h
  obtain ⟨h1, h2⟩ := h
  have hs : ∀ (i : Nat) (o : Oper), ops[i]? = some o → isSel o.op = false := fun i o hi => by
    have := (h1 o (List.mem_of_getElem? hi)).1
    simpa using this
  refine ⟨hs, fun i o hi e he => ?_, fun i j x y hi hj hne => ?_⟩
  · have := (h1 o (List.mem_of_getElem? hi)).2 e (by simpa using he)
    simpa [Nat.blt_eq] using this
  · rcases Nat.lt_or_gt_of_ne hne with hlt | hlt
    · have := Q1a h2 i j x y hi hj hlt
      simp only [Nat.zero_add] at this
      rcases this with h | h | h
      · exact .inl h
      · exact .inr (.inl h)
      · exact .inr (.inr (Q3r (hs i x hi) (hs j y hj) h.1))
    · have := Q1a h2 j i y x hj hi hlt
      simp only [Nat.zero_add] at this
      rcases this with h | h | h
      · exact .inr (.inl h)
      · exact .inl h
      · exact .inr (.inr (Q3r (hs i x hi) (hs j y hj) h.2))

def firstRd (P : Program) (ops : List Oper) : List Nat → Option Nat
  | [] => none
  | i :: r => match ops[i]? with | some o => bif isRd P o.op then some i else firstRd P ops r | none => firstRd P ops r

def mdraw (P : Program) (N : Nat) (ops : List Oper) (lo : Fs) : Nat → List Nat → List Ent → Dg → Fs → World → (Fs → World → Prop) → Prop
  | 0, S, _, _, f, w, K => match readyL ops S with | [] => K f w | _ :: _ => False
  | fuel + 1, S, L, dg, f, w, K =>
    match readyL ops S with
    | [] => K f w
    | r0 :: rs =>
      match firstRd P ops (r0 :: rs) with
      | some i =>
        (match ops[i]? with
        | some o =>
          gask ops lo f dg o fun b dg f =>
            bif b then mrdF P (f ++ lo) o w fun v χ => putK N o.dst v dg f fun dg f => mdraw P N ops lo fuel (i :: S) (addE S χ (updR ops i L)) dg f w K
            else putK N o.dst undef dg f fun dg f => mdraw P N ops lo fuel (i :: S) (updR ops i L) dg f w K
        | none => False)
      | none =>
        allL (r0 :: rs) fun i =>
          match ops[i]? with
          | some o =>
            gask ops lo f dg o fun b dg f =>
              bif b then meffF P (f ++ lo) o w fun v w' => oblK (updE ops i L) w' (putK N o.dst v dg f fun dg f => mdraw P N ops lo fuel (i :: S) (updE ops i L) dg f w' K)
              else putK N o.dst undef dg f fun dg f => mdraw P N ops lo fuel (i :: S) (updE ops i L) dg f w K
          | none => False

section
variable {P : Program} {ops : Array Oper} {Q : Exit → Act → World → Prop} {κ : Nat → Bool}
inductive Tr : List Ent → List Ent → Prop where
  | nil : Tr [] []
  | keep (e : Ent) {l m : List Ent} : Tr l m → Tr (e :: l) (e :: m)
  | add (S : List Nat) {l m : List Ent} : Tr l m → Tr l ((S, fun _ => True) :: m)
theorem Tr.refl : ∀ l : List Ent, Tr l l
  | [] => .nil
  | e :: r => .keep e (Tr.refl r)
theorem Tr.obl {l m : List Ent} (h : Tr l m) {w : World} (hm : obl l w) : Mx.obl m w := by
  induction h with
  | nil => trivial
  | keep e _ ih => exact ⟨hm.1, ih hm.2⟩
  | add S _ ih => exact ⟨trivial, ih hm⟩
theorem Tr.updR {l m : List Ent} (h : Tr l m) (o : List Oper) (i : Nat) : Tr (updR o i l) (updR o i m) := by
  induction h with
  | nil => exact .nil
  | keep e _ ih => exact .keep _ ih
  | add S _ ih =>
    simp only [Mx.updR]
    cases depsIn o S i
    · exact .add _ ih
    · exact .add _ ih
theorem Tr.updE {l m : List Ent} (h : Tr l m) (o : List Oper) (i : Nat) : Tr (updE o i l) (updE o i m) := by
  induction h with
  | nil => exact .nil
  | keep e _ ih =>
    simp only [Mx.updE]
    cases depsIn o e.1 i
    · exact ih
    · exact .keep _ ih
  | add S _ ih =>
    simp only [Mx.updE]
    cases depsIn o S i
    · exact ih
    · exact .add _ ih
theorem Tr.upd {l m : List Ent} (h : Tr l m) (i : Nat) : Tr (upd ops κ i l) (upd ops κ i m) := by
  unfold Mx.upd
  cases κ i
  · exact h.updR _ _
  · exact h.updE _ _
theorem wpL_tr : ∀ (fuel : Nat) (listed : Array Bool) (l m : List Ent) (a : Act) (w : World), Tr l m → wpL P ops Q κ fuel listed l a w → wpL P ops Q κ fuel listed m a w
  | 0, _, _, _, _, _, _, h => h
  | fuel + 1, _, l, m, _, _, hs, h => ⟨h.1, fun i hi => wpOp_mono (fun a' w' h' => ⟨(hs.upd i).obl h'.1, wpL_tr fuel _ _ _ a' w' (hs.upd i) h'.2⟩) (h.2 i hi)⟩
end

structure Lst (n : Nat) (listed : Array Bool) (S : List Nat) : Prop where
  size : listed.size = n
  at_ : ∀ t, t < n → listed.getD t false = memN S t
theorem Lst.getD_true {n : Nat} {listed : Array Bool} {S : List Nat} (h : Lst n listed S) {t : Nat} (ht : t < n) : listed.getD t true = memN S t := by
  rw [← h.at_ t ht]
  have : t < listed.size := by rw [h.size]; exact ht
  simp [this]
theorem Lst.set {n : Nat} {listed : Array Bool} {S : List Nat} (h : Lst n listed S) {i : Nat} (hi : i < n) : Lst n (listed.setIfInBounds i true) (i :: S) := by
  refine ⟨by simp [h.size], fun t ht => ?_⟩
  simp only [memN]
  by_cases hit : i = t
  · subst hit
    have : i < listed.size := by rw [h.size]; exact hi
    simp [this]
  · rw [getD_set_ne false hit, h.at_ t ht]
    have : Nat.beq i t = false := by
      cases hq : Nat.beq i t
      · rfl
      · exact absurd (Q0B hq) hit
    simp [this]

section
variable {P : Program} {ops : List Oper}

theorem Q3B (hreg : regOk ops = true) {listed : Array Bool} {S : List Nat} (h : Lst ops.length listed S) : Region.ready .any ops.toArray listed = readyL ops S := by
  obtain ⟨_, hon, _⟩ := Q2v hreg
  unfold Region.ready readyL
  simp only [List.size_toArray]
  refine List.filter_congr fun i hi => ?_
  have hlt : i < ops.length := List.mem_range.1 hi
  rw [h.getD_true hlt]
  cases hm : memN S i
  · simp only [Bool.not_false, Bool.true_and, cond_false]
    unfold depsIn
    have ho : ops[i]? = some ops[i] := by simp [hlt]
    rw [ho]
    have ho' : ops.toArray[i]? = some ops[i] := by simp [hlt]
    rw [ho']
    simp only [Option.map_some, Option.getD_some]
    rw [Bool.eq_iff_iff, Array.all_eq_true_iff_forall_mem, List.all_eq_true]
    refine ⟨fun hh e he => ?_, fun hh e he => ?_⟩
    · have he' : e ∈ ops[i].after := by simpa using he
      have := hh e he'
      cases hb : Region.binds .any e
      · rfl
      · simp only [hb, Bool.not_true, Bool.false_or] at this
        rw [h.at_ e.on (hon i _ ho e he')] at this
        exact this
    · have := hh e (by simpa using he)
      cases hb : Region.binds .any e
      · rfl
      · simp only [hb, cond_true] at this
        simp only [Bool.not_true, Bool.false_or]
        rw [h.at_ e.on (hon i _ ho e he)]
        exact this
  · simp

theorem Q1e : ∀ {l : List Nat} {i : Nat}, firstRd P ops l = some i → i ∈ l ∧ ∃ o, ops[i]? = some o ∧ isRd P o.op = true
  | [], _, h => by simp [firstRd] at h
  | j :: r, i, h => by
    simp only [firstRd] at h
    split at h
    · rename_i o ho
      cases hr : isRd P o.op
      · simp only [hr, cond_false] at h
        obtain ⟨h1, h2⟩ := Q1e h
        exact ⟨List.mem_cons_of_mem _ h1, h2⟩
      · simp only [hr, cond_true, Option.some.injEq] at h
        subst h
        exact ⟨List.mem_cons_self, o, ho, hr⟩
    · obtain ⟨h1, h2⟩ := Q1e h
      exact ⟨List.mem_cons_of_mem _ h1, h2⟩
theorem Q1f : ∀ {l : List Nat}, firstRd P ops l = none → ∀ i ∈ l, ∀ o, ops[i]? = some o → isRd P o.op = false
  | [], _, _, hi, _, _ => by simp at hi
  | j :: r, h, i, hi, o, ho => by
    simp only [firstRd] at h
    split at h
    · rename_i o' ho'
      cases hr : isRd P o'.op
      · simp only [hr, cond_false] at h
        rcases List.mem_cons.1 hi with rfl | hi
        · rw [ho'] at ho; obtain rfl := Option.some.inj ho; exact hr
        · exact Q1f h i hi o ho
      · simp [hr] at h
    · rename_i hn
      rcases List.mem_cons.1 hi with rfl | hi
      · rw [hn] at ho; cases ho
      · exact Q1f h i hi o ho

def kap (P : Program) (ops : List Oper) (i : Nat) : Bool := match ops[i]? with | some o => !(isRd P o.op) | none => false

theorem Q1l {D : List Deferred} {N : Nat} {lo : Fs} {Q : Exit → Act → World → Prop} {K : Fs → World → Prop} (hreg : regOk ops = true)
    (hQ : ∀ f w a, K f w → Fr D N (f ++ lo) a → Q .normal a w) (hp : ∀ c a w, ¬ Q (.panic c) a w) :
    ∀ (fuel : Nat) (S : List Nat) (L : List Ent) (dg : Dg) (f : Fs) (w : World) (listed : Array Bool) (a : Act),
      Lst ops.length listed S → obl L w → Fr D N (f ++ lo) a → DgOk dg (f ++ lo) → mdraw P N ops lo fuel S L dg f w K → wpL P ops.toArray Q (kap P ops) fuel listed L a w
  | 0, S, L, dg, f, w, listed, a, hl, hL, hf, hd, h => by
    simp only [mdraw] at h
    split at h
    · rename_i hr
      exact ⟨by rw [Q3B hreg hl, hr], hQ _ _ _ h hf⟩
    · exact h.elim
  | fuel + 1, S, L, dg, f, w, listed, a, hl, hL, hf, hd, h => by
    obtain ⟨hsel, hon, hap⟩ := Q2v hreg
    have hre := Q3B hreg hl
    simp only [mdraw] at h
    split at h
    · rename_i hr
      refine ⟨fun _ => hQ _ _ _ h hf, fun i hi => ?_⟩
      rw [hre, hr] at hi; simp at hi
    · rename_i r0 rs hr
      split at h
      · rename_i i hfi
        obtain ⟨hmem, o, ho, hrd⟩ := Q1e hfi
        simp only [ho] at h
        have hmem' : i ∈ Region.ready .any ops.toArray listed := by rw [hre, hr]; exact hmem
        have hoA : ops.toArray[i]? = some o := by simpa using ho
        have hlt : i < ops.length := (List.getElem?_eq_some_iff.1 ho).1
        have hκ : kap P ops i = false := by simp [kap, ho, hrd]
        have hlS := hl.set hlt
        have hunl : ∀ e ∈ o.after, Region.binds .any e = true → listed.getD e.on false = true := by
          obtain ⟨_, o', ho', hall⟩ := mem_ready.1 hmem'
          rw [hoA] at ho'; obtain rfl := Option.some.inj ho'; exact hall
        have key : ∀ (v : Value) (χ : World → Prop), YieldsIf P ops.toArray χ o v a → χ w →
            wpL P ops.toArray Q (kap P ops) fuel (listed.setIfInBounds i true) ((S, χ) :: upd ops.toArray (kap P ops) i L) (a.put o.dst v) w →
            wpL P ops.toArray Q (kap P ops) (fuel + 1) listed L a w := fun v χ hy hχ H =>
          Q3Z hoA hκ (fun j oj cs b hj => Q17 (hsel j oj (by simpa using hj)) cs b) (fun c a' w' hc => absurd hc (hp _ _ _)) fuel listed S L a w
            (fun t ht => hl.at_ t (by simpa using ht))
            (fun j oj hj hji hun hno => by
              have hj' : ops[j]? = some oj := by simpa using hj
              rcases hap i j o oj ho hj' (Ne.symm hji) with h | h | h
              · obtain ⟨e, he, hb, hon'⟩ := Q2o h
                exact absurd hon' (hno e he hb)
              · obtain ⟨e, he, hb, hon'⟩ := Q2o h
                have := hunl e he hb
                rw [hon'] at this
                have hjl : j < listed.size := by rw [hl.size]; exact (List.getElem?_eq_some_iff.1 hj').1
                simp [hjl] at hun this
                rw [hun] at this; cases this
              · exact h)
            (fun j oj hj e he _ => by simpa using hon j oj (by simpa using hj) e he)
            hmem' hy hχ hL H
        have hupd : upd ops.toArray (kap P ops) i L = updR ops i L := by simp [upd, hκ]
        obtain ⟨b, dg1, f1, hb, h, hf1, hd1⟩ := gask_ok (P := P) h hf hd
        cases b
        · simp only [cond_false] at h
          obtain ⟨dg2, f2, h, hf2, hd2⟩ := putK_ok h hf1 hd1
          refine key undef (fun _ => True) (.inr ⟨hb, rfl⟩) trivial ?_
          rw [hupd]
          exact wpL_tr _ _ _ _ _ _ (.add S (Tr.refl _)) (Q1l hreg hQ hp fuel _ _ dg2 f2 w _ _ hlS (Q1S hL) hf2 hd2 h)
        · simp only [cond_true] at h
          obtain ⟨v, χ, h1, h2, h3⟩ := mrdF_ok hf1 h
          obtain ⟨dg2, f2, h, hf2, hd2⟩ := putK_ok h3 hf1 hd1
          refine key v (Chi.at χ) (.inl ⟨hb, fun w' hw' => h2 w' hw'⟩) h1 ?_
          rw [hupd]
          cases χ with
          | none =>
            exact wpL_tr _ _ _ _ _ _ (.add S (Tr.refl _)) (Q1l hreg hQ hp fuel _ _ dg2 f2 w _ _ hlS (Q1S hL) hf2 hd2 h)
          | some c =>
            exact Q1l hreg hQ hp fuel _ _ dg2 f2 w _ _ hlS ⟨h1, Q1S hL⟩ hf2 hd2 h
      · rename_i hfn
        refine ⟨fun h0 => (by rw [hre, hr] at h0; cases h0), fun i hi => ?_⟩
        rw [hre, hr] at hi
        have h := Q4j h i hi
        split at h
        · rename_i o ho
          have hrd := Q1f hfn i hi o ho
          have hκ : kap P ops i = true := by simp [kap, ho, hrd]
          have hupd : upd ops.toArray (kap P ops) i L = updE ops i L := by simp [upd, hκ]
          have hoA : ops.toArray[i]? = some o := by simpa using ho
          have hlt : i < ops.length := (List.getElem?_eq_some_iff.1 ho).1
          have hlS := hl.set hlt
          unfold wpOp
          simp only [hoA]
          rw [hupd]
          obtain ⟨b, dg1, f1, hb, h, hf1, hd1⟩ := gask_ok (P := P) h hf hd
          cases b
          · rw [hb]
            simp only [cond_false] at h
            obtain ⟨dg2, f2, h, hf2, hd2⟩ := putK_ok h hf1 hd1
            exact ⟨Q2C hL, Q1l hreg hQ hp fuel _ _ dg2 f2 w _ _ hlS (Q2C hL) hf2 hd2 h⟩
          · rw [hb]
            simp only [cond_true] at h
            refine .inl ((Q4g hf1 h).wp fun v w' h => ?_)
            obtain ⟨ho1, h⟩ := Q4p h
            obtain ⟨dg2, f2, h, hf2, hd2⟩ := putK_ok h hf1 hd1
            exact ⟨ho1, Q1l hreg hQ hp fuel _ _ dg2 f2 w' _ _ hlS ho1 hf2 hd2 h⟩
        · exact h.elim
end
end Go.Mx
namespace Go.Mx

theorem least (p : Nat → Prop) (h : ∃ m, p m) : ∃ k, p k ∧ ∀ j, p j → k ≤ j := by
  obtain ⟨m, hm⟩ := h
  induction m using Nat.strongRecOn with
  | _ m ih =>
    by_cases h : ∃ j, j < m ∧ p j
    · obtain ⟨j, hj, hp⟩ := h; exact ih j hj hp
    · exact ⟨m, hm, fun j hj => Nat.le_of_not_lt fun hlt => h ⟨j, hlt, hj⟩⟩

theorem Q2j {P : Program} {Q : Exit → Act → World → Prop} {c : Code} (J : Nat → Act → World → Prop) {m : Nat} {a : Act} {w : World} (h0 : J m a w)
    (round : ∀ m a w, J m a w → c.wp P (Exit.then (fun a' w' => ∃ m', m' < m ∧ J m' a' w') Q) a w) : (Code.loop c).wp P Q a w := by
  classical
  let μ : Act → World → Nat := fun a w => if h : ∃ m, J m a w then Classical.choose (least (fun m => J m a w) h) else 0
  have hμ : ∀ a w (h : ∃ m, J m a w), J (μ a w) a w ∧ ∀ j, J j a w → μ a w ≤ j := fun a w h => by
    have hs := Classical.choose_spec (least (fun m => J m a w) h)
    simp only [μ, h, dif_pos]
    exact hs
  refine wp_loop (fun a w => ∃ m, J m a w) μ ⟨m, h0⟩ fun a w hI => ?_
  refine Code.wp_mono (fun e a' w' he => ?_) (round _ a w (hμ a w hI).1)
  cases e <;> try exact he
  obtain ⟨m', hlt, hJ⟩ := he
  exact ⟨⟨m', hJ⟩, Nat.lt_of_le_of_lt ((hμ a' w' ⟨m', hJ⟩).2 m' hJ) hlt⟩

abbrev Hints := List (Nat × List Nat × List (Nat × Sh))
def hget : Hints → Nat → Option (List Nat × List (Nat × Sh))
  | [], _ => none
  | p :: r, t => bif Nat.beq p.1 t then some p.2 else hget r t

abbrev Cont := Fs → World → Prop
structure Kx where
  n : Cont
  r : Cont
  ex : List (Nat × Cont)
def exget : List (Nat × Cont) → Nat → Option Cont
  | [], _ => none
  | p :: r, t => bif Nat.beq p.1 t then some p.2 else exget r t
def exmap (g : Cont → Cont) : List (Nat × Cont) → List (Nat × Cont)
  | [] => []
  | p :: r => (p.1, g p.2) :: exmap g r
theorem Q26 {g : Cont → Cont} : ∀ {l : List (Nat × Cont)} {t : Nat} {k : Cont}, exget (exmap g l) t = some k → ∃ k', exget l t = some k' ∧ k = g k'
  | [], _, _, h => by simp [exmap, exget] at h
  | p :: r, t, k, h => by
    simp only [exmap, exget] at h ⊢
    cases hb : Nat.beq p.1 t
    · simp only [hb, cond_false] at h ⊢; exact Q26 h
    · simp only [hb, cond_true, Option.some.injEq] at h ⊢; exact ⟨p.2, rfl, h.symm⟩

def getAll (f : Fs) : List Nat → Option (List Value)
  | [] => some []
  | t :: r => match get f t with | some v => (match getAll f r with | some vs => some (v :: vs) | none => none) | none => none
def zipF : List Nat → List Value → Fs
  | t :: r, v :: vs => (t, v) :: zipF r vs
  | _, _ => []
theorem Q1m {f : Fs} : ∀ {l : List Nat} {vs : List Value}, getAll f l = some vs → ∀ t v, get (zipF l vs) t = some v → get f t = some v
  | [], vs, h, t, v, hv => by simp [zipF, get] at hv
  | x :: r, vs, h, t, v, hv => by
    simp only [getAll] at h
    split at h
    · rename_i u hu
      split at h
      · rename_i us hus
        simp only [Option.some.injEq] at h
        subst h
        simp only [zipF, get] at hv
        cases hb : Nat.beq x t
        · simp only [hb, cond_false] at hv; exact Q1m hus t v hv
        · simp only [hb, cond_true, Option.some.injEq] at hv
          have := Q0B hb
          subst this; subst hv; exact hu
      · cases h
    · cases h
def keepF (g : Fs) : Fs → Fs
  | [] => []
  | p :: r => bif has g p.1 then p :: keepF g r else keepF g r
theorem Q2d {g : Fs} : ∀ {f : Fs} {t : Nat}, get (keepF g f) t = if has g t then get f t else none
  | [], t => by simp [keepF, get]
  | p :: r, t => by
    simp only [keepF]
    cases hb : Nat.beq p.1 t
    · cases hh : has g p.1 <;> simp only [cond_true, cond_false, get, hb] <;> exact Q2d
    · have := Q0B hb
      subst this
      cases hh : has g p.1
      · simp only [cond_false]; rw [Q2d]; simp [hh]
      · simp [get, hh]
theorem has_get {f : Fs} {t : Nat} (h : has f t = false) : get f t = none := by
  induction f with
  | nil => rfl
  | cons p r ih =>
    simp only [has] at h
    simp only [get]
    cases hb : Nat.beq p.1 t
    · simp only [hb, cond_false] at h ⊢; exact ih h
    · simp [hb] at h
def disjF (g : Fs) : Fs → Bool
  | [] => true
  | p :: r => bif has g p.1 then false else disjF g r
theorem Q2n {g : Fs} : ∀ {f : Fs}, disjF g f = true → ∀ t v, get f t = some v → has g t = false
  | [], _, t, v, h => by simp [get] at h
  | p :: r, hd, t, v, h => by
    simp only [disjF] at hd
    cases hh : has g p.1
    · simp only [hh, cond_false] at hd
      simp only [get] at h
      cases hb : Nat.beq p.1 t
      · simp only [hb, cond_false] at h; exact Q2n hd t v h
      · have := Q0B hb; subst this; exact hh
    · simp [hh] at hd
def subF (g : Fs) : Fs → Bool
  | [] => true
  | p :: r => bif has g p.1 then subF g r else false
theorem Q2I {g : Fs} : ∀ {f : Fs}, subF g f = true → ∀ t v, get f t = some v → has g t = true
  | [], _, t, v, h => by simp [get] at h
  | p :: r, hd, t, v, h => by
    simp only [subF] at hd
    cases hh : has g p.1
    · simp [hh] at hd
    · simp only [hh, cond_true] at hd
      simp only [get] at h
      cases hb : Nat.beq p.1 t
      · simp only [hb, cond_false] at h; exact Q2I hd t v h
      · have := Q0B hb; subst this; exact hh

def mcode (P : Program) (H : Hints) (N : Nat) : Code → Fs → Kx → Fs → World → Prop
  | .skip, _, K, f, w => K.n f w
  | .seq a b, lo, K, f, w => mcode P H N a lo { K with n := fun f w => mcode P H N b lo K f w } f w
  | .cond c x y, lo, K, f, w =>
    match ev (f ++ lo) c with
    | some (.bool b) => bif b then mcode P H N x lo K f w else mcode P H N y lo K f w
    | _ => False
  | .region _ ops draw, lo, K, f, w =>
    match draw with
    | false => mops P N ops.toList lo ops.toList [] f w K.n
    | true => bif regOk ops.toList then mdraw P N ops.toList lo ops.toList.length [] [] [] f w.drew K.n else False
  | .block id (.loop body), lo, K, f, w =>
    match hget H id with
    | none => False
    | some hs =>
      match getAll (f ++ lo) hs.1, getAll (f ++ lo) (hs.2.map (·.1)) with
      | some cv, some vv =>
        bif (subF (zipF hs.1 cv) lo && Q0N (hs.2.map (·.2)) vv) then
          ∃ (I : Nat → List Value → World → Prop) (m : Nat), I m vv w ∧ ∀ (m : Nat) (w : World), salls (hs.2.map (·.2)) fun vs => I m vs w →
            mcode P H N body (zipF hs.1 cv)
              { n := fun f' w' => bif disjF f' (zipF hs.1 cv) then
                      (match getAll f' (hs.2.map (·.1)) with
                       | some vs' => bif Q0N (hs.2.map (·.2)) vs' then ∃ m', m' < m ∧ I m' vs' w' else False
                       | none => False)
                    else False
                r := fun f' w' => K.r (f' ++ keepF f (zipF hs.1 cv)) w'
                ex := (id, fun f' w' => K.n (f' ++ keepF f (zipF hs.1 cv)) w') :: exmap (fun k f' w' => k (f' ++ keepF f (zipF hs.1 cv)) w') K.ex }
              (zipF (hs.2.map (·.1)) vs) w
        else False
      | _, _ => False
  | .block id c, lo, K, f, w => mcode P H N c lo { K with ex := (id, K.n) :: K.ex } f w
  | .exit id, _, K, f, w => match exget K.ex id with | some k => k f w | none => False
  | .ret, _, K, f, w => K.r f w
  | _, _, _, _, _ => False

def post (D : List Deferred) (N : Nat) (lo : Fs) (K : Kx) : Exit → Act → World → Prop
  | .normal, a, w => ∃ f, Fr D N (f ++ lo) a ∧ K.n f w
  | .ret, a, w => ∃ f, Fr D N (f ++ lo) a ∧ K.r f w
  | .exit id, a, w => ∃ f k, exget K.ex id = some k ∧ Fr D N (f ++ lo) a ∧ k f w
  | _, _, _ => False

section
variable {P : Program} {H : Hints} {N : Nat} {D : List Deferred}

theorem Q3u {f : Fs} {t : Nat} (h : has f t = true) : get f t ≠ none := by
  induction f with
  | nil => cases h
  | cons p r ih =>
    simp only [has] at h
    simp only [get]
    cases hb : Nat.beq p.1 t
    · simp only [hb, cond_false] at h ⊢; exact ih h
    · simp

theorem fr_conv {f f' f0 lo : Fs} {a : Act} (hf : Fr D N (f' ++ f0) a)
    (hlo : ∀ t v, get lo t = some v → has f0 t = true) (h0 : ∀ t v, get f0 t = some v → get (f ++ lo) t = some v) : Fr D N ((f' ++ keepF f f0) ++ lo) a := by
  refine ⟨hf.size, hf.defers, fun t v ht => hf.at_ t v ?_⟩
  rw [Q0L, Q0L, Q2d] at ht
  rw [Q0L]
  cases h1 : get f' t with
  | some u => simpa [h1] using ht
  | none =>
    simp only [h1, Option.none_or] at ht ⊢
    cases hh : has f t
    · simp only [hh, Bool.false_eq_true, if_false, Option.none_or] at ht
      cases h2 : get f0 t with
      | some u =>
        have := h0 t u h2
        rw [Q0L, has_get hh, Option.none_or, ht] at this
        exact this.symm
      | none => exact absurd h2 (Q3u (hlo t v ht))
    · simp only [hh, if_true] at ht
      cases h2 : get f0 t with
      | some u => simpa [h2] using ht
      | none =>
        simp only [h2, Option.none_or] at ht
        exact absurd h2 (Q3u (hlo t v ht))

theorem Q36 {id : Nat} {c : Code} (h : ∀ b, c ≠ .loop b) (lo : Fs) (K : Kx) (f : Fs) (w : World) :
    mcode P H N (.block id c) lo K f w = mcode P H N c lo { K with ex := (id, K.n) :: K.ex } f w := by
  cases c <;> first | rfl | exact absurd rfl (h _)

theorem Q15 (hm : P.follows .mixedOrders = true) (c : Code) (lo : Fs) (K : Kx) (f : Fs) (w : World) (a : Act)
    (h : mcode P H N c lo K f w) (hf : Fr D N (f ++ lo) a) : c.wp P (post D N lo K) a w := by
  have hp : ∀ (lo : Fs) (K : Kx) c a w, ¬ post D N lo K (.panic c) a w := fun lo K c a w h => h
  match c, h with
  | .skip, h => exact wp_skip ⟨f, hf, h⟩
  | .seq x y, h =>
    refine wp_seq (Code.wp_mono (fun e a' w' he => ?_) (Q15 hm x lo _ f w a h hf))
    cases e <;> try exact he
    obtain ⟨f', hf', h'⟩ := he
    exact Q15 hm y lo K f' w' a' h' hf'
  | .cond c x y, h =>
    simp only [mcode] at h
    split at h
    · rename_i b hb
      have hc : a.eval c = .bool b := by
        have := hf.eval (x := c) (by rw [hb]; rfl)
        rw [this, rho, hb]; rfl
      refine wp_cond_split hc (fun ht => ?_) (fun ht => ?_)
      · subst ht; exact Q15 hm x lo K f w a h hf
      · subst ht; exact Q15 hm y lo K f w a h hf
    · exact h.elim
  | .region id ops draw, h =>
    have hQ : ∀ (f : Fs) (w : World) (a : Act), K.n f w → Fr D N (f ++ lo) a → post D N lo K .normal a w := fun f w a h hf => ⟨f, hf, h⟩
    have hd0 : DgOk [] (f ++ lo) := fun s b hs => by cases hs
    cases draw
    · simp only [mcode] at h
      have := mops_ok hQ ops.toList [] f w a h hf hd0
      exact wp_region_list (by simpa using this)
    · simp only [mcode] at h
      cases hr : regOk ops.toList
      · simp [hr] at h
      · simp only [hr, cond_true] at h
        refine wp_region_any hm (Q2l _ _ [] _ _ (κ := kap P ops.toList) ?_)
        have hl : Lst ops.toList.length (Array.replicate ops.size false) [] := ⟨by simp, fun t ht => by
          have : t < ops.size := by simpa using ht
          simp [memN, this]⟩
        have := Q1l (lo := lo) hr hQ (hp lo K) ops.toList.length [] [] [] f w.drew (Array.replicate ops.size false) a hl trivial hf hd0 h
        simpa using this
  | .block id c, h =>
    by_cases hl : ∃ b, c = .loop b
    · obtain ⟨body, rfl⟩ := hl
      simp only [mcode] at h
      split at h
      · exact h.elim
      · rename_i hs hhs
        split at h
        · rename_i cv vv hcv hvv
          cases hc : (subF (zipF hs.1 cv) lo && Q0N (hs.2.map (·.2)) vv)
          · simp [hc] at h
          · simp only [hc, cond_true] at h
            rw [Bool.and_eq_true] at hc
            obtain ⟨hsub, hfit⟩ := hc
            obtain ⟨I, m, hI, hround⟩ := h
            have hlo : ∀ t v, get lo t = some v → has (zipF hs.1 cv) t = true := Q2I hsub
            have h0 : ∀ t v, get (zipF hs.1 cv) t = some v → get (f ++ lo) t = some v := Q1m hcv
            refine wp_block (Q2j (fun m a w => ∃ vs, I m vs w ∧ Q0N (hs.2.map (·.2)) vs = true ∧ Fr D N (zipF (hs.2.map (·.1)) vs ++ zipF hs.1 cv) a) (m := m) ⟨vv, hI, hfit, ?_⟩ fun m a w hJ => ?_)
            · refine ⟨hf.size, hf.defers, fun t v ht => hf.at_ t v ?_⟩
              rw [Q0L] at ht
              cases h1 : get (zipF (hs.2.map (·.1)) vv) t with
              | some u => rw [h1] at ht; obtain rfl : u = v := (by simpa using ht); exact Q1m hvv t u h1
              | none => rw [h1] at ht; exact h0 t v (by simpa using ht)
            · obtain ⟨vs, hIv, hfv, hfr⟩ := hJ
              have hb := Q2X (hround m w) hfv hIv
              refine Code.wp_mono (fun e a' w' he => ?_) (Q15 hm body _ _ _ w a hb hfr)
              cases e with
              | normal =>
                obtain ⟨f', hf', h'⟩ := he
                simp only at h'
                cases hd : disjF f' (zipF hs.1 cv)
                · simp [hd] at h'
                · simp only [hd, cond_true] at h'
                  split at h'
                  · rename_i vs' hvs'
                    cases hft : Q0N (hs.2.map (·.2)) vs'
                    · simp [hft] at h'
                    · simp only [hft, cond_true] at h'
                      obtain ⟨m', hlt, hI'⟩ := h'
                      refine ⟨m', hlt, vs', hI', hft, hf'.size, hf'.defers, fun t v ht => hf'.at_ t v ?_⟩
                      rw [Q0L] at ht
                      rw [Q0L]
                      cases h1 : get (zipF (hs.2.map (·.1)) vs') t with
                      | some u =>
                        rw [h1] at ht
                        obtain rfl : u = v := by simpa using ht
                        rw [Q1m hvs' t u h1]; rfl
                      | none =>
                        rw [h1] at ht
                        have h2 : get (zipF hs.1 cv) t = some v := by simpa using ht
                        rw [has_get (Q2n hd t v h2), h2]; rfl
                  · exact h'.elim
              | ret =>
                obtain ⟨f', hf', h'⟩ := he
                exact ⟨_, fr_conv hf' hlo h0, h'⟩
              | exit id' =>
                obtain ⟨f', k, hk, hf', h'⟩ := he
                simp only [exget] at hk
                simp only [Exit.then, Exit.inBlock]
                cases hq : Nat.beq id id'
                · simp only [hq, cond_false] at hk
                  have hne : id' ≠ id := fun e => by subst e; simp at hq
                  rw [if_neg hne]
                  obtain ⟨k', hk', rfl⟩ := Q26 hk
                  exact ⟨_, k', hk', fr_conv hf' hlo h0, h'⟩
                · have := Q0B hq
                  subst this
                  simp only [Nat.beq_refl, cond_true, Option.some.injEq] at hk
                  subst hk
                  simp only [if_true]
                  exact ⟨_, fr_conv hf' hlo h0, h'⟩
              | goto l => exact he.elim
              | panic ch => exact he.elim
              | outgrown => exact he.elim
        · exact h.elim
    · rw [Q36 (fun b e => hl ⟨b, e⟩)] at h
      refine wp_block (Code.wp_mono (fun e a' w' he => ?_) (Q15 hm c lo _ f w a h hf))
      cases e with
      | normal => exact he
      | ret => exact he
      | exit id' =>
        obtain ⟨f', k, hk, hf', h'⟩ := he
        simp only [exget] at hk
        simp only [Exit.inBlock]
        cases hq : Nat.beq id id'
        · simp only [hq, cond_false] at hk
          have hne : id' ≠ id := fun e => by subst e; simp at hq
          rw [if_neg hne]
          exact ⟨f', k, hk, hf', h'⟩
        · have := Q0B hq
          subst this
          simp only [Nat.beq_refl, cond_true, Option.some.injEq] at hk
          subst hk
          simp only [if_true]
          exact ⟨f', hf', h'⟩
      | goto l => exact he.elim
      | panic ch => exact he.elim
      | outgrown => exact he.elim
  | .exit id, h =>
    simp only [mcode] at h
    split at h
    · rename_i k hk
      exact wp_exit ⟨f, k, hk, hf, h⟩
    · exact h.elim
  | .ret, h => exact wp_ret ⟨f, hf, h⟩
  | .loop _, h => exact h.elim
  | .rangeFunc .., h => exact h.elim
  | .scope _, h => exact h.elim
  | .label _, h => exact h.elim
  | .goto _, h => exact h.elim
  | .refuse _, h => exact h.elim
termination_by SizeOf.sizeOf c
end

/-! ### functions -/
def wrapR : List Value → Value
  | [v] => v
  | vs => .tuple vs.toArray
def mres (P : Program) (f : Fs) (w : World) : List ResultVar → List Value → (List Value → Prop) → Prop
  | [], acc, Φ => Φ acc
  | .tmp t :: r, acc, Φ => match get f t with | some v => mres P f w r (acc ++ [v]) Φ | none => False
  | .cell t ty :: r, acc, Φ => match get f t with | some (.pointer (some ad)) => mload P ty ad w (fun v _ => mres P f w r (acc ++ [v]) Φ) | _ => False
def argsF : List Value → Nat → Fs
  | [], _ => []
  | v :: r, i => (i, v) :: argsF r (i + 1)
def mfunc (P : Program) (H : Hints) (k : Nat) (args : List Value) (R : RW) (w : World) : Prop :=
  match P.funcs[k]? with
  | some fn =>
    match fn.body with
    | some c =>
      bif Nat.ble args.length fn.ntmps then
        mcode P H fn.ntmps c [] { n := fun f w => mres P f w fn.results.toList [] (fun vs => R (wrapR vs) w), r := fun f w => mres P f w fn.results.toList [] (fun vs => R (wrapR vs) w), ex := [] } (argsF args 0) w
      else False
    | none => False
  | none => False

section
variable {P : Program} {H : Hints}
theorem Q32 : ∀ {l : List Value} {i t : Nat} {v : Value}, get (argsF l i) t = some v → ∃ j, t = i + j ∧ l[j]? = some v
  | [], i, t, v, h => by simp [argsF, get] at h
  | x :: r, i, t, v, h => by
    simp only [argsF, get] at h
    cases hb : Nat.beq i t
    · simp only [hb, cond_false] at h
      obtain ⟨j, rfl, hj⟩ := Q32 h
      exact ⟨j + 1, by omega, by simpa using hj⟩
    · simp only [hb, cond_true, Option.some.injEq] at h
      have := Q0B hb
      exact ⟨0, by omega, by simp [h]⟩

def resG (tmps : Array Value) : ResultVar → Sem Value
  | .tmp t => pure (tmps.getD t undef)
  | .cell b t => do loadVar t (← asAddr (tmps.getD b undef))
theorem Q3K (fn : Func) (tmps : Array Value) : results fn tmps = (do
    let vs ← fn.results.mapM (resG tmps)
    pure (if h : vs.size = 1 then vs[0] else .tuple vs)) := by
  unfold results
  congr 1

theorem mres_ok {D : List Deferred} {n : Nat} {f : Fs} {w : World} {a : Act} (hf : Fr D n f a) : ∀ (l : List ResultVar) (acc : List Value) (Φ : List Value → Prop), mres P f w l acc Φ →
    ∃ vs, (l.mapM (resG a.tmps)).run P w = .ok vs w ∧ Φ (acc ++ vs)
  | [], acc, Φ, h => ⟨[], by simp, by simpa [mres] using h⟩
  | .tmp t :: r, acc, Φ, h => by
    simp only [mres] at h
    split at h
    · rename_i v hv
      obtain ⟨vs, h1, h2⟩ := mres_ok hf r _ Φ h
      have hg : a.tmps[t]? = some v := hf.at_ t v hv
      refine ⟨v :: vs, ?_, by simpa using h2⟩
      rw [List.mapM_cons]
      have hgd : (resG a.tmps (.tmp t)).run P w = .ok v w := by simp [resG, hg]
      simp only [Sem.run_bind, Sem.run_pure, Result.andThen_ok, h1, hgd]
    · exact h.elim
  | .cell t ty :: r, acc, Φ, h => by
    simp only [mres] at h
    split at h
    · rename_i ad hv
      obtain ⟨v, χ, h1, h2, h3⟩ := Q1V h
      obtain ⟨vs, h4, h5⟩ := mres_ok hf r _ Φ h3
      have hg : a.tmps[t]? = some (.pointer (some ad)) := hf.at_ t _ hv
      refine ⟨v :: vs, ?_, by simpa using h5⟩
      rw [List.mapM_cons]
      have hgd : (resG a.tmps (.cell t ty)).run P w = .ok v w := by simp [resG, hg, asAddr, h2 w h1]
      simp only [Sem.run_bind, Sem.run_pure, Result.andThen_ok, hgd, h4]
    · exact h.elim

theorem Q2s {D : List Deferred} {n : Nat} {f : Fs} {w : World} {a : Act} {fn : Func} (hf : Fr D n f a) {R : RW} (h : mres P f w fn.results.toList [] (fun vs => R (wrapR vs) w)) :
    ∃ v, (results fn a.tmps).run P w = .ok v w ∧ R v w := by
  obtain ⟨vs, h1, h2⟩ := mres_ok hf _ _ _ h
  simp only [List.nil_append] at h2
  refine ⟨wrapR vs, ?_, h2⟩
  rw [Q3K]
  have e : fn.results = fn.results.toList.toArray := by simp
  rw [e, List.mapM_toArray]
  simp only [Sem.run_bind, Sem.run_map]
  rw [h1]
  simp only [Result.andThen_ok, Sem.run_pure, List.size_toArray]
  congr 1
  match vs with
  | [] => rfl
  | [v] => rfl
  | x :: y :: r => simp [wrapR]

theorem Q0m (hm : P.follows .mixedOrders = true) {k : Nat} {args : List Value} {R : RW} {w : World} (h : mfunc P H k args R w) :
    Calls P k args.toArray w fun e w' => ∃ v, e = .returned v ∧ R v w' := by
  unfold mfunc at h
  split at h
  · rename_i fn hfn
    split at h
    · rename_i c hc
      cases hle : Nat.ble args.length fn.ntmps
      · simp [hle] at h
      · simp only [hle, cond_true] at h
        have hlen := Nat.le_of_ble_eq_true hle
        refine calls_of_wp hfn hc ?_
        have hfr : Fr [] fn.ntmps (argsF args 0 ++ []) { tmps := args.toArray ++ Array.replicate (fn.ntmps - args.toArray.size) undef, defers := [] } := by
          refine ⟨by simp; omega, rfl, fun t v ht => ?_⟩
          rw [List.append_nil] at ht
          obtain ⟨j, rfl, hj⟩ := Q32 ht
          have hjl := (List.getElem?_eq_some_iff.1 hj).1
          rw [Nat.zero_add, Array.getElem?_append_left (by simpa using hjl)]
          simpa using hj
        refine Code.wp_mono (fun e a w' he => ?_) (Q15 hm c [] _ _ w _ h hfr)
        cases e with
        | normal =>
          obtain ⟨f, hf, h⟩ := he
          rw [List.append_nil] at hf
          obtain ⟨v, h1, h2⟩ := Q2s hf h
          exact ⟨hf.defers, v, h1, v, rfl, h2⟩
        | ret =>
          obtain ⟨f, hf, h⟩ := he
          rw [List.append_nil] at hf
          obtain ⟨v, h1, h2⟩ := Q2s hf h
          exact ⟨hf.defers, v, h1, v, rfl, h2⟩
        | exit id => obtain ⟨f, k, hk, _⟩ := he; cases hk
        | goto l => exact he.elim
        | panic ch => exact he.elim
        | outgrown => exact he.elim
    · exact h.elim
  · exact h.elim
end
def thenW (w : World) (K : World → Prop) : Prop := K w
theorem Q01 {w : World} {K : World → Prop} (h : ∀ w', w' = w → K w') : thenW w K := h w rfl
abbrev blk (n : Nat) : Addr := ⟨n, 0, none⟩
end Go.Mx
set_option linter.unusedSectionVars false
namespace Go.Mx

/-! ### what stays -/
structure Ext (m : Nat → Prop) (w w' : World) : Prop where
  os : w'.os = w.os
  tape : w'.tape = w.tape
  output : w'.output = w.output
  size : w.heap.size ≤ w'.heap.size
  block : ∀ b, b < w.heap.size → ¬ m b → w'.heap[b]? = w.heap[b]?
def no : Nat → Prop := fun _ => False
section
variable {m m' : Nat → Prop} {w w1 w' : World}
theorem Ext.refl (m : Nat → Prop) (w : World) : Ext m w w := ⟨rfl, rfl, rfl, Nat.le_refl _, fun _ _ _ => rfl⟩
theorem Ext.trans (h : Ext m w w1) (k : Ext m w1 w') : Ext m w w' :=
  ⟨k.os.trans h.os, k.tape.trans h.tape, k.output.trans h.output, Nat.le_trans h.size k.size,
    fun b hb hm => (k.block b (Nat.lt_of_lt_of_le hb h.size) hm).trans (h.block b hb hm)⟩
theorem Ext.mono (h : Ext m w w') (hm : ∀ b, m b → b < w.heap.size → m' b) : Ext m' w w' :=
  ⟨h.os, h.tape, h.output, h.size, fun b hb hn => h.block b hb fun h' => hn (hm b h' hb)⟩
theorem Ext.none (h : Ext no w w') : Ext m w w' := h.mono fun _ h => h.elim
theorem Ext.drew (h : Ext m w w1) : Ext m w w1.drew := ⟨h.os, h.tape, h.output, h.size, h.block⟩
theorem Ext.alloc (h : Ext m w w1) (o : Obj) : Ext m w (w1.alloc o) :=
  h.trans ⟨rfl, rfl, rfl, by simp, fun b hb _ => heap_alloc_old w1 o b hb⟩
theorem Q0S (w : World) (a : Addr) (u : Value) (k : Nat) (h : k ≠ a.block) : (w.setCell a u).heap[k]? = w.heap[k]? := by
  simp only [World.setCell, Array.getElem?_modify]
  rw [if_neg (by omega)]
theorem Ext.setCell (h : Ext m w w1) {a : Addr} (ha : m a.block ∨ w.heap.size ≤ a.block) (u : Value) : Ext m w (w1.setCell a u) :=
  ⟨h.os, h.tape, h.output, by simpa using h.size, fun b hb hn => by
    rw [Q0S _ _ _ _ (fun e => by subst e; rcases ha with ha | ha; exact hn ha; omega)]
    exact h.block b hb hn⟩
theorem Ext.of_grown {row : Option Nat} (h : w.grownBy w' row) (hr : ∀ k, row = some k → m k ∨ w.heap.size ≤ k) : Ext m w w' :=
  ⟨h.os, h.tape, h.output, h.size, fun b hb hn => h.block b hb (fun e => by
    rcases hr b e.symm with h' | h'
    · exact hn h'
    · omega)⟩
theorem Ext.then (h : Ext m w w1) (k : Ext m' w1 w') (hm : ∀ b, m' b → m b ∨ w.heap.size ≤ b) : Ext m w w' :=
  ⟨k.os.trans h.os, k.tape.trans h.tape, k.output.trans h.output, Nat.le_trans h.size k.size,
    fun b hb hn => (k.block b (Nat.lt_of_lt_of_le hb h.size) (fun h' => by
      rcases hm b h' with h'' | h''
      · exact hn h''
      · omega)).trans (h.block b hb hn)⟩
theorem Ext.get (h : Ext m w w') {b : Nat} {o : Obj} (hb : w.heap[b]? = some o) (hn : ¬ m b) : w'.heap[b]? = some o :=
  (h.block b (Array.getElem?_eq_some_iff.1 hb).1 hn).trans hb
theorem Ext.cell (h : Ext m w w') {a : Addr} {v : Value} (hc : w.cell? a = some v) (hn : ¬ m a.block) : w'.cell? a = some v :=
  (World.cell?_of_block (h.block a.block (World.block_lt_of_cell? w a hc) hn)).trans hc
end

/-! ### a struct in a block of its own -/
def Blk (w : World) (b : Nat) (t : TypeId) (cs : List Value) : Prop := w.heap[b]? = some (.cells cs.toArray t (0, 0))
section
variable {w w' : World} {b : Nat} {t : TypeId} {cs : List Value}
theorem Blk.cell (h : Blk w b t cs) {i : Nat} {v : Value} (hv : cs[i]? = some v) : w.cell? ⟨b, i, none⟩ = some v := by
  simp only [Blk] at h
  simp [World.cell?, h, hv]
theorem Blk.lt (h : Blk w b t cs) : b < w.heap.size := (Array.getElem?_eq_some_iff.1 h).1
theorem Blk.free (h : Blk w b t cs) (a : Addr) (ha : a.block = b) : w.frozen? a = false := by
  simp only [Blk] at h
  simp [World.frozen?, ha, h]
theorem Blk.can (h : Blk w b t cs) {i : Nat} {v : Value} (hv : cs[i]? = some v) : Q06 w ⟨b, i, none⟩ := ⟨⟨v, h.cell hv⟩, h.free _ rfl⟩
theorem Blk.set (h : Blk w b t cs) (i : Nat) (v : Value) : Blk (w.setCell ⟨b, i, none⟩ v) b t (cs.set i v) := by
  simp only [Blk] at h ⊢
  simp only [World.setCell, Array.getElem?_modify, if_true, h, Option.map_some]
  simp
theorem Blk.set_other (h : Blk w b t cs) {a : Addr} (ha : b ≠ a.block) (v : Value) : Blk (w.setCell a v) b t cs := by
  simp only [Blk] at h ⊢
  rw [Q0S _ _ _ _ ha]; exact h
theorem Blk.ext {m : Nat → Prop} (h : Blk w b t cs) (k : Ext m w w') (hn : ¬ m b) : Blk w' b t cs := k.get h hn
theorem Blk.new (w : World) (t : TypeId) (cs : List Value) : Blk (w.alloc (.cells cs.toArray t)) w.heap.size t cs := heap_alloc_new w _
theorem Blk.alloc (h : Blk w b t cs) (o : Obj) : Blk (w.alloc o) b t cs := by
  simp only [Blk] at h ⊢
  rw [heap_alloc_old w o b (Array.getElem?_eq_some_iff.1 h).1]; exact h
end
theorem add_blk (b i : Nat) : (blk b).add i = ⟨b, i, none⟩ := by unfold Addr.add; split <;> simp_all [blk]
theorem Blk.cella {w : World} {b : Nat} {t : TypeId} {cs : List Value} (h : Blk w b t cs) {i : Nat} {v : Value} (hv : cs[i]? = some v) : w.cell? ((blk b).add i) = some v := by
  rw [add_blk]; exact h.cell hv
theorem Blk.cana {w : World} {b : Nat} {t : TypeId} {cs : List Value} (h : Blk w b t cs) {i : Nat} {v : Value} (hv : cs[i]? = some v) : Q06 w ((blk b).add i) := by
  rw [add_blk]; exact h.can hv
theorem Blk.seta {w : World} {b : Nat} {t : TypeId} {cs : List Value} (h : Blk w b t cs) (i : Nat) (v : Value) : Blk (w.setCell ((blk b).add i) v) b t (cs.set i v) := by
  rw [add_blk]; exact h.set i v
theorem add_zero (a : Addr) : a.add 0 = a := rfl
theorem Q22 (a : Addr) (i : Nat) : (a.add i).block = a.block := by unfold Addr.add; split <;> rfl

theorem info_of {P : Program} {e : TypeId} {z : Value} {size bytes : Nat} (h : (P.info? e).map (fun i => (i.zero, i.size, i.bytes)) = some (some z, size, bytes)) :
    ∃ i, P.info? e = some i ∧ i.zero = some z ∧ i.size = size ∧ i.bytes = bytes := by
  obtain ⟨i, hi, hzz⟩ := Option.map_eq_some_iff.1 h
  simp only [Prod.mk.injEq] at hzz
  exact ⟨i, hi, hzz.1, hzz.2.1, hzz.2.2⟩
/-! ### maps -/
section
variable {κ : Type} [DecidableEq κ]
def idx : List (κ × Value) → κ → Nat → Option (Nat × Value)
  | [], _, _ => none
  | p :: r, x, i => if p.1 = x then some (i, p.2) else idx r x (i + 1)
def mlook : List (κ × Value) → κ → Option Value
  | [], _ => none
  | p :: r, x => if p.1 = x then some p.2 else mlook r x
def mput : List (κ × Value) → κ → Value → List (κ × Value)
  | [], x, v => [(x, v)]
  | p :: r, x, v => if p.1 = x then (x, v) :: r else p :: mput r x v
theorem Q1T : ∀ {l : List (κ × Value)} {x : κ} {i j : Nat} {v : Value}, idx l x i = some (j, v) → ∃ k, j = i + k ∧ l[k]? = some (x, v) ∧ mlook l x = some v ∧ ∀ u, mput l x u = l.set k (x, u)
  | [], _, _, _, _, h => by simp [idx] at h
  | p :: r, x, i, j, v, h => by
    simp only [idx] at h
    by_cases hp : p.1 = x
    · simp only [hp, if_true, Option.some.injEq, Prod.mk.injEq] at h
      exact ⟨0, by omega, by simp [← h.2, ← hp], by simp [mlook, hp, h.2], fun u => by simp [mput, hp]⟩
    · simp only [hp, if_false] at h
      obtain ⟨k, rfl, h1, h2, h3⟩ := Q1T h
      exact ⟨k + 1, by omega, by simpa using h1, by simpa [mlook, hp] using h2, fun u => by simp [mput, hp, h3 u]⟩
theorem Q1N : ∀ {l : List (κ × Value)} {x : κ} {i : Nat}, idx l x i = none → mlook l x = none ∧ ∀ u, mput l x u = l ++ [(x, u)]
  | [], _, _, _ => ⟨rfl, fun u => rfl⟩
  | p :: r, x, i, h => by
    simp only [idx] at h
    by_cases hp : p.1 = x
    · simp [hp] at h
    · simp only [hp, if_false] at h
      obtain ⟨h1, h2⟩ := Q1N h
      exact ⟨by simp [mlook, hp, h1], fun u => by simp [mput, hp, h2 u]⟩

structure Keys (P : Program) (t : TypeId) (enc : κ → Value) : Prop where
  check : ∀ e x w, (Instr.checkKey e 10000 t (enc x)).run P w = .ok () w
  find : ∀ (x : κ) (es : List MapEntry) (l : List (κ × Value)), es.map (fun e => (e.key, e.val)) = l.map (fun p => (enc p.1, p.2)) → ∀ w,
    (Instr.findKey t (enc x) es).run P w = .ok (idx l x 0) w
  bits : ∀ x, Instr.sameBits 10000 (enc x) (enc x) = true
  
def MapIs (w : World) (r : Nat) (enc : κ → Value) (l : List (κ × Value)) : Prop :=
  ∃ es clock, w.heap[r]? = some (.map es clock) ∧ es.toList.map (fun e => (e.key, e.val)) = l.map (fun p => (enc p.1, p.2)) ∧
    (es.toList.map (·.born)).Pairwise (· < ·) ∧ ∀ e ∈ es.toList, e.born < clock

variable {P : Program} {w w' : World} {r : Nat} {enc : κ → Value} {l : List (κ × Value)}
theorem MapIs.new (w : World) (enc : κ → Value) : MapIs (w.alloc (.map #[] 0)) w.heap.size enc [] :=
  ⟨#[], 0, heap_alloc_new w _, by simp, by simp, by simp⟩
theorem MapIs.lt (h : MapIs w r enc l) : r < w.heap.size := by
  obtain ⟨es, clock, h, _⟩ := h; exact (Array.getElem?_eq_some_iff.1 h).1
theorem MapIs.ext {m : Nat → Prop} (h : MapIs w r enc l) (k : Ext m w w') (hn : ¬ m r) : MapIs w' r enc l := by
  obtain ⟨es, clock, h, h2⟩ := h; exact ⟨es, clock, k.get h hn, h2⟩
theorem Q0M {es : Array MapEntry} {clock : Nat} (h : w.heap[r]? = some (.map es clock)) : (getObj r).run P w = .ok (.map es clock) w := by
  simp [getObj, Sem.run, h]
theorem Q1s {e : TypeId} {i : TypeInfo} {z : Value} (hi : P.info? e = some i) (hz : i.zero = some z) (w : World) : (zeroValue e).run P w = .ok z w := by
  simp [zeroValue, run_typeInfo' hi, hz]

theorem MapIs.lookup {t kt et : TypeId} {i : TypeInfo} {z : Value} (h : MapIs w r enc l) (K : Keys P kt enc) (ht : P.underlying t = some (.map kt et)) (hi : P.info? et = some i) (hz : i.zero = some z) (x : κ) (ok : Bool) :
    (Instr.lookup t (.map (some r)) (enc x) ok).run P w = .ok (if ok then .tuple #[(mlook l x).getD z, .bool (mlook l x).isSome] else (mlook l x).getD z) w := by
  obtain ⟨es, clock, hr, hl, _⟩ := h
  simp only [Instr.lookup, Sem.run_bind, run_underlying' ht, Result.andThen_ok, Q0M hr, Sem.run_pure, K.check, K.find x _ _ hl]
  cases hx : idx l x 0 with
  | none =>
    obtain ⟨h1, _⟩ := Q1N hx
    simp only [Sem.run_bind, Q1s hi hz, Result.andThen_ok, Sem.run_pure, h1]
    cases ok <;> rfl
  | some p =>
    obtain ⟨j, v⟩ := p
    obtain ⟨k, _, _, h1, _⟩ := Q1T hx
    simp only [Sem.run_pure, Result.andThen_ok, h1]
    cases ok <;> rfl

theorem Q0J {es es' : Array MapEntry} {clock c' : Nat} (h : w.heap[r]? = some (.map es clock)) :
    (setObj r (.map es' c')).run P w = .ok () { w with heap := w.heap.setIfInBounds r (.map es' c') } := by
  simp [setObj, Sem.run, h]
theorem Ext.setObj {m : Nat → Prop} (o : Obj) (hm : m r) : Ext m w { w with heap := w.heap.setIfInBounds r o } :=
  ⟨rfl, rfl, rfl, by simp, fun b hb hn => by
    have : r ≠ b := fun e => hn (e ▸ hm)
    simp [Array.getElem?_setIfInBounds_ne this]⟩
theorem Q0Z {o : Obj} (h : r < w.heap.size) : ({ w with heap := w.heap.setIfInBounds r o } : World).heap[r]? = some o := by
  simp [h]

theorem Q2i {es : Array MapEntry} {l : List (κ × Value)} (hl : es.toList.map (fun e => (e.key, e.val)) = l.map (fun p => (enc p.1, p.2))) {k : Nat} {x : κ} {v : Value}
    (hk : l[k]? = some (x, v)) (u : Value) : ((es.modify k fun e => { e with key := enc x, val := u }).toList.map fun e => (e.key, e.val)) = (l.set k (x, u)).map fun p => (enc p.1, p.2) := by
  apply List.ext_getElem?
  intro j
  have hj := congrArg (fun L => L[j]?) hl
  simp only [List.getElem?_map, Array.getElem?_toList] at hj
  simp only [List.getElem?_map, Array.getElem?_toList, Array.getElem?_modify, List.getElem?_set]
  by_cases hjk : k = j
  · subst hjk
    have hlt := (List.getElem?_eq_some_iff.1 hk).1
    simp only [if_true, hlt]
    cases he : es[k]? with
    | none => rw [he, hk] at hj; simp at hj
    | some e => simp
  · simp only [hjk, if_false]
    exact hj
theorem Q0K (es : Array MapEntry) (k : Nat) (f : MapEntry → MapEntry) (hf : ∀ e, (f e).born = e.born) : ((es.modify k f).toList.map (·.born)) = es.toList.map (·.born) := by
  apply List.ext_getElem?
  intro j
  simp only [List.getElem?_map, Array.getElem?_toList, Array.getElem?_modify]
  split
  · cases es[j]? <;> simp [hf]
  · rfl
theorem born_lt {es : Array MapEntry} {clock : Nat} (h : ∀ e ∈ es.toList, e.born < clock) : ∀ b ∈ es.toList.map (·.born), b < clock := by
  intro b hb
  obtain ⟨e, he, rfl⟩ := List.mem_map.1 hb
  exact h e he

theorem MapIs.update {t kt et : TypeId} (h : MapIs w r enc l) (K : Keys P kt enc) (ht : P.underlying t = some (.map kt et)) (x : κ) (v : Value) :
    ∃ w', (Instr.mapUpdate t (.map (some r)) (enc x) v).run P w = .ok () w' ∧ MapIs w' r enc (mput l x v) ∧ ∀ m : Nat → Prop, m r → Ext m w w' := by
  have hlt := h.lt
  obtain ⟨es, clock, hr, hl, hb, hc⟩ := h
  cases hx : idx l x 0 with
  | none =>
    obtain ⟨_, h1⟩ := Q1N hx
    refine ⟨_, ?_, ⟨es.push { key := enc x, val := v, born := clock }, clock + 1, Q0Z hlt, ?_, ?_, ?_⟩, fun m hm => Ext.setObj _ hm⟩
    · simp only [Instr.mapUpdate, Sem.run_bind, run_underlying' ht, Result.andThen_ok, Q0M hr, K.check, K.find x _ _ hl, hx, Q0J hr]
    · simp [h1, hl]
    · simp only [Array.toList_push, List.map_append, List.map_cons, List.map_nil, List.pairwise_append, hb, true_and]
      exact ⟨by simp, fun a ha b hb' => by simp at hb'; subst hb'; exact born_lt hc a ha⟩
    · intro e he
      simp only [Array.toList_push, List.mem_append, List.mem_singleton] at he
      rcases he with he | rfl
      · have := hc e he; omega
      · simp
  | some p =>
    obtain ⟨j, u⟩ := p
    obtain ⟨k, hj, hk, _, h1⟩ := Q1T hx
    obtain rfl : j = k := by omega
    have hek : ((es[j]?).map (·.key)).getD (enc x) = enc x := by
      have hjj := congrArg (fun L => L[j]?) hl
      simp only [List.getElem?_map, Array.getElem?_toList, hk, Option.map_some] at hjj
      cases he : es[j]? with
      | none => rfl
      | some e => rw [he] at hjj; simp at hjj; simp [hjj.1]
    refine ⟨_, ?_, ⟨es.modify j fun e => { e with key := enc x, val := v }, clock, Q0Z hlt, ?_, ?_, ?_⟩, fun m hm => Ext.setObj _ hm⟩
    · simp only [Instr.mapUpdate, Sem.run_bind, run_underlying' ht, Result.andThen_ok, Q0M hr, K.check, K.find x _ _ hl, hx, hek, Instr.keyThatStays, K.bits, if_true, Sem.run_pure, Q0J hr]
    · rw [h1]; exact Q2i hl hk v
    · rw [Q0K]; exact hb; intro e; rfl
    · intro e he
      have := List.mem_map_of_mem (f := fun e : MapEntry => e.born) he
      rw [Q0K es j (fun e => { e with key := enc x, val := v }) (fun e => rfl)] at this
      exact born_lt hc _ this

theorem MapIs.len {t kt et : TypeId} {ty : TypeId} (h : MapIs w r enc l) (ht : P.underlying t = some (.map kt et)) :
    (Builtin.len_ #[t] ty #[.map (some r)]).run P w = .ok (.int .i64 l.length) w := by
  obtain ⟨es, clock, hr, hl, _⟩ := h
  have : es.size = l.length := by
    have := congrArg List.length hl
    simpa using this
  simp [Builtin.len_, run_underlying' ht, Q0M hr, goInt, this]
end

theorem Q1z {P : Program} {t : TypeId} {k : IntKind} (ht : P.underlying t = some (.int k)) : Keys P t (fun n : Int => Value.int k n) where
  check := fun e x w => by
    have h : ∀ n, (Instr.checkKey e (n + 1) t (.int k x)).run P w = .ok () w := fun n => by simp [Instr.checkKey, run_underlying' ht]
    exact h 9999
  find := fun x es l hl w => by
    have h : ∀ (es : List MapEntry) (l : List (Int × Value)) (i : Nat), es.map (fun e => (e.key, e.val)) = l.map (fun p => (Value.int k p.1, p.2)) →
        Instr.findNow (.int k) (.int k x) es i = some (idx l x i) := by
      intro es
      induction es with
      | nil =>
        intro l i hl
        have : l = [] := by cases l <;> simp at hl ⊢
        subst this; rfl
      | cons e r ih =>
        intro l i hl
        cases l with
        | nil => simp at hl
        | cons p q =>
          simp only [List.map_cons, List.cons.injEq, Prod.mk.injEq] at hl
          obtain ⟨⟨h1, h2⟩, h3⟩ := hl
          simp only [Instr.findNow, h1, Instr.sameNow, if_true, idx]
          by_cases hp : p.1 = x
          · subst hp; simp [h2]
          · have : (x == p.1) = false := by simpa using fun e => hp e.symm
            simp only [this, hp, if_false]
            exact ih q (i + 1) h3
    simp [Instr.findKey, run_underlying' ht, h es l 0 hl]
  bits := fun x => by simp [Instr.sameBits]

def strV (s : List UInt8) : Value := .string ⟨s.toArray⟩
theorem Q1W (a b : List UInt8) : ((⟨a.toArray⟩ : ByteArray) == ⟨b.toArray⟩) = decide (a = b) := by
  show ByteArray.beq _ _ = _
  rw [Bool.eq_iff_iff]
  simp [ByteArray.beq]
end Go.Mx
namespace Go.Mx

def RowAt (w : World) (a : Option Addr) (cs : List Value) : Prop := ∀ i v, cs[i]? = some v → ∃ ad, a = some ad ∧ w.cell? (ad.add i) = some v
def Out (m : Nat → Prop) (a : Option Addr) : Prop := ∀ ad, a = some ad → ¬ m ad.block
section
variable {w w' : World} {m : Nat → Prop} {a : Option Addr} {cs : List Value}
theorem RowAt.nil (w : World) (a : Option Addr) : RowAt w a [] := fun i v h => by simp at h
theorem RowAt.ext (h : RowAt w a cs) (k : Ext m w w') (ho : Out m a) : RowAt w' a cs := fun i v hv => by
  obtain ⟨ad, ha, hc⟩ := h i v hv
  exact ⟨ad, ha, k.cell hc (by rw [Q22]; exact ho ad ha)⟩
theorem RowAt.ext' (h : RowAt w a cs) (k : Ext m w w') (ho : cs ≠ [] → Out m a) : RowAt w' a cs := fun i v hv => by
  obtain ⟨ad, ha, hc⟩ := h i v hv
  exact ⟨ad, ha, k.cell hc (by rw [Q22]; exact ho (fun e => by subst e; simp at hv) ad ha)⟩
theorem RowAt.lt (h : RowAt w a cs) (h0 : cs ≠ []) {ad : Addr} (ha : a = some ad) : ad.block < w.heap.size := by
  cases cs with
  | nil => exact absurd rfl h0
  | cons v r =>
    obtain ⟨ad', ha', hc⟩ := h 0 v rfl
    rw [ha] at ha'; cases ha'
    exact World.block_lt_of_cell? w _ hc
theorem RowAt.no (h : RowAt w a cs) (k : Ext no w w') : RowAt w' a cs := h.ext k fun _ _ h => h
theorem RowAt.addr (h : RowAt w a cs) (h0 : cs ≠ []) : ∃ ad, a = some ad := by
  cases cs with
  | nil => exact absurd rfl h0
  | cons v r => obtain ⟨ad, ha, _⟩ := h 0 v rfl; exact ⟨ad, ha⟩
theorem RowAt.at_ {ad : Addr} (h : RowAt w (some ad) cs) {i : Nat} {v : Value} (hv : cs[i]? = some v) : w.cell? (ad.add i) = some v := by
  obtain ⟨ad', ha, hc⟩ := h i v hv
  cases ha; exact hc
theorem add_add (a : Addr) (i j : Nat) : (a.add i).add j = a.add (i + j) := by
  unfold Addr.add
  by_cases hi : i = 0
  · simp [hi]
  · by_cases hj : j = 0
    · simp [hi, hj]
    · simp [hi, hj]; omega
theorem RowAt.drop (h : RowAt w a cs) (k c : Nat) (hc : c = k → cs.length ≤ k) : RowAt w (if c = k then a else a.map (·.add k)) (cs.drop k) := fun i v hv => by
  rw [List.getElem?_drop] at hv
  obtain ⟨ad, ha, hcell⟩ := h (k + i) v hv
  have hne : c ≠ k := fun e => by
    have h1 := hc e
    have h2 := (List.getElem?_eq_some_iff.1 hv).1
    omega
  rw [if_neg hne, ha]
  exact ⟨ad.add k, rfl, by rw [add_add]; exact hcell⟩
theorem RowAt.of_owns {base e size n : Nat} {v : Value} {xs : List Value} (h : w.ownsRow base e size v n xs) : ∃ a c, v = .slice a n c ∧ RowAt w a xs := by
  rcases h.2 with ⟨hv, hn⟩ | ⟨g, cap, cur, hv, hb, hg, hnc, hcm, hs, ht⟩
  · subst hn
    have : xs = [] := List.eq_nil_of_length_eq_zero (by simpa using h.1)
    subst this
    exact ⟨none, 0, hv, RowAt.nil w none⟩
  · refine ⟨_, cap, hv, fun i u hu => ⟨_, rfl, ?_⟩⟩
    exact h.cells (g := g) (by rw [hv]; rfl) i u hu
theorem RowAt.loads (h : RowAt w a cs) {ad : Addr} (ha : a = some ad) : cellsAt w ad cs 0 := by
  have key : ∀ (r : List Value) (i : Nat), (∀ j v, r[j]? = some v → w.cell? (ad.add (i + j)) = some v) → cellsAt w ad r i := by
    intro r
    induction r with
    | nil => intro i _; trivial
    | cons v r ih =>
      intro i hr
      refine ⟨by simpa using hr 0 v rfl, ih (i + 1) fun j u hu => ?_⟩
      have := hr (j + 1) u (by simpa using hu)
      rw [show i + 1 + j = i + (j + 1) by omega]; exact this
  refine key cs 0 fun j v hv => ?_
  subst ha
  simpa using h.at_ hv
end

/-! ### append -/
theorem Q1h {P : Program} {w : World} {t ty e : TypeId} {i : TypeInfo} {z : Value} {size bytes : Nat} (ht : P.underlying t = some (.slice e)) (hi : P.info? e = some i) (hz : i.zero = some z)
    (hsize : i.size = size) (hby : i.bytes = bytes) (hzs : z.cells.size = size) (hsz : 0 < size)
    {v : Value} {n : Nat} {xs : List Value} (hown : w.ownsRow 0 e size v n xs)
    {xa : Option Addr} {m c : Nat} {news : List Value} (hl : news.length = m * size) (hnews : RowAt w xa news) (h1 : ∀ u ∈ news, u.oneCell' = true)
    (hbytes : (n + m) * bytes ≤ 140737488355328) (h63 : n + m ≤ 9223372036854775807) :
    ∃ a' c' w', (Builtin.append_ #[t, t] ty #[v, .slice xa m c]).run P w = .ok (.slice a' (n + m) c') w' ∧ w'.ownsRow 0 e size (.slice a' (n + m) c') (n + m) (xs ++ news) ∧ w.grownBy w' v.ownBlock ∧
      ((Value.slice a' (n + m) c').ownBlock = v.ownBlock ∨ (Value.slice a' (n + m) c').ownBlock = some w.heap.size) := by
  cases xa with
  | some a =>
    obtain ⟨v', w', h1, h2, h3, _, h5⟩ := run_append_own_at (P := P) w 0 t ty e i z size bytes ht hi hz hsize hby hzs hsz v n xs hown a m c news hl (fun j u hu => hnews.at_ hu) h1
      (by unfold maxLen; omega) hbytes (Nat.zero_le _)
    obtain ⟨a', c', hv, _⟩ := RowAt.of_owns h2
    subst hv
    exact ⟨a', c', w', h1, h2, h3, h5⟩
  | none =>
    have hn : news = [] := by
      cases news with
      | nil => rfl
      | cons u r => obtain ⟨ad, ha, _⟩ := hnews 0 u rfl; cases ha
    subst hn
    have hm : m = 0 := by
      have h0 : 0 = m * size := by simpa using hl
      rcases Nat.mul_eq_zero.1 h0.symm with h | h <;> omega
    subst hm
    obtain ⟨a', c', hv, _⟩ := RowAt.of_owns hown
    subst hv
    refine ⟨a', c', w, ?_, by simpa using hown, ⟨rfl, rfl, rfl, Nat.le_refl _, fun _ _ _ => rfl⟩, .inl rfl⟩
    have hle : n ≤ c' := by
      rcases hown.2 with ⟨h, h'⟩ | ⟨g, cap, cur, h, _, _, hh, _⟩
      · omega
      · cases h; exact hh
    cases a' with
    | none => simp [Builtin.append_, run_underlying' ht, sizeOf, run_typeInfo' hi, Builtin.lenOf, hle, Builtin.firstCells]
    | some ad => simp [Builtin.append_, run_underlying' ht, sizeOf, run_typeInfo' hi, Builtin.lenOf, hle, Builtin.firstCells, storeCells]

/-! ### bytes -/
def u8V (b : UInt8) : Value := .int .u8 (b.toNat : Int)
def bytesV (bs : List UInt8) : List Value := bs.map u8V
theorem Q12 (bs : List UInt8) : (bytesV bs).length = bs.length := by simp [bytesV]
theorem Q2k (bs : List UInt8) : ∀ u ∈ bytesV bs, u.oneCell' = true := by
  intro u hu
  obtain ⟨b, _, rfl⟩ := List.mem_map.1 hu
  rfl
theorem Q2x {bs : List UInt8} {i : Nat} (h : i < bs.length) : (bytesV bs)[i]? = some (.int .u8 (bs[i].toNat : Int)) := by
  simp [bytesV, h, u8V]

theorem Q1Q {P : Program} {w : World} {src dst e : TypeId} (hs : P.underlying src = some (.slice e)) (he : P.underlying e = some (.int .u8)) (hd : P.underlying dst = some .string)
    {a : Option Addr} {c : Nat} {bs : List UInt8} (h : RowAt w a (bytesV bs)) : (convert src dst (.slice a bs.length c)).run P w = .ok (strV bs) w := by
  rw [run_convert_bytes_string w src dst e _ _ c hs he hd]
  cases a with
  | none =>
    have : bs = [] := by
      cases bs with
      | nil => rfl
      | cons b r => obtain ⟨ad, ha, _⟩ := h 0 (u8V b) rfl; cases ha
    subst this
    simp [Conv.bytesToString, strV]
    rfl
  | some ad =>
    have hl : (loadCells ad bs.length).run P w = .ok ((bs.map fun b => (b.toNat : Int)).map (Value.int .u8)).toArray w := by
      have := Q0G (P := P) (bytesV bs) 0 #[] (h.loads rfl)
      rw [Q12] at this
      simp only [loadCells, this]
      congr 1
      apply Array.ext'
      simp [bytesV, u8V]
    rw [run_bytesToString w ad bs.length c _ hl, foldl_push_bytes]
    have e : (bs.map fun b => (b.toNat : Int)).map (fun n => UInt8.ofNat n.toNat) = bs := by
      rw [List.map_map]
      conv => rhs; rw [← List.map_id bs]
      refine List.map_congr_left fun b _ => ?_
      simp
    rw [e]
    simp [strV, ByteArray.empty, ByteArray.emptyWithCapacity]
    rfl

theorem Q2U {P : Program} {w : World} {t e : TypeId} (hs : P.underlying t = some (.slice e)) (he : P.underlying e = some (.int .u8)) {b n c : Nat} {cs : List Value} (hb : Blk w b e cs) :
    (convert t t (.slice (some ⟨b, 0, none⟩) n c)).run P w = .ok (.slice (some ⟨b, 0, none⟩) n c) (w.freeze ⟨b, cs.length, none⟩ 1) := by
  simp only [Blk] at hb
  have hsh : w.shape? b = some (e, cs.length) := by simp [World.shape?, hb]
  simp [convert, run_underlying' hs, run_underlying' he, markStringish, hsh]
theorem Q3c (w : World) (x a : Addr) (n : Nat) : (w.freeze x n).cell? a = w.cell? a := by
  unfold World.freeze
  split
  · rfl
  · simp only [World.cell?, Array.getElem?_modify]
    by_cases h : x.block = a.block
    · simp only [h, if_true]
      cases w.heap[a.block]? with
      | none => rfl
      | some o => cases o <;> rfl
    · simp [h]
theorem Ext.freeze {m : Nat → Prop} {w w1 : World} (h : Ext m w w1) {x : Addr} (hx : m x.block ∨ w.heap.size ≤ x.block) (n : Nat) : Ext m w (w1.freeze x n) := by
  unfold World.freeze
  split
  · exact h
  · refine ⟨h.os, h.tape, h.output, by simpa using h.size, fun b hb hn => ?_⟩
    have hne : ¬ x.block = b := fun e => by
      subst e
      rcases hx with hx | hx
      · exact hn hx
      · omega
    simp only [Array.getElem?_modify, hne, if_false]
    exact h.block b hb hn
theorem RowAt.freeze {w : World} {a : Option Addr} {cs : List Value} (h : RowAt w a cs) (x : Addr) (n : Nat) : RowAt (w.freeze x n) a cs := fun i v hv => by
  obtain ⟨ad, ha, hc⟩ := h i v hv
  exact ⟨ad, ha, by rw [Q3c]; exact hc⟩
theorem RowAt.of_blk {w : World} {b : Nat} {t : TypeId} {cs : List Value} (h : Blk w b t cs) : RowAt w (some ⟨b, 0, none⟩) cs := fun i v hv =>
  ⟨_, rfl, by rw [add_blk]; exact h.cell hv⟩
theorem Q13 {w : World} {b : Nat} {e : TypeId} {size n : Nat} {cs : List Value} (h : Blk w b e cs) (hl : cs.length = n * size) (hn : n ≤ maxLen) : w.ownsRow 0 e size (.slice (some ⟨b, 0, none⟩) n n) n cs :=
  ⟨hl, .inr ⟨b, n, cs.toArray, rfl, Nat.zero_le _, h, Nat.le_refl _, hn, by simpa using hl, by simp [← hl]⟩⟩
/-! ### copies -/
def Fresh (w w' : World) (a : Option Addr) : Prop := ∀ ad, a = some ad → w.heap.size ≤ ad.block ∧ ad.block < w'.heap.size
theorem Fresh.out {w w' : World} {a : Option Addr} {m : Nat → Prop} (h : Fresh w w' a) (hm : ∀ b, m b → b < w.heap.size ∨ w'.heap.size ≤ b) : Out m a := fun ad ha hb => by
  have h1 := h ad ha
  rcases hm _ hb with h2 | h2 <;> omega
theorem Q0R {w1 : World} {base e size n : Nat} {a : Option Addr} {k c : Nat} {xs : List Value} (h : w1.ownsRow base e size (.slice a k c) n xs) :
    n ≤ c ∧ ∀ ad, a = some ad → ad.block < w1.heap.size := by
  rcases h.2 with ⟨hv, hn⟩ | ⟨g, cap, cur, hv, hb, hg, hnc, hcm, hs, ht⟩
  · cases hv; subst hn; exact ⟨Nat.zero_le _, fun ad ha => by cases ha⟩
  · cases hv; exact ⟨hnc, fun ad ha => by cases ha; exact (Array.getElem?_eq_some_iff.1 hg).1⟩
theorem Q49 {P : Program} {w : World} {t ty e : TypeId} {i : TypeInfo} {z : Value} {bytes : Nat} (ht : P.underlying t = some (.slice e)) (hi : P.info? e = some i) (hz : i.zero = some z)
    (hsize : i.size = 1) (hby : i.bytes = bytes) (hzs : z.cells.size = 1) {xa : Option Addr} {m c : Nat} {news : List Value} (hl : news.length = m) (hnews : RowAt w xa news) (h1 : ∀ u ∈ news, u.oneCell' = true)
    (hbytes : m * bytes ≤ 140737488355328) (h63 : m ≤ 9223372036854775807) :
    ∃ a' c' w', (Builtin.append_ #[t, t] ty #[.slice (some (blk w.heap.size)) 0 0, .slice xa m c]).run P (w.alloc (.cells #[] e)) = .ok (.slice a' m c') w' ∧ m ≤ c' ∧ RowAt w' a' news ∧ Ext no w w' ∧ Fresh w w' a' := by
  have hlt : ∀ ad, xa = some ad → news ≠ [] → ad.block < w.heap.size := fun ad ha hn => by
    cases hc : news with
    | nil => exact absurd hc hn
    | cons u r =>
      obtain ⟨ad', h', hcell⟩ := hnews 0 u (by rw [hc]; rfl)
      have : w.cell? ad = some u := by rw [ha] at h'; cases h'; exact hcell
      exact World.block_lt_of_cell? w _ this
  have e1 : Ext no w (w.alloc (.cells #[] e)) := (Ext.refl _ _).alloc _
  have hown : (w.alloc (.cells #[] e)).ownsRow 0 e 1 (.slice (some (blk w.heap.size)) 0 0) 0 [] := Q13 (Blk.new w e []) rfl (Nat.zero_le _)
  obtain ⟨a', c', w', hr, ho, hg, hb⟩ := Q1h (ty := ty) ht hi hz hsize hby hzs (Nat.zero_lt_one) hown (xa := xa) (m := m) (c := c) (by simpa using hl) (hnews.ext e1 (fun _ _ h => h)) h1 (by simpa using hbytes) (by simpa using h63)
  rw [Nat.zero_add] at hr ho hb
  rw [List.nil_append] at ho
  obtain ⟨a2, c2, hv, hrow⟩ := RowAt.of_owns ho
  cases hv
  refine ⟨a', c', w', hr, (Q0R ho).1, hrow, ?_, fun ad ha => ⟨?_, (Q0R ho).2 ad ha⟩⟩
  · exact e1.then (m' := fun b => b = w.heap.size) (Ext.of_grown hg fun k hk => by left; simpa [Value.ownBlock, blk, eq_comm] using hk) (fun b hb => .inr (by omega))
  · subst ha
    rcases hb with h | h <;> simp only [Value.ownBlock, Option.some.injEq, blk] at h <;> have h2 : (w.alloc (.cells #[] e)).heap.size = w.heap.size + 1 := (by simp) <;> omega
theorem RowAt.none_nil {w : World} {cs : List Value} (h : RowAt w none cs) : cs = [] := by
  cases cs with
  | nil => rfl
  | cons u r => obtain ⟨ad, ha, _⟩ := h 0 u rfl; cases ha

theorem Q3I {P : Program} {w : World} {t ty e : TypeId} {i : TypeInfo} {z : Value} {bytes : Nat} (ht : P.underlying t = some (.slice e)) (hi : P.info? e = some i) (hz : i.zero = some z)
    (hsize : i.size = 1) (hby : i.bytes = bytes) (hzs : z.cells.size = 1) {xa : Option Addr} {m c : Nat} {news : List Value} (hl : news.length = m) (hnews : RowAt w xa news) (h1 : ∀ u ∈ news, u.oneCell' = true)
    (hbytes : m * bytes ≤ 140737488355328) (h63 : m ≤ 9223372036854775807) :
    ∃ a' c' w', (Builtin.append_ #[t, t] ty #[.slice (some (blk w.heap.size)) 0 0, .slice xa m c]).run P (w.alloc (.cells #[] e)) = .ok (.slice a' m c') w' ∧ m ≤ c' ∧ w'.ownsRow 0 e 1 (.slice a' m c') m news ∧ RowAt w' a' news ∧ Ext no w w' ∧ Fresh w w' a' := by
  have e1 : Ext no w (w.alloc (.cells #[] e)) := (Ext.refl _ _).alloc _
  have hown : (w.alloc (.cells #[] e)).ownsRow 0 e 1 (.slice (some (blk w.heap.size)) 0 0) 0 [] := Q13 (Blk.new w e []) rfl (Nat.zero_le _)
  obtain ⟨a', c', w', hr, ho, hg, hb⟩ := Q1h (ty := ty) ht hi hz hsize hby hzs (Nat.zero_lt_one) hown (xa := xa) (m := m) (c := c) (by simpa using hl) (hnews.ext e1 (fun _ _ h => h)) h1 (by simpa using hbytes) (by simpa using h63)
  rw [Nat.zero_add] at hr ho hb
  rw [List.nil_append] at ho
  obtain ⟨a2, c2, hv, hrow⟩ := RowAt.of_owns ho
  cases hv
  refine ⟨a', c', w', hr, (Q0R ho).1, ho, hrow, ?_, fun ad ha => ⟨?_, (Q0R ho).2 ad ha⟩⟩
  · exact e1.then (m' := fun b => b = w.heap.size) (Ext.of_grown hg fun k hk => by left; simpa [Value.ownBlock, blk, eq_comm] using hk) (fun b hb => .inr (by omega))
  · subst ha
    rcases hb with h | h <;> simp only [Value.ownBlock, Option.some.injEq, blk] at h <;> have h2 : (w.alloc (.cells #[] e)).heap.size = w.heap.size + 1 := (by simp) <;> omega
end Go.Mx
namespace Go.Mx
open Go.RowKit

structure Opens (P : Program) (t : TypeId) (Q : World → List Value → Prop) : Prop where
  on : ∀ {H : Type} (enc : TypeId × Value → H) (W : World) (base : Nat) (sp : Nat → Bool) (held : Bool) (n : Nat) (cs : List Value) (x : DataW H × List MemPlace), DataW.trod enc P W base sp held n t cs = some x → Q W cs
section
variable {P : Program} {t e : TypeId}
theorem Q0I {k : IntKind} (ht : P.underlying t = some (.int k)) : Opens P t fun _ cs => ∃ n, cs = [.int k n] ∧ (Lit.int k n).wf = true := .mk fun enc W base sp held n cs x h => by
  obtain ⟨n, h1, _, h2⟩ := DataW.trod_int ht h
  exact ⟨n, h1, h2⟩
theorem Q1A {W : World} {a : Addr} {size : Nat} : ∀ (rows : List (List Value)) (k : Nat), (∀ j r, rows[j]? = some r → r.length = size ∧ RowAt W (some (a.add ((k + j) * size))) r) → RowAt W (some (a.add (k * size))) rows.flatten
  | [], k, _ => RowAt.nil _ _
  | r :: rs, k, h => fun i v hv => by
    obtain ⟨hl, hr⟩ := h 0 r rfl
    have ih := Q1A rs (k + 1) fun j r' hj => by
      have := h (j + 1) r' (by simpa using hj)
      rwa [show k + (j + 1) = k + 1 + j by omega] at this
    rw [List.flatten_cons] at hv
    by_cases hi : i < r.length
    · rw [List.getElem?_append_left hi] at hv
      exact hr i v hv
    · rw [List.getElem?_append_right (by omega)] at hv
      refine ⟨_, rfl, ?_⟩
      have := ih.at_ hv
      rw [add_add] at this ⊢
      rwa [show (k + 1) * size + (i - r.length) = k * size + i by rw [Nat.add_mul, hl]; omega] at this
theorem Q21 {W : World} {base n : Nat} {a : Addr} {cs : List Value} (h : W.cells? base a n = some cs) : cs.length = n ∧ RowAt W (some a) cs := by
  obtain ⟨h1, h2, h3⟩ := World.cells?_some h
  refine ⟨h2, fun i v hv => ⟨a, rfl, ?_⟩⟩
  have hi := (List.getElem?_eq_some_iff.1 hv).1
  rw [h3 i (by omega), hv]
theorem Q1r {size : Nat} {Q : World → List Value → Prop} (ht : P.underlying t = some (.slice e)) (hs : P.cellsOf e = size) (he : Opens P e Q) :
    Opens P t fun W cs => ∃ (a : Option Addr) (l c : Nat) (rows : List (List Value)), cs = [.slice a l c] ∧ l ≤ c ∧ c ≤ maxLen ∧ rows.length = l ∧ RowAt W a rows.flatten ∧ (∀ r ∈ rows, r.length = size ∧ Q W r) := .mk fun enc W base sp held n cs x h => by
  rcases DataW.trod_slice ht h with ⟨h1, _⟩ | ⟨a, len, cap, elems, rest, m, _, h1, _, _, h2, h3, h4, h5, _⟩
  · exact ⟨none, 0, 0, [], h1, Nat.le_refl _, Nat.zero_le _, rfl, RowAt.nil _ _, by simp⟩
  · rw [hs] at h5
    have key : ∀ i, i < len → ∃ r, W.cells? base (a.add (i * size)) size = some r ∧ Q W r := fun i hi => by
      have := h5 i hi
      rw [List.getElem?_eq_getElem (by omega)] at this
      obtain ⟨r, hr, hq⟩ := Option.bind_eq_some_iff.1 this
      exact ⟨r, hr, he.on enc W base sp held m r _ hq⟩
    have hrow : ∀ j, ((List.range len).map fun i => (W.cells? base (a.add (i * size)) size).getD [])[j]? = if j < len then some ((W.cells? base (a.add (j * size)) size).getD []) else none := fun j => by
      rw [List.getElem?_map]
      by_cases hj : j < len
      · rw [List.getElem?_range hj]; simp [hj]
      · rw [List.getElem?_eq_none (by simpa using hj)]; simp [hj]
    refine ⟨some a, len, cap, (List.range len).map fun i => (W.cells? base (a.add (i * size)) size).getD [], h1, h2, h3, by simp, ?_, ?_⟩
    · have := Q1A (W := W) (a := a) (size := size) ((List.range len).map fun i => (W.cells? base (a.add (i * size)) size).getD []) 0 fun j r hj => by
        rw [hrow] at hj
        split at hj
        · obtain ⟨r', hr, _⟩ := key j ‹_›
          rw [hr] at hj
          cases hj
          rw [Nat.zero_add]
          exact Q21 hr
        · cases hj
      rwa [Nat.zero_mul] at this
    · intro r hr
      obtain ⟨j, hj, rfl⟩ := List.mem_map.1 hr
      obtain ⟨r', hr', hq⟩ := key j (List.mem_range.1 hj)
      rw [hr']
      exact ⟨(Q21 hr').1, hq⟩
theorem Q1d {fs : Array Field} {size : Nat} (ht : P.underlying t = some (.struct fs)) (hs : P.cellsOf t = size) :
    Opens P t fun W cs => cs.length = size ∧ ∀ (i : Nat) (f : Field), fs[i]? = some f → ∀ Q, Opens P f.type Q → Q W ((cs.drop f.offset).take (P.cellsOf f.type)) := .mk fun enc W base sp held n cs x h => by
  obtain ⟨xs, m, _, _, h1, h2, h3⟩ := DataW.trod_struct ht h
  refine ⟨by rw [h1, hs], fun i f hf Q hQ => ?_⟩
  have h4 := h3 i f hf
  have hi := (Array.getElem?_eq_some_iff.1 hf).1
  rw [List.getElem?_eq_getElem (by omega)] at h4
  exact hQ.on enc W base sp held m _ _ h4
theorem Opens.mono {Q Q' : World → List Value → Prop} (h : Opens P t Q) (k : ∀ W cs, Q W cs → Q' W cs) : Opens P t Q' := .mk fun enc W base sp held n cs x hx => k _ _ (h.on enc W base sp held n cs x hx)
theorem Q3b {rows : List (List Value)} {α : Type} (f : α → Value) (h : ∀ r ∈ rows, ∃ x, r = [f x]) : ∃ xs : List α, rows.flatten = xs.map f ∧ xs.length = rows.length := by
  induction rows with
  | nil => exact ⟨[], rfl, rfl⟩
  | cons r rs ih =>
    obtain ⟨x, hx⟩ := h r List.mem_cons_self
    obtain ⟨xs, h1, h2⟩ := ih fun r hr => h r (List.mem_cons_of_mem _ hr)
    exact ⟨x :: xs, by rw [List.flatten_cons, hx, h1]; rfl, by simp [h2]⟩
theorem rows_of {rows : List (List Value)} {α : Type} (f : α → List Value) (G : α → Prop) (h : ∀ r ∈ rows, ∃ x, r = f x ∧ G x) : ∃ xs : List α, rows = xs.map f ∧ ∀ x ∈ xs, G x := by
  induction rows with
  | nil => exact ⟨[], rfl, by simp⟩
  | cons r rs ih =>
    obtain ⟨x, hx, hg⟩ := h r List.mem_cons_self
    obtain ⟨xs, h1, h2⟩ := ih fun r hr => h r (List.mem_cons_of_mem _ hr)
    exact ⟨x :: xs, by rw [hx, h1]; rfl, fun y hy => by rcases List.mem_cons.1 hy with rfl | hy; exact hg; exact h2 y hy⟩
theorem wf_u8 {n : Int} (h : (Lit.int .u8 n).wf = true) : 0 ≤ n ∧ n < 256 := by
  simp [Lit.wf, IntKind.min, IntKind.max, IntKind.signed, IntKind.bits] at h; omega
theorem wf_u64 {n : Int} (h : (Lit.int .u64 n).wf = true) : 0 ≤ n ∧ n < 18446744073709551616 := by
  simp [Lit.wf, IntKind.min, IntKind.max, IntKind.signed, IntKind.bits] at h; omega
theorem wf_i64 {n : Int} (h : (Lit.int .i64 n).wf = true) : -9223372036854775808 ≤ n ∧ n < 9223372036854775808 := by
  simp [Lit.wf, IntKind.min, IntKind.max, IntKind.signed, IntKind.bits] at h; omega
def BytesQ (W : World) (cs : List Value) : Prop := ∃ (a : Option Addr) (c : Nat) (bs : List UInt8), cs = [.slice a bs.length c] ∧ bs.length ≤ c ∧ c ≤ maxLen ∧ RowAt W a (bytesV bs)
theorem Q3i (ht : P.underlying t = some (.slice e)) (hs : P.cellsOf e = 1) (he : P.underlying e = some (.int .u8)) : Opens P t BytesQ :=
  (Q1r ht hs (Q0I he)).mono fun W cs ⟨a, l, c, rows, h1, h2, h3, h4, h5, h6⟩ => by
    obtain ⟨xs, h7, h8⟩ := Q3b (rows := rows) u8V fun r hr => by
      obtain ⟨n, hn, hw⟩ := (h6 r hr).2
      have := wf_u8 hw
      exact ⟨UInt8.ofNat n.toNat, by rw [hn, u8V]; congr 2; simp; omega⟩
    rw [h7] at h5
    subst h4
    exact ⟨a, c, xs, by rw [h8]; exact h1, by omega, h3, h5⟩
def IntsQ (k : IntKind) (W : World) (cs : List Value) : Prop := ∃ (a : Option Addr) (c : Nat) (xs : List Int), cs = [.slice a xs.length c] ∧ xs.length ≤ c ∧ c ≤ maxLen ∧ RowAt W a (xs.map fun n => Value.int k n) ∧ ∀ x ∈ xs, (Lit.int k x).wf = true
theorem opens_ints {k : IntKind} (ht : P.underlying t = some (.slice e)) (hs : P.cellsOf e = 1) (he : P.underlying e = some (.int k)) : Opens P t (IntsQ k) :=
  (Q1r ht hs (Q0I he)).mono fun W cs ⟨a, l, c, rows, h1, h2, h3, h4, h5, h6⟩ => by
    obtain ⟨xs, h7, h8⟩ := rows_of (rows := rows) (fun n => [Value.int k n]) (fun n => (Lit.int k n).wf = true) fun r hr => (h6 r hr).2
    subst h7
    have : (xs.map fun n => [Value.int k n]).flatten = xs.map fun n => Value.int k n := by
      clear h1 h2 h3 h4 h5 h6 h8
      induction xs with
      | nil => rfl
      | cons x r ih => simp only [List.map_cons, List.flatten_cons, ih]; rfl
    rw [this] at h5
    rw [List.length_map] at h4
    subst h4
    exact ⟨a, c, xs, h1, h2, h3, h5, h8⟩
end
theorem Ext.below {w w' : World} (h : Ext no w w') : Below w.heap.size w w' := ⟨h.os, h.tape, h.output, h.size, fun k hk => h.block k hk id⟩
end Go.Mx
namespace Go.Mx

structure Two (P : Program) (t : TypeId) (u0 u1 : TypeDesc) : Prop where
  on : ∃ f0 f1, P.underlying t = some (.struct #[f0, f1]) ∧ f0.name ≠ "_" ∧ f1.name ≠ "_" ∧ f0.offset = 0 ∧ f1.offset = 1 ∧ P.plainKey f0.type = true ∧ P.plainKey f1.type = true ∧
    P.underlying f0.type = some u0 ∧ P.underlying f1.type = some u1 ∧ P.stoodInHeld t = false
def twoOk (P : Program) (t : TypeId) (f0 f1 : Field) : Bool :=
  f0.name != "_" && f1.name != "_" && f0.offset == 0 && f1.offset == 1 && P.plainKey f0.type && P.plainKey f1.type && !(P.stoodInHeld t)
section
variable {P : Program} {t : TypeId} {u0 u1 : TypeDesc}
theorem Two.mk' {f0 f1 : Field} (h1 : P.underlying t = some (.struct #[f0, f1])) (h2 : twoOk P t f0 f1 = true) (h3 : P.underlying f0.type = some u0) (h4 : P.underlying f1.type = some u1) : Two P t u0 u1 := by
  simp only [twoOk, Bool.and_eq_true, bne_iff_ne, ne_eq, beq_iff_eq, Bool.not_eq_true'] at h2
  obtain ⟨⟨⟨⟨⟨⟨a, b⟩, c⟩, d⟩, e⟩, f⟩, g⟩ := h2
  exact ⟨f0, f1, h1, a, b, c, d, e, f, h3, h4, g⟩
theorem Q33 (h : Two P t u0 u1) {a b c d : Value} {r0 r1 : Bool} (w : World) (e0 : ∀ k t, P.underlying t = some u0 → (Op.equalIn (k + 1) t a b).run P w = .ok r0 w) (e1 : ∀ k t, P.underlying t = some u1 → (Op.equalIn (k + 1) t c d).run P w = .ok r1 w) (k : Nat) :
    (Op.equalIn (k + 2) t (.agg #[a, c]) (.agg #[b, d])).run P w = .ok (r0 && r1) w := by
  obtain ⟨f0, f1, ht, n0, n1, o0, o1, p0, p1, h0, h1, hp⟩ := h.on
  have hf : P.fieldsOf t = #[f0, f1] := by simp [Program.fieldsOf, ht]
  rw [show k + 2 = (k + 1) + 1 from rfl, run_equalIn_struct w (k + 1) t _ _ (by rw [hf]; exact ht) hp, hf]
  have q0 : (part f0.type #[a, c] f0.offset).run P w = .ok a w := run_part_plain w p0 (by rw [o0]; rfl)
  have q1 : (part f0.type #[b, d] f0.offset).run P w = .ok b w := run_part_plain w p0 (by rw [o0]; rfl)
  have q2 : (part f1.type #[a, c] f1.offset).run P w = .ok c w := run_part_plain w p1 (by rw [o1]; rfl)
  have q3 : (part f1.type #[b, d] f1.offset).run P w = .ok d w := run_part_plain w p1 (by rw [o1]; rfl)
  simp only [Op.eqFields, n0, n1, ne_eq, not_false_eq_true, if_true, Sem.run_bind, q0, q1, q2, q3, Result.andThen_ok, e0 k _ h0, e1 k _ h1]
  cases r0 <;> cases r1 <;> simp [Op.eqFields, Sem.run_bind, q2, q3, e1 k _ h1]
theorem equal_int' {k : IntKind} {a b : Int} {w : World} (d : Nat) (t : TypeId) (h : P.underlying t = some (.int k)) : (Op.equalIn (d + 1) t (.int k a) (.int k b)).run P w = .ok (a == b) w := run_equalIn_int w d t k k a b h
theorem equal_str' {a b : List UInt8} {w : World} (d : Nat) (t : TypeId) (h : P.underlying t = some .string) : (Op.equalIn (d + 1) t (strV a) (strV b)).run P w = .ok (decide (a = b)) w := by
  rw [strV, strV, run_equalIn_string w d t _ _ h, ← beq_toListBytes, Q1W]
theorem Q48 (h : Two P t u0 u1) {a c : Value} (e : Bool) (w : World) (e0 : ∀ k t, P.underlying t = some u0 → (Instr.checkKey e (k + 1) t a).run P w = .ok () w) (e1 : ∀ k t, P.underlying t = some u1 → (Instr.checkKey e (k + 1) t c).run P w = .ok () w) (k : Nat) :
    (Instr.checkKey e (k + 2) t (.agg #[a, c])).run P w = .ok () w := by
  obtain ⟨f0, f1, ht, n0, n1, o0, o1, p0, p1, h0, h1, hp⟩ := h.on
  have q0 : (part f0.type #[a, c] f0.offset).run P w = .ok a w := run_part_plain w p0 (by rw [o0]; rfl)
  have q2 : (part f1.type #[a, c] f1.offset).run P w = .ok c w := run_part_plain w p1 (by rw [o1]; rfl)
  rw [Instr.checkKey]
  simp only [Sem.run_bind, run_underlying' ht, Result.andThen_ok]
  rw [← Array.forIn_toList]
  simp only [List.forIn_cons, List.forIn_nil, n0, n1, ne_eq, not_false_eq_true, if_true, Sem.run_bind, q0, q2, Result.andThen_ok, e0 k _ h0, e1 k _ h1, Sem.run_pure]
theorem check_int' {k : IntKind} {a : Int} {w : World} (e : Bool) (d : Nat) (t : TypeId) (h : P.underlying t = some (.int k)) : (Instr.checkKey e (d + 1) t (.int k a)).run P w = .ok () w := by simp [Instr.checkKey, run_underlying' h]
theorem check_str' {a : List UInt8} {w : World} (e : Bool) (d : Nat) (t : TypeId) (h : P.underlying t = some .string) : (Instr.checkKey e (d + 1) t (strV a)).run P w = .ok () w := by simp [Instr.checkKey, run_underlying' h, strV]
theorem findAsk {κ : Type} [DecidableEq κ] {enc : κ → Value} {t : TypeId} (heq : ∀ x y w, (Op.equal t (enc x) (enc y)).run P w = .ok (decide (x = y)) w) (x : κ) (w : World) :
    ∀ (es : List MapEntry) (l : List (κ × Value)) (i : Nat), es.map (fun e => (e.key, e.val)) = l.map (fun p => (enc p.1, p.2)) → (Instr.findAsking t (enc x) es i).run P w = .ok (idx l x i) w := by
  intro es
  induction es with
  | nil =>
    intro l i hl
    have : l = [] := by cases l <;> simp at hl ⊢
    subst this; simp [Instr.findAsking, idx]
  | cons e r ih =>
    intro l i hl
    cases l with
    | nil => simp at hl
    | cons p q =>
      simp only [List.map_cons, List.cons.injEq, Prod.mk.injEq] at hl
      obtain ⟨⟨h1, h2⟩, h3⟩ := hl
      simp only [Instr.findAsking, Sem.run_bind, h1, heq, Result.andThen_ok, idx]
      by_cases hp : p.1 = x
      · subst hp; simp [h2]
      · have : ¬ x = p.1 := fun e => hp e.symm
        simp only [this, hp, decide_false, if_false, Bool.false_eq_true]
        exact ih q (i + 1) h3
theorem Q2R {k : IntKind} (h : Two P t (.int k) .string) : Keys P t (fun p : Int × List UInt8 => Value.agg #[.int k p.1, strV p.2]) where
  check := fun e x w => Q48 h e w (fun n t ht => check_int' e n t ht) (fun n t ht => check_str' e n t ht) 9998
  find := fun x es l hl w => by
    obtain ⟨f0, f1, ht, _⟩ := h.on
    have heq : ∀ x y w, (Op.equal t (Value.agg #[.int k (x : Int × List UInt8).1, strV x.2]) (.agg #[.int k (y : Int × List UInt8).1, strV y.2])).run P w = .ok (decide (x = y)) w := fun x y w => by
      have := Q33 h w (fun n t ht => equal_int' (a := x.1) (b := y.1) n t ht) (fun n t ht => equal_str' (a := x.2) (b := y.2) n t ht) 9998
      rw [show Op.equal t (Value.agg #[.int k x.1, strV x.2]) (.agg #[.int k y.1, strV y.2]) = Op.equalIn (9998 + 2) t (Value.agg #[.int k x.1, strV x.2]) (.agg #[.int k y.1, strV y.2]) from rfl, this]
      congr 1
      rw [Bool.eq_iff_iff]
      simp [Prod.ext_iff]
    have hfa := findAsk heq x w es l 0 hl
    simp only [Instr.findKey, Sem.run_bind, run_underlying' ht, Result.andThen_ok]
    cases es with
    | nil =>
      have : l = [] := by cases l <;> simp at hl ⊢
      subst this; simp [Instr.findNow, idx]
    | cons e r =>
      have : Instr.findNow (.struct #[f0, f1]) (Value.agg #[.int k x.1, strV x.2]) (e :: r) 0 = none := rfl
      rw [this]
      exact hfa
  bits := fun x => by simp [Instr.sameBits, strV, Q1W]
end

/-! ### an entry, and its value behind it -/
section
variable {κ : Type} [DecidableEq κ] {P : Program} {w w' : World} {r : Nat} {enc : κ → Value} {l : List (κ × Value)}
theorem idx_any : ∀ {l : List (κ × Value)} {x : κ} {i : Nat}, idx l x i = none → ∀ j, idx l x j = none
  | [], _, _, _, _ => rfl
  | p :: r, x, i, h, j => by
    simp only [idx] at h ⊢
    by_cases hp : p.1 = x
    · simp [hp] at h
    · simp only [hp, if_false] at h ⊢; exact idx_any h _
theorem Q23 : ∀ (l : List (κ × Value)) (x : κ) (u v : Value), mput (mput l x u) x v = mput l x v
  | [], x, u, v => by simp [mput]
  | p :: r, x, u, v => by
    simp only [mput]
    by_cases hp : p.1 = x
    · simp [hp, mput]
    · simp only [hp, if_false, mput]; rw [Q23 r x u v]
theorem Q2O {es : Array MapEntry} (hb : (es.toList.map (·.born)).Pairwise (· < ·)) {j : Nat} {e : MapEntry} (he : es[j]? = some e) : es.findIdx? (fun x => (x.born : Int) == ((e.born : Nat) : Int)) = some j := by
  rw [Array.findIdx?_eq_some_iff_getElem]
  obtain ⟨hj, hej⟩ := Array.getElem?_eq_some_iff.1 he
  refine ⟨hj, by simp [hej], fun i hi => ?_⟩
  have h1 := List.pairwise_iff_getElem.1 hb i j (by simp; omega) (by simpa using hj) hi
  simp only [List.getElem_map, Array.getElem_toList, hej] at h1
  simp only [beq_iff_eq, Int.natCast_inj, Bool.not_eq_true, beq_eq_false_iff_ne, ne_eq]
  omega
def Pending (w : World) (r : Nat) (enc : κ → Value) (l : List (κ × Value)) (x : κ) (n : Int) : Prop :=
  ∃ es clock j e, w.heap[r]? = some (.map es clock) ∧ es.toList.map (fun e => (e.key, e.val)) = l.map (fun p => (enc p.1, p.2)) ∧
    (es.toList.map (·.born)).Pairwise (· < ·) ∧ (∀ e ∈ es.toList, e.born < clock) ∧ es[j]? = some e ∧ n = (e.born : Int) ∧ e.key = enc x ∧ l[j]? = some (x, e.val) ∧ ∀ u, mput l x u = l.set j (x, u)
theorem Pending.map {x : κ} {n : Int} (h : Pending w r enc l x n) : MapIs w r enc l := by
  obtain ⟨es, clock, j, e, h, h2, h3, h4, _⟩ := h; exact ⟨es, clock, h, h2, h3, h4⟩
theorem Q1R {α : Type} : ∀ {l : List α} {j : Nat} {a : α}, l[j]? = some a → l.set j a = l
  | [], j, a, h => by simp at h
  | b :: r, 0, a, h => by simp at h; simp [h]
  | b :: r, j + 1, a, h => by simp at h; simp [Q1R h]
theorem MapIs.entry {t kt et : TypeId} {i : TypeInfo} {z : Value} (h : MapIs w r enc l) (K : Keys P kt enc) (ht : P.underlying t = some (.map kt et)) (hi : P.info? et = some i) (hz : i.zero = some z) (x : κ) :
    ∃ n w', (Instr.mapEntry t (.map (some r)) (enc x)).run P w = .ok (.tuple #[(mlook l x).getD z, .int .i64 n]) w' ∧ Pending w' r enc (mput l x ((mlook l x).getD z)) x n ∧ ∀ m : Nat → Prop, m r → Ext m w w' := by
  have hlt := h.lt
  obtain ⟨es, clock, hr, hl, hb, hc⟩ := h
  cases hx : idx l x 0 with
  | none =>
    obtain ⟨h0, h1⟩ := Q1N hx
    have hsz : es.size = l.length := by have := congrArg List.length hl; simpa using this
    refine ⟨(clock : Int), _, ?_, ⟨es.push { key := enc x, val := z, born := clock }, clock + 1, es.size, { key := enc x, val := z, born := clock }, Q0Z hlt, ?_, ?_, ?_, by simp, rfl, rfl, ?_, ?_⟩, fun m hm => Ext.setObj _ hm⟩
    · simp only [Instr.mapEntry, Sem.run_bind, run_underlying' ht, Result.andThen_ok, Q0M hr, K.check, K.find x _ _ hl, hx, Q1s hi hz, Q0J hr, Sem.run_pure, h0, Option.getD_none, goInt]
    · simp [h0, h1, hl]
    · simp only [Array.toList_push, List.map_append, List.map_cons, List.map_nil, List.pairwise_append, hb, true_and]
      exact ⟨by simp, fun a ha b hb' => by simp at hb'; subst hb'; exact born_lt hc a ha⟩
    · intro e he
      simp only [Array.toList_push, List.mem_append, List.mem_singleton] at he
      rcases he with he | rfl
      · have := hc e he; omega
      · simp
    · rw [h1, hsz]; simp [h0]
    · intro u
      rw [h0, Option.getD_none, h1 z, hsz]
      -- the last one is x's
      have hnone : ∀ (q : List (κ × Value)), (∀ i, idx q x i = none) → mput (q ++ [(x, z)]) x u = q ++ [(x, u)] := by
        intro q
        induction q with
        | nil => intro _; simp [mput]
        | cons p s ih =>
          intro hq
          have h2 := hq 0
          simp only [idx] at h2
          by_cases hp : p.1 = x
          · simp [hp] at h2
          · simp only [List.cons_append, mput, hp, if_false]
            rw [ih fun i => ?_]
            cases i with
            | zero => simp only [hp, if_false] at h2; exact (idx_any h2 0)
            | succ i => simp only [hp, if_false] at h2; exact idx_any h2 _
      rw [hnone l fun i => idx_any hx i]
      simp
  | some p =>
    obtain ⟨j, u⟩ := p
    obtain ⟨k, hj, hk, h0, h1⟩ := Q1T hx
    obtain rfl : j = k := by omega
    have hjj := congrArg (fun L => L[j]?) hl
    simp only [List.getElem?_map, Array.getElem?_toList, hk, Option.map_some] at hjj
    cases he : es[j]? with
    | none => rw [he] at hjj; simp at hjj
    | some e =>
      rw [he] at hjj
      simp only [Option.map_some, Option.some.injEq, Prod.mk.injEq] at hjj
      have hek : ((es[j]?).map (·.key)).getD (enc x) = enc x := by simp [he, hjj.1]
      refine ⟨(e.born : Int), _, ?_, ⟨es.modify j fun e => { e with key := enc x }, clock, j, { e with key := enc x }, Q0Z hlt, ?_, ?_, ?_, ?_, rfl, rfl, ?_, ?_⟩, fun m hm => Ext.setObj _ hm⟩
      · simp only [Instr.mapEntry, Sem.run_bind, run_underlying' ht, Result.andThen_ok, Q0M hr, K.check, K.find x _ _ hl, hx, hek, Instr.keyThatStays, K.bits, if_true, Sem.run_pure, Q0J hr, h0, Option.getD_some, he, Option.map_some, goInt]
        simp only [hjj.1, K.bits, if_true, Sem.run_pure, Result.andThen_ok, Q0J hr]
      · rw [h0, h1, Option.getD_some, Q1R hk, ← hl]
        apply List.ext_getElem?
        intro i
        simp only [List.getElem?_map, Array.getElem?_toList, Array.getElem?_modify]
        by_cases hji : j = i
        · subst hji; simp [he, hjj.1]
        · simp [hji]
      · rw [Q0K]; exact hb; intro e; rfl
      · intro e he
        have := List.mem_map_of_mem (f := fun e : MapEntry => e.born) he
        rw [Q0K es j (fun e => { e with key := enc x }) (fun e => rfl)] at this
        exact born_lt hc _ this
      · simp [Array.getElem?_modify, he]
      · rw [h0, h1, Option.getD_some, Q1R hk, hk]; simp [hjj.2]
      · intro v; rw [h0, Option.getD_some, h1 u, Q1R hk, h1]
theorem Pending.store {t : TypeId} {x : κ} {n : Int} (h : Pending w r enc l x n) (v : Value) :
    ∃ w', (Instr.entryStore t (.map (some r)) (.int .i64 n) v).run P w = .ok () w' ∧ MapIs w' r enc (mput l x v) ∧ ∀ m : Nat → Prop, m r → Ext m w w' := by
  have hlt := h.map.lt
  obtain ⟨es, clock, j, e, hr, hl, hb, hc, he, rfl, hk, hlj, hput⟩ := h
  refine ⟨_, ?_, ⟨es.modify j fun e => { e with val := v }, clock, Q0Z hlt, ?_, ?_, ?_⟩, fun m hm => Ext.setObj _ hm⟩
  · simp only [Instr.entryStore, Sem.run_bind, Q0M hr, Result.andThen_ok, asInt, Sem.run_pure, Q2O hb he, Q0J hr]
    simp [asIntOf, Q2O hb he, Q0J hr]
  · rw [hput]
    apply List.ext_getElem?
    intro i
    have hi := congrArg (fun L => L[i]?) hl
    simp only [List.getElem?_map, Array.getElem?_toList] at hi
    simp only [List.getElem?_map, Array.getElem?_toList, Array.getElem?_modify, List.getElem?_set]
    by_cases hji : j = i
    · subst hji
      have hlt := (List.getElem?_eq_some_iff.1 hlj).1
      simp [he, hk, hlt]
    · simp only [hji, if_false]; exact hi
  · rw [Q0K]; exact hb; intro e; rfl
  · intro e he
    have := List.mem_map_of_mem (f := fun e : MapEntry => e.born) he
    rw [Q0K es j (fun e => { e with val := v }) (fun e => rfl)] at this
    exact born_lt hc _ this
end
end Go.Mx
namespace Go.Mx
theorem w64 {n : Int} (h0 : -9223372036854775808 ≤ n) (h1 : n < 9223372036854775808) : IntKind.i64.wrap n = n := by rw [IntKind.wrap_i64]; omega
theorem wu64 {n : Int} (h0 : 0 ≤ n) (h1 : n < 18446744073709551616) : IntKind.u64.wrap n = n := by rw [IntKind.wrap_u64]; omega
theorem wu8 {n : Int} (h0 : 0 ≤ n) (h1 : n < 256) : IntKind.u8.wrap n = n := by rw [IntKind.wrap_u8]; omega

/-! ### a number in eight bytes -/
end Go.Mx
namespace Go.Mx
def numF : Nat → Nat → List UInt8
  | 0, _ => []
  | k + 1, n => if n < 128 then [UInt8.ofNat n] else UInt8.ofNat (n % 128 + 128) :: numF k (n / 128)
def numL (n : Nat) : List UInt8 := numF 10 n
def widthF : Nat → List UInt8 → Nat
  | _, [] => 0
  | i, c :: r => if i = 9 ∧ c.toNat ≠ 1 then 0 else if c.toNat < 128 then (if c.toNat = 0 ∧ 0 < i then 0 else i + 1) else widthF (i + 1) r
def valW : List UInt8 → Nat
  | [] => 0
  | c :: r => c.toNat % 128 + 128 * valW r
def rdNum (bs : List UInt8) : Option (Nat × List UInt8) := if widthF 0 bs = 0 then none else some (valW (bs.take (widthF 0 bs)), bs.drop (widthF 0 bs))
theorem Q3A {n : Nat} (h : n < 256) : (UInt8.ofNat n).toNat = n := by simp; omega
theorem numF_le : ∀ k n, (numF k n).length ≤ k
  | 0, n => Nat.le_refl _
  | k + 1, n => by
    simp only [numF]
    have := numF_le k (n / 128)
    split <;> simp <;> omega
theorem or128 (n : Nat) : IntKind.u8.wrap ((BitVec.ofInt (IntKind.bits .u8) (IntKind.u8.wrap (n : Int)) ||| BitVec.ofInt (IntKind.bits .u8) 128).toNat : Int) = ((UInt8.ofNat (n % 128 + 128)).toNat : Int) := by
  have key : ∀ m : Fin 256, (m.val ||| 128) = m.val % 128 + 128 := by decide +kernel
  have kk : (n % 256 ||| 128) = n % 256 % 128 + 128 := key ⟨n % 256, by omega⟩
  have h1 : IntKind.u8.wrap (n : Int) = ((n % 256 : Nat) : Int) := by rw [IntKind.wrap_u8]; omega
  rw [h1, show IntKind.bits .u8 = 8 from rfl, BitVec.toNat_or, BitVec.ofInt_natCast, BitVec.toNat_ofNat, show (BitVec.ofInt 8 128).toNat = 128 from rfl, Nat.mod_eq_of_lt (by omega), kk, Q3A (by omega), wu8 (by omega) (by omega)]
  omega
end Go.Mx
namespace Go.Mx
def Ret (v : Value) (Q : World → Prop) (e : Ending) (w' : World) : Prop := e = .returned v ∧ Q w'
def Priv (w w' : World) (L : List Nat) : Prop := ∀ p ∈ L, w.heap.size ≤ p ∧ p < w'.heap.size
theorem Priv.nil {w w' : World} : Priv w w' [] := fun p hp => by simp at hp
theorem Priv.cons {w w' : World} {p : Nat} {L : List Nat} (h1 : w.heap.size ≤ p) (h2 : p < w'.heap.size) (h : Priv w w' L) : Priv w w' (p :: L) := fun q hq => by
  rcases List.mem_cons.1 hq with rfl | hq
  · exact ⟨h1, h2⟩
  · exact h q hq
theorem Priv.two {w w' : World} {p q : Nat} (h : Priv w w' [p, q]) : (w.heap.size ≤ p ∧ p < w'.heap.size) ∧ w.heap.size ≤ q ∧ q < w'.heap.size := ⟨h p (by simp), h q (by simp)⟩
def Privq (w : World) (q : Nat) (L : List Nat) : Prop := ∀ p ∈ L, w.heap.size ≤ p ∧ p < q
theorem Privq.nil {w : World} {q : Nat} : Privq w q [] := fun p hp => by simp at hp
theorem Privq.cons {w : World} {q p : Nat} {L : List Nat} (h1 : w.heap.size ≤ p) (h2 : p < q) (h : Privq w q L) : Privq w q (p :: L) := fun r hr => by
  rcases List.mem_cons.1 hr with rfl | hr
  · exact ⟨h1, h2⟩
  · exact h r hr
theorem Privq.one {w : World} {q p : Nat} (h : Privq w q [p]) : w.heap.size ≤ p ∧ p < q := h p (by simp)
def Keep (L : List Nat) (w w' : World) : Prop := ∀ p ∈ L, p < w.heap.size → w'.heap[p]? = w.heap[p]?
section
variable {m : Nat → Prop} {w w0 w' : World} {L : List Nat} {p q i : Nat} {t : TypeId} {cs : List Value} {a : Addr} {v : Value}
theorem Ext.keep (h : Ext m w w') (hm : ∀ p ∈ L, p < w.heap.size → ¬ m p) : Keep L w w' := fun p hp hl => h.block p hl (hm p hp hl)
theorem Ext.kept (h : Ext no w w') : Keep L w w' := h.keep fun _ _ _ hb => hb
theorem Keep.refl (L : List Nat) (w : World) : Keep L w w := fun _ _ _ => rfl
theorem Keep.blk (h : Keep L w w') (hb : Blk w p t cs) (hp : p ∈ L) : Blk w' p t cs := by
  unfold Blk at hb ⊢
  rw [h p hp (Array.getElem?_eq_some_iff.1 hb).1]; exact hb
theorem Blk.celli (h : Blk w p t cs) (i : Nat) (ha : a = ⟨p, i, Option.none⟩) (hv : cs[i]? = some v) : w.cell? a = some v := by subst ha; exact h.cell hv
theorem Blk.cani (h : Blk w p t cs) (i : Nat) (ha : a = ⟨p, i, Option.none⟩) (hv : cs[i]? = some v) : Q06 w a := by subst ha; exact h.can hv
theorem Blk.seti (h : Blk w p t cs) (i : Nat) (ha : a = ⟨p, i, Option.none⟩) (e : w' = w.setCell a v) : Blk w' p t (cs.set i v) := by subst ha; subst e; exact h.set i v
theorem Blk.oth (h : Blk w p t cs) (ha : a = ⟨q, i, Option.none⟩) (hne : p ≠ q) (e : w' = w.setCell a v) : Blk w' p t cs := by subst ha; subst e; exact h.set_other hne v
theorem Blk.of_new (e : w' = w.alloc (.cells cs.toArray t)) : Blk w' w.heap.size t cs := by subst e; exact Blk.new _ _ _
theorem Blk.x_drew (h : Blk w p t cs) (e : w' = w.drew) : Blk w' p t cs := by subst e; exact h
theorem Blk.x_alloc (h : Blk w p t cs) {o : Obj} (e : w' = w.alloc o) : Blk w' p t cs := by subst e; exact h.alloc o
theorem Ext.x_drew (h : Ext m w0 w) (e : w' = w.drew) : Ext m w0 w' := by subst e; exact h.drew
theorem Ext.x_alloc (h : Ext m w0 w) {o : Obj} (e : w' = w.alloc o) : Ext m w0 w' := by subst e; exact h.alloc o
theorem Ext.x_set (h : Ext m w0 w) (ha : a = ⟨q, i, Option.none⟩) (hq : m q ∨ w0.heap.size ≤ q) (e : w' = w.setCell a v) : Ext m w0 w' := by subst ha; subst e; exact h.setCell hq v
theorem Q1J (h : Ext no w w') : ∀ {cs : List Value} {i : Nat}, cellsAt w a cs i → cellsAt w' a cs i
  | [], _, _ => trivial
  | _ :: _, _, hc => ⟨h.cell hc.1 id, Q1J h hc.2⟩
theorem Q0C {o : Obj} (e : w' = w.alloc o) : w.heap.size < w'.heap.size := by subst e; simp
theorem Q3S {o : Obj} (e : w' = w.alloc o) : w'.heap[w.heap.size]? = some o := by subst e; exact heap_alloc_new w o
end
theorem Q4f {w w' : World} {K : World → Prop} (h : thenW w K) (e : w' = w) : K w' := by subst e; exact h
theorem bif_of {c : Bool} {A B : Prop} (h1 : c = true → A) (h2 : c = false → B) : bif c then A else B := by cases c; exact h2 rfl; exact h1 rfl
theorem bif_fo {c : Bool} {A B : Prop} (h2 : c = false → B) (h1 : c = true → A) : bif c then A else B := by cases c; exact h2 rfl; exact h1 rfl
theorem bif_tt {c : Bool} {A B : Prop} (h : c = true) (h1 : A) : bif c then A else B := by subst h; exact h1
theorem Q0F {α : Type} {o : Option α} {a : α} {K : α → Prop} (h : o = some a) (k : K a) : o.elim False K := by subst h; exact k
theorem not_t {b : Bool} (h : (!b) = true) : b = false := by simpa using h
theorem not_f {b : Bool} (h : (!b) = false) : b = true := by simpa using h
theorem bne_t {a b : Int} (h : (a != b) = true) : a ≠ b := by simpa using h
theorem bne_f {a b : Int} (h : (a != b) = false) : a = b := by simpa using h
theorem beq_t {a b : Int} (h : (a == b) = true) : a = b := by simpa using h
theorem beq_f {a b : Int} (h : (a == b) = false) : a ≠ b := by simpa using h
theorem Q1j {α : Type} {o : Option α} (h : o.isNone = true) : o = none := by cases o; rfl; cases h
theorem Q1i {α : Type} {o : Option α} (h : o.isNone = false) : o ≠ none := by cases o; cases h; simp
end Go.Mx
namespace Go.Mx
abbrev Own := Nat → Option Nat
def Tags (w : World) (o : Own) : Prop := ∀ b j, b < w.heap.size → o b = some j → j < w.heap.size
structure Step (K : Nat → Prop) (w : World) (o : Own) (w' : World) (o' : Own) : Prop where
  ext : Ext (fun b => ∃ k, o b = some k ∧ K k) w w'
  same : ∀ b, b < w.heap.size → o' b = o b
  ok0 : Tags w o
  ok : Tags w' o'
def grow (w : World) (o : Own) : Own := fun b => if b < w.heap.size then o b else none
def tag (o : Own) (p j : Nat) : Own := fun b => if b = p then some j else o b
section
variable {K K1 : Nat → Prop} {w w1 w' : World} {o o1 o' : Own} {p q j : Nat}
theorem Step.refl (K : Nat → Prop) (h : Tags w o) : Step K w o w o := ⟨Ext.refl _ _, fun _ _ => rfl, h, h⟩
theorem Step.size (h : Step K w o w' o') : w.heap.size ≤ w'.heap.size := h.ext.size
theorem Step.mono (h : Step K w o w' o') (hk : ∀ j, K j → j < w.heap.size → K1 j) : Step K1 w o w' o' :=
  ⟨h.ext.mono fun b ⟨k, h1, h2⟩ hb => ⟨k, h1, hk k h2 (h.ok0 b k hb h1)⟩, h.same, h.ok0, h.ok⟩
theorem Step.trans' (h : Step K w o w1 o1) (k : Step K1 w1 o1 w' o') (hk : ∀ j, K1 j → K j ∨ w.heap.size ≤ j) : Step K w o w' o' := by
  refine ⟨h.ext.then k.ext fun b ⟨j, h1, h2⟩ => ?_, fun b hb => (k.same b (Nat.lt_of_lt_of_le hb h.size)).trans (h.same b hb), h.ok0, k.ok⟩
  by_cases hb : b < w.heap.size
  · rw [h.same b hb] at h1
    rcases hk j h2 with h3 | h3
    · exact .inl ⟨j, h1, h3⟩
    · have := h.ok0 b j hb h1; omega
  · exact .inr (by omega)
theorem Step.trans (h : Step K w o w1 o1) (k : Step K w1 o1 w' o') : Step K w o w' o' := h.trans' k fun _ h => .inl h
theorem Step.none (h : Step no w o w' o') : Step K w o w' o' := h.mono fun _ h _ => h.elim
theorem grow_lt {b : Nat} (h : b < w.heap.size) : grow w o b = o b := if_pos h
theorem grow_ge {b : Nat} (h : w.heap.size ≤ b) : grow w o b = none := if_neg (by omega)
theorem Tags.grow (h : Tags w o) (hs : w.heap.size ≤ w'.heap.size) : Tags w' (grow w o) := fun b j hb hj => by
  by_cases hl : b < w.heap.size
  · rw [grow_lt hl] at hj; exact Nat.lt_of_lt_of_le (h b j hl hj) hs
  · rw [grow_ge (by omega)] at hj; cases hj
theorem Q0O : tag o p j p = some j := if_pos rfl
theorem tag_ne {b : Nat} (h : b ≠ p) : tag o p j b = o b := if_neg h
theorem Tags.tag (h : Tags w o) (hj : j < w.heap.size) : Tags w (tag o p j) := fun b i hb hi => by
  by_cases hp : b = p
  · subst hp; rw [Q0O] at hi; cases hi; exact hj
  · rw [tag_ne hp] at hi; exact h b i hb hi
theorem Step.of_no (h : Ext no w w') (ok : Tags w o) : Step no w o w' (grow w o) := ⟨h.mono fun _ h _ => h.elim, fun _ hb => grow_lt hb, ok, ok.grow h.size⟩
theorem Step.tag (h : Step K w o w' o') (hp : w.heap.size ≤ p) (hj : j < w'.heap.size) : Step K w o w' (tag o' p j) :=
  ⟨h.ext, fun b hb => by rw [tag_ne (by omega)]; exact h.same b hb, h.ok0, h.ok.tag hj⟩
theorem Step.of_ext {m : Nat → Prop} (h : Ext m w w') (ok : Tags w o) (hm : ∀ b, m b → b < w.heap.size → o b = some p) : Step (fun j => j = p) w o w' (grow w o) :=
  ⟨h.mono fun b hb hl => ⟨p, hm b hb hl, rfl⟩, fun _ hb => grow_lt hb, ok, ok.grow h.size⟩
theorem Step.of_exts {m : Nat → Prop} (h : Ext m w w') (ok : Tags w o) (hm : ∀ b, m b → b < w.heap.size → ∃ k, o b = some k ∧ K k) : Step K w o w' (grow w o) :=
  ⟨h.mono fun b hb hl => hm b hb hl, fun _ hb => grow_lt hb, ok, ok.grow h.size⟩
theorem Step.at (h : Step K w o w' o') {b : Nat} (hb : b < w.heap.size) (hk : ∀ k, o b = some k → ¬ K k) : w'.heap[b]? = w.heap[b]? :=
  h.ext.block b hb fun ⟨k, h1, h2⟩ => hk k h1 h2
theorem Step.blk (h : Step K w o w' o') {t : TypeId} {cs : List Value} (hb : Blk w p t cs) (hp : o p = some j) (hj : ¬ K j) : Blk w' p t cs := by
  have := h.at hb.lt fun k hk => by rw [hp] at hk; cases hk; exact hj
  unfold Blk at hb ⊢
  rw [this]; exact hb
theorem Step.own (h : Step K w o w' o') (hp : p < w.heap.size) : o' p = o p := h.same p hp
theorem Step.keep (h : Step K w o w' o') {L : List Nat} (hL : ∀ p ∈ L, p < w.heap.size → ∀ k, o p = some k → ¬ K k) : Keep L w w' := fun p hp hl => h.at hl (hL p hp hl)
theorem Step.priv2 (h : Ext no w w') (hp : Priv w w' [p, q]) (ok : Tags w o) : ∃ o', Step no w o w' o' ∧ o' p = some p ∧ o' q = some q := by
  obtain ⟨h1, h2⟩ := hp.two
  refine ⟨_, ((Step.of_no h ok).tag h1.1 h1.2).tag h2.1 h2.2, ?_, Q0O⟩
  by_cases e : p = q
  · subst e; exact Q0O
  · rw [tag_ne e]; exact Q0O
theorem Step.store1 (h : Ext (fun b => b = p) w w') (ok : Tags w o) (hp : o p = some p) : ∃ o', Step (fun j => j = p) w o w' o' := ⟨_, Step.of_ext h ok fun b hb _ => by subst hb; exact hp⟩
theorem Step.store2 (h : Ext (fun b => b = p ∨ b = q) w w') (ok : Tags w o) (hp : o p = some p) (hq : o q = some q) : ∃ o', Step (fun j => j = p ∨ j = q) w o w' o' :=
  ⟨_, Step.of_exts h ok fun b hb _ => by rcases hb with rfl | rfl; exact ⟨_, hp, .inl rfl⟩; exact ⟨_, hq, .inr rfl⟩⟩
theorem Step.keep2 {i : Nat} (h : Step K w o w' o') (hp : o p = some j) (hj : ¬ K j) (hq : o q = some i) (hi : ¬ K i) : Keep [p, q] w w' := h.keep fun r hr _ k hk => by
  simp at hr
  rcases hr with rfl | rfl
  · rw [hp] at hk; cases hk; exact hj
  · rw [hq] at hk; cases hk; exact hi
def Free (L : List Nat) (w : World) (o : Own) : Prop := ∀ p ∈ L, p < w.heap.size ∧ o p = none
theorem Free.step {L : List Nat} (h : Free L w o) (s : Step K w o w' o') : Free L w' o' := fun p hp => ⟨Nat.lt_of_lt_of_le (h p hp).1 s.size, by rw [s.own (h p hp).1]; exact (h p hp).2⟩
theorem Free.of {L : List Nat} (h : Priv w w' L) : Free L w' (grow w o) := fun p hp => ⟨(h p hp).2, grow_ge (h p hp).1⟩
theorem Free.app {L M : List Nat} (h : Free L w o) (k : Free M w o) : Free (L ++ M) w o := fun p hp => (List.mem_append.1 hp).elim (h p) (k p)
theorem Free.sub {L M : List Nat} (h : Free L w o) (k : ∀ p ∈ M, p ∈ L) : Free M w o := fun p hp => h p (k p hp)
theorem Free.keep {L : List Nat} (h : Free L w o) (s : Step K w o w' o') : Keep L w w' := s.keep fun p hp _ k hk => by rw [(h p hp).2] at hk; cases hk
def Row (w : World) (o : Own) (a : Option Addr) (cs : List Value) : Prop := RowAt w a cs ∧ (cs ≠ [] → ∀ ad, a = some ad → o ad.block = none)
theorem Row.nil (w : World) (o : Own) (a : Option Addr) : Row w o a [] := ⟨RowAt.nil _ _, fun h => absurd rfl h⟩
theorem Row.step {a : Option Addr} {cs : List Value} (h : Row w o a cs) (k : Step K w o w' o') : Row w' o' a cs :=
  ⟨h.1.ext' k.ext fun h0 ad ha ⟨j, h1, _⟩ => (by rw [h.2 h0 ad ha] at h1; cases h1), fun h0 ad ha => by rw [k.same _ (h.1.lt h0 ha)]; exact h.2 h0 ad ha⟩
theorem Row.fresh {a : Option Addr} {cs : List Value} (h : RowAt w' a cs) (hf : ∀ ad, a = some ad → w.heap.size ≤ ad.block) : Row w' (grow w o) a cs := ⟨h, fun _ ad ha => grow_ge (hf ad ha)⟩
end
/-! ### rows that grow, of an owner -/
section
variable {K K1 : Nat → Prop} {w w1 w' : World} {o o1 o' : Own} {p q j k : Nat}
structure Grows (e size : Nat) (w : World) (o : Own) (k : Nat) (a : Option Addr) (n c : Nat) (cs : List Value) : Prop where
  own : w.ownsRow 0 e size (.slice a n c) n cs
  tg : ∀ ad, a = some ad → o ad.block = some k ∧ ad.block < w.heap.size
theorem Grows.row {e size : Nat} {a : Option Addr} {n c : Nat} {cs : List Value} (h : Grows e size w o k a n c cs) : RowAt w a cs := by
  obtain ⟨_, _, hv, hr⟩ := RowAt.of_owns h.own
  cases hv; exact hr
theorem owns_ext' {m : Nat → Prop} {e size n : Nat} {v : Value} {xs : List Value} (h : w.ownsRow 0 e size v n xs) (x : Ext m w w') (hn : ∀ b, v.ownBlock = some b → ¬ m b) : w'.ownsRow 0 e size v n xs := by
  refine ⟨h.1, ?_⟩
  rcases h.2 with h2 | ⟨g, cap, cur, hv, hb, hg, hr⟩
  · exact .inl h2
  · exact .inr ⟨g, cap, cur, hv, hb, x.get hg (hn g (by rw [hv]; rfl)), hr⟩
theorem Grows.step {e size : Nat} {a : Option Addr} {n c : Nat} {cs : List Value} (h : Grows e size w o k a n c cs) (s : Step K w o w' o') (hk : ¬ K k) : Grows e size w' o' k a n c cs := by
  refine ⟨owns_ext' h.own s.ext fun b hb ⟨i, h1, h2⟩ => ?_, fun ad ha => ?_⟩
  · cases a with
    | none => simp [Value.ownBlock] at hb
    | some ad =>
      simp only [Value.ownBlock, Option.some.injEq] at hb
      subst hb
      rw [(h.tg ad rfl).1] at h1; cases h1; exact hk h2
  · have := h.tg ad ha
    exact ⟨by rw [s.own this.2]; exact this.1, Nat.lt_of_lt_of_le this.2 s.size⟩
theorem Grows.nil (e size : Nat) (w : World) (o : Own) (k : Nat) : Grows e size w o k none 0 0 [] := ⟨⟨by simp, .inl ⟨rfl, rfl⟩⟩, fun ad ha => by cases ha⟩
theorem Grows.push {P : Program} {t ty e : TypeId} {i : TypeInfo} {z : Value} {size bytes : Nat} (ht : P.underlying t = some (.slice e)) (hi : P.info? e = some i) (hz : i.zero = some z)
    (hsize : i.size = size) (hby : i.bytes = bytes) (hzs : z.cells.size = size) (hsz : 0 < size) {a : Option Addr} {n c : Nat} {cs : List Value} (h : Grows e size w o k a n c cs) (ok : Tags w o) (hk : k < w.heap.size)
    {xa : Option Addr} {m xc : Nat} {news : List Value} (hl : news.length = m * size) (hnews : RowAt w xa news) (h1 : ∀ u ∈ news, u.oneCell' = true) (hb : (n + m) * bytes ≤ 140737488355328) (h63 : n + m ≤ 9223372036854775807) :
    ∃ a' c' w' o', (Builtin.append_ #[t, t] ty #[.slice a n c, .slice xa m xc]).run P w = .ok (.slice a' (n + m) c') w' ∧ Step (fun j => j = k) w o w' o' ∧ Grows e size w' o' k a' (n + m) c' (cs ++ news) ∧
      (∀ b, b < w.heap.size → (∀ ad, a = some ad → b ≠ ad.block) → w'.heap[b]? = w.heap[b]?) ∧ (∀ ad, a' = some ad → (∃ b, a = some b ∧ ad.block = b.block) ∨ ad.block = w.heap.size) := by
  obtain ⟨a', c', w', hr, ho, hg, hbk⟩ := Q1h (ty := ty) ht hi hz hsize hby hzs hsz h.own (xa := xa) (m := m) (c := xc) hl hnews h1 hb h63
  have hrow : ∀ q, (Value.slice a n c).ownBlock = some q → o q = some k ∧ q < w.heap.size ∧ ∃ ad, a = some ad ∧ q = ad.block := fun q hq => by
    cases a with
    | none => simp [Value.ownBlock] at hq
    | some ad => simp only [Value.ownBlock, Option.some.injEq] at hq; subst hq; exact ⟨(h.tg ad rfl).1, (h.tg ad rfl).2, ad, rfl, rfl⟩
  have X : Ext (fun b => (Value.slice a n c).ownBlock = some b) w w' := Ext.of_grown hg fun q hq => .inl hq
  have s : Step (fun j => j = k) w o w' (grow w o) := Step.of_ext X ok fun b hb _ => (hrow b hb).1
  refine ⟨a', c', w', tag (grow w o) w.heap.size k, hr, s.tag (Nat.le_refl _) (Nat.lt_of_lt_of_le hk s.size), ⟨ho, fun ad ha => ?_⟩, fun b hb hne => X.block b hb fun hq => ?_, fun ad ha => ?_⟩
  · have hlt := (Q0R ho).2 ad ha
    subst ha
    refine ⟨?_, hlt⟩
    rcases hbk with hq | hq
    · obtain ⟨q1, q2, _⟩ := hrow _ hq.symm
      rw [tag_ne (by omega), grow_lt q2]; exact q1
    · simp only [Value.ownBlock, Option.some.injEq] at hq
      rw [hq]; exact Q0O
  · obtain ⟨_, _, ad, ha, rfl⟩ := hrow b hq
    exact hne ad ha rfl
  · subst ha
    rcases hbk with hq | hq
    · obtain ⟨_, _, b, hb1, hb2⟩ := hrow _ hq.symm
      exact .inl ⟨b, hb1, hb2⟩
    · simp only [Value.ownBlock, Option.some.injEq] at hq; exact .inr hq
end
end Go.Mx
set_option maxRecDepth 20000
namespace Go.Proofs.Ytebghegecofmhaa
open Go Go.Mx Go.Proofs
theorem follows : Try.prog.follows .mixedOrders = true := by kernel_rfl
end Go.Proofs.Ytebghegecofmhaa
namespace Go.Proofs.Ytebghegecofmhaa
open Go Go.Mx Go.Proofs
def clone64.M (a2 : Option Addr) (a7 a6 : Nat) (R : RW) (w : World) : Prop :=
 bif Option.isNone a2 then (
 R (.slice none 0 0) w) else (
 thenW (w.alloc (.cells #[] 27)) fun a5 =>
 ∃ (a1 : Option Addr) (a3 a0 : Nat) (a4 : World), (Builtin.append_ #[55, 55] 55 #[.slice (some (blk w.heap.size)) 0 0, .slice a2 a7 a6]).run Try.prog a5 = .ok (.slice a1 a3 a0) a4 ∧
 R (.slice a1 a3 a0) a4)

theorem clone64.ok (a2 : Option Addr) (a1 a0 : Nat) {R : RW} {w : World} (h : clone64.M a2 a1 a0 R w) : Calls Try.prog 17 #[.slice a2 a1 a0] w fun e w' => ∃ v, e = .returned v ∧ R v w' :=
  Q0m follows (H := []) (args := [.slice a2 a1 a0]) (cast (by kernel_rfl) h)

def oNew.M (a3 : Option Addr) (a4 a5 : Nat) (R : RW) (w : World) : Prop :=
 Calls Try.prog 17 #[.slice a3 a4 a5] w fun ah ag => ∃ (a0 : Option Addr) (a2 a1 : Nat), ah = .returned (.slice a0 a2 a1) ∧
 thenW (ag.alloc (.map #[] 0)) fun ac =>
 thenW (ac.alloc (.map #[] 0)) fun ae =>
 thenW (ae.alloc (.map #[] 0)) fun af =>
 thenW (af.alloc (.map #[] 0)) fun ad =>
 thenW (ad.alloc (.map #[] 0)) fun ab =>
 thenW (ab.alloc (.map #[] 0)) fun a7 =>
 thenW (a7.alloc (.map #[] 0)) fun a8 =>
 thenW (a8.alloc (.map #[] 0)) fun a6 =>
 thenW (a6.alloc (.map #[] 0)) fun a9 =>
 thenW (a9.alloc (.cells #[.slice a0 a2 a1, .map (some ag.heap.size), .int .u64 1, .map (some ac.heap.size), .map (some ae.heap.size), .map (some af.heap.size), .map (some ad.heap.size), .map (some ab.heap.size), .map (some a7.heap.size), .map (some a8.heap.size), .map (some a6.heap.size)] 65)) fun aa =>
 R (.pointer (some (blk a9.heap.size))) aa

theorem oNew.ok (a1 : Option Addr) (a2 a0 : Nat) {R : RW} {w : World} (h : oNew.M a1 a2 a0 R w) : Calls Try.prog 5 #[.slice a1 a2 a0] w fun e w' => ∃ v, e = .returned v ∧ R v w' :=
  Q0m follows (H := []) (args := [.slice a1 a2 a0]) (cast (by kernel_rfl) h)

def oTake.M (o1 : Option Addr) (h2 : Int) (R : RW) (w : World) : Prop :=
 bif h2 == 0 then (
 R (.bool false) w) else (
 o1.elim False fun a3 =>
 ∃ (a1 : Option Nat), w.cell? (a3.add 1) = some (.map a1) ∧
 ∃ (v5 : Bool), (Instr.lookup 57 (.map a1) (.int .u64 h2) false).run Try.prog w = .ok (.bool v5) w ∧
 bif v5 then (
 R (.bool false) w) else (
 o1.elim False fun a6 =>
 ∃ (a0 : Option Nat), w.cell? (a6.add 1) = some (.map a0) ∧
 ∃ a2 : World, (Instr.mapUpdate 57 (.map a0) (.int .u64 h2) (.bool true)).run Try.prog w = .ok () a2 ∧
 R (.bool true) a2))

theorem oTake.ok (o1 : Option Addr) (h2 : Int) {R : RW} {w : World} (h : oTake.M o1 h2 R w) : Calls Try.prog 31 #[.pointer o1, .int .u64 h2] w fun e w' => ∃ v, e = .returned v ∧ R v w' :=
  Q0m follows (H := []) (args := [.pointer o1, .int .u64 h2]) (cast (by kernel_rfl) h)

def oFresh.M (o1 : Option Addr) (R : RW) (w : World) : Prop :=
 ∃ (I0 : Nat → List Value → World → Prop) (m2 : Nat), I0 m2 [] w ∧ ∀ (m3 : Nat) (ai : World), I0 m3 [] ai →
 o1.elim False fun a5 =>
 ∃ (ah : Option Addr) (a6 af : Nat), ai.cell? (a5.add 0) = some (.slice ah a6 af) ∧
 bif decide ((a6 : Int) > 0) then (
 o1.elim False fun a7 =>
 ∃ (a3 : Option Addr) (a4 ag : Nat), ai.cell? (a7.add 0) = some (.slice a3 a4 ag) ∧
 a3.elim False fun a9 =>
 0 ≤ (0 : Int) ∧ (0 : Int) < (a4 : Int) ∧
 ∃ (ap : Int), ai.cell? (a9.add (Int.toNat 0 * 1)) = some (.int .u64 ap) ∧
 o1.elim False fun ax =>
 ∃ (a1 : Option Addr) (a0 a2 : Nat), ai.cell? (ax.add 0) = some (.slice a1 a0 a2) ∧
 (0 : Int) ≤ (1 : Int) ∧ (1 : Int) ≤ (a0 : Int) ∧
 o1.elim False fun ar =>
 Q06 ai ((ar.add 0).add 0) ∧
 thenW (ai.setCell ((ar.add 0).add 0) (.slice (if a2 = Int.toNat 1 then a1 else Option.map (fun z : Addr => z.add ((Int.toNat 1) * 1)) a1) (a0 - (Int.toNat 1)) (a2 - (Int.toNat 1)))) fun am =>
 Calls Try.prog 31 #[.pointer o1, .int .u64 ap] am fun ao ak => ∃ (ad : Bool), ao = .returned (.bool ad) ∧
 bif ad then (
 R (.int .u64 ap) ak) else (
 ∃ aq, aq < m3 ∧ I0 aq [] ak)) else (
 ∃ (I2 : Nat → List Value → World → Prop) (az : Nat), I2 az [] ai ∧ ∀ (av : Nat) (aj : World), I2 av [] aj →
 o1.elim False fun b1 =>
 ∃ (ab : Int), aj.cell? (b1.add 2) = some (.int .u64 ab) ∧
 Calls Try.prog 31 #[.pointer o1, .int .u64 ab] aj fun an aa => ∃ (ac : Bool), an = .returned (.bool ac) ∧
 bif !ac then (
 o1.elim False fun b0 =>
 ∃ (ae : Int), aa.cell? (b0.add 2) = some (.int .u64 ae) ∧
 o1.elim False fun au =>
 Q06 aa ((au.add 2).add 0) ∧
 thenW (aa.setCell ((au.add 2).add 0) (.int .u64 (IntKind.u64.wrap (ae + 1)))) fun al =>
 ∃ aw, aw < av ∧ I2 aw [] al) else (
 o1.elim False fun ay =>
 ∃ (a8 : Int), aa.cell? (ay.add 2) = some (.int .u64 a8) ∧
 R (.int .u64 a8) aa))

theorem oFresh.ok (o1 : Option Addr) {R : RW} {w : World} (h : oFresh.M o1 R w) : Calls Try.prog 18 #[.pointer o1] w fun e w' => ∃ v, e = .returned v ∧ R v w' :=
  Q0m follows (H := [(0, [0, 3], []), (2, [0, 3], [])]) (args := [.pointer o1]) (cast (by kernel_rfl) h)

def oPair.M (o1 : Option Addr) (R : RW) (w : World) : Prop :=
 bif Option.isNone o1 then (
 R (.tuple #[.int .u64 0, .int .u64 0]) w) else (
 Calls Try.prog 18 #[.pointer o1] w fun aa a8 => ∃ (a1 : Int), aa = .returned (.int .u64 a1) ∧
 o1.elim False fun a5 =>
 ∃ (a2 : Option Nat), a8.cell? (a5.add 5) = some (.map a2) ∧
 ∃ a7 : World, (Instr.mapUpdate 57 (.map a2) (.int .u64 a1) (.bool true)).run Try.prog a8 = .ok () a7 ∧
 Calls Try.prog 18 #[.pointer o1] a7 fun ab a4 => ∃ (a3 : Int), ab = .returned (.int .u64 a3) ∧
 o1.elim False fun a9 =>
 ∃ (a0 : Option Nat), a4.cell? (a9.add 6) = some (.map a0) ∧
 ∃ a6 : World, (Instr.mapUpdate 59 (.map a0) (.int .u64 a3) (.int .u64 a1)).run Try.prog a4 = .ok () a6 ∧
 R (.tuple #[.int .u64 a1, .int .u64 a3]) a6)

theorem oPair.ok (o1 : Option Addr) {R : RW} {w : World} (h : oPair.M o1 R w) : Calls Try.prog 6 #[.pointer o1] w fun e w' => ∃ v, e = .returned v ∧ R v w' :=
  Q0m follows (H := []) (args := [.pointer o1]) (cast (by kernel_rfl) h)

def oSign.M (o1 : Option Addr) (aa : Int) (av : Option Addr) (b2 b0 : Nat) (R : RW) (w : World) : Prop :=
 bif Option.isNone o1 then (
 R (.tuple #[.int .u64 0, .int .i64 23]) w) else (
 o1.elim False fun a4 =>
 ∃ (a8 : Option Nat), w.cell? (a4.add 5) = some (.map a8) ∧
 ∃ (v6 : Bool), (Instr.lookup 57 (.map a8) (.int .u64 aa) false).run Try.prog w = .ok (.bool v6) w ∧
 bif !v6 then (
 R (.tuple #[.int .u64 0, .int .i64 11]) w) else (
 ∃ (s7 : ByteArray), (convert 34 9 (.slice av b2 b0)).run Try.prog w = .ok (.string s7) w ∧
 thenW (w.alloc (.cells #[.int .u64 0, .string ByteArray.empty] 89)) fun ar =>
 Q06 ar ((blk w.heap.size).add 0) ∧
 thenW (ar.setCell ((blk w.heap.size).add 0) (.int .u64 aa)) fun ao =>
 Q06 ao ((blk w.heap.size).add 1) ∧
 thenW (ao.setCell ((blk w.heap.size).add 1) (.string s7)) fun aj =>
 thenW (aj.drew) fun ad =>
 o1.elim False fun az =>
 ∃ (a9 : Option Nat), ad.cell? (az.add 7) = some (.map a9) ∧
 ∃ (a6 : Int) (ac : ByteArray), cellsAt ad (blk w.heap.size) [.int .u64 a6, .string ac] 0 ∧
 ∃ (am : Int) (ap : Bool), (Instr.lookup 60 (.map a9) (.agg #[.int .u64 a6, .string ac]) true).run Try.prog ad = .ok (.tuple #[.int .u64 am, .bool ap]) ad ∧
 bif !ap then (
 Calls Try.prog 18 #[.pointer o1] ad fun al ak => ∃ (a2 : Int), al = .returned (.int .u64 a2) ∧
 thenW (ak.drew) fun ae =>
 o1.elim False fun b1 =>
 ∃ (a7 : Option Nat), ae.cell? (b1.add 7) = some (.map a7) ∧
 ∃ (a5 : Int) (ab : ByteArray), cellsAt ae (blk w.heap.size) [.int .u64 a5, .string ab] 0 ∧
 o1.elim False fun ax =>
 ∃ (a3 : Option Nat), ae.cell? (ax.add 8) = some (.map a3) ∧
 ∃ (a0 : Int) (a1 : ByteArray), cellsAt ae (blk w.heap.size) [.int .u64 a0, .string a1] 0 ∧
 ∃ (au : Int), ∃ (an : Int) (ah : World), (Instr.mapEntry 60 (.map a7) (.agg #[.int .u64 a5, .string ab])).run Try.prog ae = .ok (.tuple #[.int .u64 au, .int .i64 an]) ah ∧
 cellsAt ah (blk w.heap.size) [.int .u64 a0, .string a1] 0 ∧
 ∃ af : World, (Instr.entryStore 60 (.map a7) (.int .i64 an) (.int .u64 a2)).run Try.prog ah = .ok () af ∧
 cellsAt af (blk w.heap.size) [.int .u64 a0, .string a1] 0 ∧
 ∃ (ay : Int) (aw : ByteArray), ∃ (aq : Int) (ag : World), (Instr.mapEntry 61 (.map a3) (.int .u64 a2)).run Try.prog af = .ok (.tuple #[.agg #[.int .u64 ay, .string aw], .int .i64 aq]) ag ∧
 cellsAt ag (blk w.heap.size) [.int .u64 a0, .string a1] 0 ∧
 ∃ ai : World, (Instr.entryStore 61 (.map a3) (.int .i64 aq) (.agg #[.int .u64 a0, .string a1])).run Try.prog ag = .ok () ai ∧
 R (.tuple #[.int .u64 a2, .int .i64 0]) ai) else (
 R (.tuple #[.int .u64 am, .int .i64 0]) ad)))

theorem oSign.ok (o1 : Option Addr) (a0 : Int) (a2 : Option Addr) (a1 a3 : Nat) {R : RW} {w : World} (h : oSign.M o1 a0 a2 a1 a3 R w) : Calls Try.prog 20 #[.pointer o1, .int .u64 a0, .slice a2 a1 a3] w fun e w' => ∃ v, e = .returned v ∧ R v w' :=
  Q0m follows (H := []) (args := [.pointer o1, .int .u64 a0, .slice a2 a1 a3]) (cast (by kernel_rfl) h)

def oVerify.M (o1 : Option Addr) (a7 : Int) (ag : Option Addr) (ai ah : Nat) (ac : Int) (R : RW) (w : World) : Prop :=
 bif Option.isNone o1 then (
 R (.bool false) w) else (
 o1.elim False fun a5 =>
 ∃ (a1 : Option Nat), w.cell? (a5.add 6) = some (.map a1) ∧
 ∃ (v7 : Int) (v8 : Bool), (Instr.lookup 59 (.map a1) (.int .u64 a7) true).run Try.prog w = .ok (.tuple #[.int .u64 v7, .bool v8]) w ∧
 o1.elim False fun a9 =>
 ∃ (a2 : Option Nat), w.cell? (a9.add 8) = some (.map a2) ∧
 ∃ (a3 : Int) (a8 : ByteArray) (ae : Bool), (Instr.lookup 61 (.map a2) (.int .u64 ac) true).run Try.prog w = .ok (.tuple #[.agg #[.int .u64 a3, .string a8], .bool ae]) w ∧
 thenW (w.alloc (.cells #[.int .u64 0, .string ByteArray.empty] 89)) fun ab =>
 Q06 ab ((blk w.heap.size).add 0) ∧
 thenW (ab.setCell ((blk w.heap.size).add 0) (.int .u64 a3)) fun aa =>
 Q06 aa ((blk w.heap.size).add 1) ∧
 thenW (aa.setCell ((blk w.heap.size).add 1) (.string a8)) fun a4 =>
 bif v8 then (
 bif ae then (
 ∃ (a0 : Int) (a6 : ByteArray), cellsAt a4 (blk w.heap.size) [.int .u64 a0, .string a6] 0 ∧
 ∃ (af : ByteArray), (convert 34 9 (.slice ag ai ah)).run Try.prog a4 = .ok (.string af) a4 ∧
 ∃ (ad : Bool), (binOp .eql 89 (.agg #[.int .u64 a0, .string a6]) (.agg #[.int .u64 v7, .string af])).run Try.prog a4 = .ok (.bool ad) a4 ∧
 R (.bool ad) a4) else (
 R (.bool false) a4)) else (
 R (.bool false) a4))

theorem oVerify.ok (o1 : Option Addr) (a0 : Int) (a2 : Option Addr) (a4 a3 : Nat) (a1 : Int) {R : RW} {w : World} (h : oVerify.M o1 a0 a2 a4 a3 a1 R w) : Calls Try.prog 36 #[.pointer o1, .int .u64 a0, .slice a2 a4 a3, .int .u64 a1] w fun e w' => ∃ v, e = .returned v ∧ R v w' :=
  Q0m follows (H := []) (args := [.pointer o1, .int .u64 a0, .slice a2 a4 a3, .int .u64 a1]) (cast (by kernel_rfl) h)

theorem inf27 : (Try.prog.info? 27).map (fun i => (i.zero, i.size, i.bytes)) = some (some (.int .u64 0), 1, 8) := by kernel_rfl
theorem inf4 : (Try.prog.info? 4).map (fun i => (i.zero, i.size, i.bytes)) = some (some (.bool false), 1, 1) := by kernel_rfl
end Go.Proofs.Ytebghegecofmhaa
namespace Go.Proofs.Ytebghegecofmhaa
open Go Go.Mx Go.Proofs

structure Sealed where
  key : Int
  bound : List UInt8
  plain : List UInt8
structure OS where
  draws : List Int
  used : List Int
  next : Int
  hashes : List (List UInt8 × Int)
  keys : List Int
  secrets : List Int
  publics : List (Int × Int)
  signs : List ((Int × List UInt8) × Int)
  signed : List (Int × (Int × List UInt8))
  sealed : List (Int × Sealed)
  wrapped : List (Int × (Int × Int))

structure OG where
  p : Nat
  used : Nat
  hashes : Nat
  keys : Nat
  secrets : Nat
  publics : Nat
  signs : Nat
  signed : Nat
  sealed : Nat
  wrapped : Nat
  x : Nat → Prop
def OG.list (g : OG) : List Nat := [g.p, g.used, g.hashes, g.keys, g.secrets, g.publics, g.signs, g.signed, g.sealed, g.wrapped]
def OG.m (g : OG) : Nat → Prop := fun b => b ∈ g.list
def OG.M (g : OG) : Nat → Prop := fun b => g.m b ∨ g.x b

def u64V (n : Int) : Value := .int .u64 n
def signedV (x : Int × List UInt8) : Value := .agg #[.int .u64 x.1, strV x.2]
def bset (l : List Int) : List (Int × Value) := l.map fun n => (n, .bool true)
def SealedV (w : World) (m : Nat → Prop) (s : Sealed) (v : Value) : Prop :=
  ∃ ba bc pa pc, v = .agg #[.int .u64 s.key, .slice ba s.bound.length bc, .slice pa s.plain.length pc] ∧ RowAt w ba (bytesV s.bound) ∧ (bytesV s.bound ≠ [] → Out m ba) ∧ RowAt w pa (bytesV s.plain) ∧ (bytesV s.plain ≠ [] → Out m pa)
def SealedL (w : World) (m : Nat → Prop) : List (Int × Sealed) → List (Int × Value) → Prop
  | [], [] => True
  | p :: r, q :: s => p.1 = q.1 ∧ SealedV w m p.2 q.2 ∧ SealedL w m r s
  | _, _ => False

def OrcP (w : World) (g : OG) (draws : List Int) (next : Int) : Prop :=
  ∃ da dc, Blk w g.p 65 [.slice da draws.length dc, .map (some g.used), .int .u64 next, .map (some g.hashes), .map (some g.keys), .map (some g.secrets), .map (some g.publics), .map (some g.signs), .map (some g.signed), .map (some g.sealed), .map (some g.wrapped)] ∧
    draws.length ≤ dc ∧ RowAt w da (draws.map u64V) ∧ (draws.map u64V ≠ [] → Out g.M da)

structure Orc (w : World) (g : OG) (S : OS) : Prop where
  nd : g.list.Nodup
  st : OrcP w g S.draws S.next
  used : MapIs w g.used u64V (bset S.used)
  hashes : MapIs w g.hashes strV (S.hashes.map fun p => (p.1, u64V p.2))
  keys : MapIs w g.keys u64V (bset S.keys)
  secrets : MapIs w g.secrets u64V (bset S.secrets)
  publics : MapIs w g.publics u64V (S.publics.map fun p => (p.1, u64V p.2))
  signs : MapIs w g.signs signedV (S.signs.map fun p => (p.1, u64V p.2))
  signed : MapIs w g.signed u64V (S.signed.map fun p => (p.1, signedV p.2))
  sealed : ∃ lv, MapIs w g.sealed u64V lv ∧ SealedL w g.M S.sealed lv
  wrapped : MapIs w g.wrapped u64V (S.wrapped.map fun p => (p.1, .agg #[.int .u64 p.2.1, .int .u64 p.2.2]))
  xm : ∀ b, g.m b → ¬ g.x b
  xlt : ∀ b, g.x b → b < w.heap.size

theorem SealedL.ext {w w' : World} {m n : Nat → Prop} (k : Ext n w w') (hn : ∀ b, n b → m b) : ∀ {l : List (Int × Sealed)} {lv : List (Int × Value)}, SealedL w m l lv → SealedL w' m l lv
  | [], [], _ => trivial
  | p :: r, q :: s, h => by
    obtain ⟨h1, ⟨ba, bc, pa, pc, hv, h2, h3, h4, h5⟩, h6⟩ := h
    exact ⟨h1, ⟨ba, bc, pa, pc, hv, h2.ext' k (fun h0 ad ha hb => h3 h0 ad ha (hn _ hb)), h3, h4.ext' k (fun h0 ad ha hb => h5 h0 ad ha (hn _ hb)), h5⟩, SealedL.ext k hn h6⟩
  | [], _ :: _, h => h.elim
  | _ :: _, [], h => h.elim
theorem OrcP.ext {w w' : World} {g : OG} {d : List Int} {x : Int} {n : Nat → Prop} (h : OrcP w g d x) (k : Ext n w w') (hn : ∀ b, n b → g.M b) (hp : ¬ n g.p) : OrcP w' g d x := by
  obtain ⟨da, dc, h1, h2, h3, h4⟩ := h
  exact ⟨da, dc, h1.ext k hp, h2, h3.ext' k (fun h0 ad ha hb => h4 h0 ad ha (hn _ hb)), h4⟩

section
variable {w w' : World} {g : OG} {S : OS}
theorem m_list {g : OG} : g.m g.p ∧ g.m g.used ∧ g.m g.hashes ∧ g.m g.keys ∧ g.m g.secrets ∧ g.m g.publics ∧ g.m g.signs ∧ g.m g.signed ∧ g.m g.sealed ∧ g.m g.wrapped := by simp [OG.m, OG.list]
theorem Orc.ext {m : Nat → Prop} (h : Orc w g S) (k : Ext m w w') (hd : ∀ b, b < w.heap.size → m b → g.x b) : Orc w' g S := by
  have k' : Ext g.x w w' := k.mono fun b hb hlt => hd b hlt hb
  obtain ⟨lv, h1, h2⟩ := h.sealed
  obtain ⟨q1, q2, q3, q4, q5, q6, q7, q8, q9, q10⟩ := m_list (g := g)
  exact ⟨h.nd, h.st.ext k' (fun b hb => .inr hb) (h.xm _ q1), h.used.ext k' (h.xm _ q2), h.hashes.ext k' (h.xm _ q3), h.keys.ext k' (h.xm _ q4), h.secrets.ext k' (h.xm _ q5), h.publics.ext k' (h.xm _ q6), h.signs.ext k' (h.xm _ q7), h.signed.ext k' (h.xm _ q8), ⟨lv, h1.ext k' (h.xm _ q9), h2.ext k' fun b hb => .inr hb⟩, h.wrapped.ext k' (h.xm _ q10), h.xm, fun b hb => Nat.lt_of_lt_of_le (h.xlt b hb) k.size⟩
theorem Orc.none (h : Orc w g S) (k : Ext no w w') : Orc w' g S := h.ext k fun b _ hb => hb.elim
theorem Orc.mlt (h : Orc w g S) : ∀ b, g.m b → b < w.heap.size := fun b hb => by
  obtain ⟨da, dc, hp, _⟩ := h.st
  obtain ⟨lv, hse, _⟩ := h.sealed
  simp only [OG.m, OG.list, List.mem_cons, List.not_mem_nil, or_false] at hb
  rcases hb with rfl | rfl | rfl | rfl | rfl | rfl | rfl | rfl | rfl | rfl
  · exact hp.lt
  · exact h.used.lt
  · exact h.hashes.lt
  · exact h.keys.lt
  · exact h.secrets.lt
  · exact h.publics.lt
  · exact h.signs.lt
  · exact h.signed.lt
  · exact hse.lt
  · exact h.wrapped.lt
def OG.more (g : OG) (w w' : World) : OG := { g with x := fun b => g.x b ∨ (w.heap.size ≤ b ∧ b < w'.heap.size) }
theorem SealedL.wide {w : World} {m n : Nat → Prop} (hn : ∀ b, n b → m b ∨ w.heap.size ≤ b) : ∀ {l : List (Int × Sealed)} {lv : List (Int × Value)}, SealedL w m l lv → SealedL w n l lv
  | [], [], _ => trivial
  | p :: r, q :: s, h => by
    obtain ⟨h1, ⟨ba, bc, pa, pc, hv, h2, h3, h4, h5⟩, h6⟩ := h
    refine ⟨h1, ⟨ba, bc, pa, pc, hv, h2, fun h0 ad ha hb => ?_, h4, fun h0 ad ha hb => ?_⟩, SealedL.wide hn h6⟩
    · rcases hn _ hb with h | h
      · exact h3 h0 ad ha h
      · have := h2.lt h0 ha; omega
    · rcases hn _ hb with h | h
      · exact h5 h0 ad ha h
      · have := h4.lt h0 ha; omega
  | [], _ :: _, h => h.elim
  | _ :: _, [], h => h.elim
theorem Orc.foreign {n : Nat → Prop} (h : Orc w g S) (k : Ext n w w') (hd : ∀ b, b < w.heap.size → n b → g.x b) : Orc w' (g.more w w') S := by
  have hw := h.ext k hd
  have k' : Ext g.x w w' := k.mono fun b hb hlt => hd b hlt hb
  have hM : ∀ b, (g.more w w').M b → g.M b ∨ w.heap.size ≤ b := fun b hb => by
    rcases hb with hb | hb | hb
    · exact .inl (.inl hb)
    · exact .inl (.inr hb)
    · exact .inr hb.1
  obtain ⟨lv, h1, h2⟩ := h.sealed
  obtain ⟨lv', h1', h2'⟩ := hw.sealed
  obtain ⟨da, dc, hp, h3, h4, h5⟩ := h.st
  refine ⟨hw.nd, ⟨da, dc, hp.ext k' (h.xm _ m_list.1), h3, h4.ext' k' (fun h0 ad ha hb => h5 h0 ad ha (.inr hb)), fun h0 ad ha hb => ?_⟩, hw.used, hw.hashes, hw.keys, hw.secrets, hw.publics, hw.signs, hw.signed,
    ⟨lv, h1.ext k' (h.xm _ m_list.2.2.2.2.2.2.2.2.1), (h2.wide hM).ext k' fun b hb => .inr (.inl hb)⟩, hw.wrapped, fun b hb hx => ?_, fun b hb => ?_⟩
  · rcases hM _ hb with h | h
    · exact h5 h0 ad ha h
    · have := h4.lt h0 ha; omega
  · rcases hx with hx | hx
    · exact h.xm b hb hx
    · have := h.mlt b hb; omega
  · rcases hb with hb | hb
    · exact Nat.lt_of_lt_of_le (h.xlt b hb) k.size
    · exact hb.2
theorem nd_ne (h : Orc w g S) : g.p ≠ g.used ∧ g.p ≠ g.hashes ∧ g.p ≠ g.keys ∧ g.p ≠ g.secrets ∧ g.p ≠ g.publics ∧ g.p ≠ g.signs ∧ g.p ≠ g.signed ∧ g.p ≠ g.sealed ∧ g.p ≠ g.wrapped ∧
    g.used ≠ g.hashes ∧ g.used ≠ g.keys ∧ g.used ≠ g.secrets ∧ g.used ≠ g.publics ∧ g.used ≠ g.signs ∧ g.used ≠ g.signed ∧ g.used ≠ g.sealed ∧ g.used ≠ g.wrapped ∧
    g.hashes ≠ g.keys ∧ g.hashes ≠ g.secrets ∧ g.hashes ≠ g.publics ∧ g.hashes ≠ g.signs ∧ g.hashes ≠ g.signed ∧ g.hashes ≠ g.sealed ∧ g.hashes ≠ g.wrapped ∧
    g.keys ≠ g.secrets ∧ g.keys ≠ g.publics ∧ g.keys ≠ g.signs ∧ g.keys ≠ g.signed ∧ g.keys ≠ g.sealed ∧ g.keys ≠ g.wrapped ∧
    g.secrets ≠ g.publics ∧ g.secrets ≠ g.signs ∧ g.secrets ≠ g.signed ∧ g.secrets ≠ g.sealed ∧ g.secrets ≠ g.wrapped ∧
    g.publics ≠ g.signs ∧ g.publics ≠ g.signed ∧ g.publics ≠ g.sealed ∧ g.publics ≠ g.wrapped ∧
    g.signs ≠ g.signed ∧ g.signs ≠ g.sealed ∧ g.signs ≠ g.wrapped ∧ g.signed ≠ g.sealed ∧ g.signed ≠ g.wrapped ∧ g.sealed ≠ g.wrapped := by
  have := h.nd
  simp only [OG.list, List.nodup_cons, List.mem_cons, not_or, List.not_mem_nil, not_false_eq_true, List.nodup_nil, and_true] at this
  simp only [this, ne_eq, not_false_eq_true, and_self]

theorem one_sub {g : OG} {b : Nat} (hb : b ∈ g.list) : ∀ c, (fun x => x = b) c → g.M c := fun c hc => by subst hc; exact .inl hb

theorem Orc.set_used (h : Orc w g S) (k : Ext (fun b => b = g.used) w w') {l : List Int} (hl : MapIs w' g.used u64V (bset l)) : Orc w' g { S with used := l } := by
  have hn := nd_ne h
  have hs := one_sub (g := g) (b := g.used) (by simp [OG.list])
  obtain ⟨lv, h1, h2⟩ := h.sealed
  exact ⟨h.nd, h.st.ext k hs (by simp_all), hl, h.hashes.ext k (by simp_all [eq_comm]), h.keys.ext k (by simp_all [eq_comm]), h.secrets.ext k (by simp_all [eq_comm]), h.publics.ext k (by simp_all [eq_comm]), h.signs.ext k (by simp_all [eq_comm]), h.signed.ext k (by simp_all [eq_comm]), ⟨lv, h1.ext k (by simp_all [eq_comm]), h2.ext k hs⟩, h.wrapped.ext k (by simp_all [eq_comm]), h.xm, fun b hb => Nat.lt_of_lt_of_le (h.xlt b hb) k.size⟩
theorem Orc.set_secrets (h : Orc w g S) (k : Ext (fun b => b = g.secrets) w w') {l : List Int} (hl : MapIs w' g.secrets u64V (bset l)) : Orc w' g { S with secrets := l } := by
  have hn := nd_ne h
  have hs := one_sub (g := g) (b := g.secrets) (by simp [OG.list])
  obtain ⟨lv, h1, h2⟩ := h.sealed
  exact ⟨h.nd, h.st.ext k hs (by simp_all), h.used.ext k (by simp_all [eq_comm]), h.hashes.ext k (by simp_all [eq_comm]), h.keys.ext k (by simp_all [eq_comm]), hl, h.publics.ext k (by simp_all [eq_comm]), h.signs.ext k (by simp_all [eq_comm]), h.signed.ext k (by simp_all [eq_comm]), ⟨lv, h1.ext k (by simp_all [eq_comm]), h2.ext k hs⟩, h.wrapped.ext k (by simp_all [eq_comm]), h.xm, fun b hb => Nat.lt_of_lt_of_le (h.xlt b hb) k.size⟩
theorem Orc.set_publics (h : Orc w g S) (k : Ext (fun b => b = g.publics) w w') {l : List (Int × Int)} (hl : MapIs w' g.publics u64V (l.map fun p => (p.1, u64V p.2))) : Orc w' g { S with publics := l } := by
  have hn := nd_ne h
  have hs := one_sub (g := g) (b := g.publics) (by simp [OG.list])
  obtain ⟨lv, h1, h2⟩ := h.sealed
  exact ⟨h.nd, h.st.ext k hs (by simp_all), h.used.ext k (by simp_all [eq_comm]), h.hashes.ext k (by simp_all [eq_comm]), h.keys.ext k (by simp_all [eq_comm]), h.secrets.ext k (by simp_all [eq_comm]), hl, h.signs.ext k (by simp_all [eq_comm]), h.signed.ext k (by simp_all [eq_comm]), ⟨lv, h1.ext k (by simp_all [eq_comm]), h2.ext k hs⟩, h.wrapped.ext k (by simp_all [eq_comm]), h.xm, fun b hb => Nat.lt_of_lt_of_le (h.xlt b hb) k.size⟩
theorem Orc.set_signs (h : Orc w g S) (k : Ext (fun b => b = g.signs) w w') {l : List ((Int × List UInt8) × Int)} (hl : MapIs w' g.signs signedV (l.map fun p => (p.1, u64V p.2))) : Orc w' g { S with signs := l } := by
  have hn := nd_ne h
  have hs := one_sub (g := g) (b := g.signs) (by simp [OG.list])
  obtain ⟨lv, h1, h2⟩ := h.sealed
  exact ⟨h.nd, h.st.ext k hs (by simp_all), h.used.ext k (by simp_all [eq_comm]), h.hashes.ext k (by simp_all [eq_comm]), h.keys.ext k (by simp_all [eq_comm]), h.secrets.ext k (by simp_all [eq_comm]), h.publics.ext k (by simp_all [eq_comm]), hl, h.signed.ext k (by simp_all [eq_comm]), ⟨lv, h1.ext k (by simp_all [eq_comm]), h2.ext k hs⟩, h.wrapped.ext k (by simp_all [eq_comm]), h.xm, fun b hb => Nat.lt_of_lt_of_le (h.xlt b hb) k.size⟩
theorem Orc.set_signed (h : Orc w g S) (k : Ext (fun b => b = g.signed) w w') {l : List (Int × (Int × List UInt8))} (hl : MapIs w' g.signed u64V (l.map fun p => (p.1, signedV p.2))) : Orc w' g { S with signed := l } := by
  have hn := nd_ne h
  have hs := one_sub (g := g) (b := g.signed) (by simp [OG.list])
  obtain ⟨lv, h1, h2⟩ := h.sealed
  exact ⟨h.nd, h.st.ext k hs (by simp_all), h.used.ext k (by simp_all [eq_comm]), h.hashes.ext k (by simp_all [eq_comm]), h.keys.ext k (by simp_all [eq_comm]), h.secrets.ext k (by simp_all [eq_comm]), h.publics.ext k (by simp_all [eq_comm]), h.signs.ext k (by simp_all [eq_comm]), hl, ⟨lv, h1.ext k (by simp_all [eq_comm]), h2.ext k hs⟩, h.wrapped.ext k (by simp_all [eq_comm]), h.xm, fun b hb => Nat.lt_of_lt_of_le (h.xlt b hb) k.size⟩
theorem Orc.set_p (h : Orc w g S) (k : Ext (fun b => b = g.p) w w') {d : List Int} {x : Int} (hl : OrcP w' g d x) : Orc w' g { S with draws := d, next := x } := by
  have hn := nd_ne h
  have hs := one_sub (g := g) (b := g.p) (by simp [OG.list])
  obtain ⟨lv, h1, h2⟩ := h.sealed
  exact ⟨h.nd, hl, h.used.ext k (by simp_all [eq_comm]), h.hashes.ext k (by simp_all [eq_comm]), h.keys.ext k (by simp_all [eq_comm]), h.secrets.ext k (by simp_all [eq_comm]), h.publics.ext k (by simp_all [eq_comm]), h.signs.ext k (by simp_all [eq_comm]), h.signed.ext k (by simp_all [eq_comm]), ⟨lv, h1.ext k (by simp_all [eq_comm]), h2.ext k hs⟩, h.wrapped.ext k (by simp_all [eq_comm]), h.xm, fun b hb => Nat.lt_of_lt_of_le (h.xlt b hb) k.size⟩
end

theorem Q1I {l : List Int} {h : Int} : mlook (bset l) h = if h ∈ l then some (.bool true) else none := by
  induction l with
  | nil => rfl
  | cons a r ih =>
    simp only [bset, List.map_cons, mlook] at ih ⊢
    by_cases ha : a = h
    · simp [ha]
    · simp only [ha, if_false, List.mem_cons, Ne.symm ha, false_or]; exact ih
theorem Q2Q {l : List Int} {h : Int} (hn : h ∉ l) : mput (bset l) h (.bool true) = bset (l ++ [h]) := by
  induction l with
  | nil => rfl
  | cons a r ih =>
    simp only [List.mem_cons, not_or] at hn
    simp only [bset, List.map_cons, List.cons_append, mput, Ne.symm hn.1, if_false] at ih ⊢
    rw [ih hn.2]
theorem Q2S {l : List Int} {h : Int} (hn : h ∈ l) : mput (bset l) h (.bool true) = bset l := by
  induction l with
  | nil => cases hn
  | cons a r ih =>
    simp only [bset, List.map_cons, mput] at ih ⊢
    by_cases ha : a = h
    · simp [ha]
    · simp only [ha, if_false]
      rw [ih (by rcases List.mem_cons.1 hn with h | h; exact absurd h.symm ha; exact h)]

/-! ### lists of pairs -/
section
variable {κ β : Type} [DecidableEq κ]
def alook : List (κ × β) → κ → Option β
  | [], _ => none
  | p :: r, x => if p.1 = x then some p.2 else alook r x
def aput : List (κ × β) → κ → β → List (κ × β)
  | [], x, v => [(x, v)]
  | p :: r, x, v => if p.1 = x then (x, v) :: r else p :: aput r x v
theorem Q0X (f : β → Value) : ∀ (l : List (κ × β)) (x : κ), mlook (l.map fun p => (p.1, f p.2)) x = (alook l x).map f
  | [], x => rfl
  | p :: r, x => by
    simp only [List.map_cons, mlook, alook]
    by_cases h : p.1 = x
    · simp [h]
    · simp only [h, if_false]; exact Q0X f r x
theorem Q1U (f : β → Value) : ∀ (l : List (κ × β)) (x : κ) (v : β), mput (l.map fun p => (p.1, f p.2)) x (f v) = (aput l x v).map fun p => (p.1, f p.2)
  | [], x, v => rfl
  | p :: r, x, v => by
    simp only [List.map_cons, mput, aput]
    by_cases h : p.1 = x
    · simp [h]
    · simp only [h, if_false, List.map_cons]; rw [Q1U f r x v]
theorem Q0z : ∀ (l : List (κ × β)) (x y : κ) (v : β), alook (aput l x v) y = if x = y then some v else alook l y
  | [], x, y, v => rfl
  | p :: r, x, y, v => by
    simp only [aput]
    by_cases h : p.1 = x
    · subst h; simp only [if_true, alook]; split <;> rfl
    · simp only [h, if_false, alook, Q0z r x y v]
      by_cases h2 : p.1 = y
      · subst h2; simp [Ne.symm h]
      · simp [h2]
end

/-! ### a fresh handle -/
def pickD : List Int → List Int → Option (Int × List Int)
  | [], _ => none
  | h :: r, used => if h = 0 ∨ h ∈ used then pickD r used else some (h, r)
def pickN (used : List Int) : Nat → Int → Int
  | 0, n => n
  | k + 1, n => if n = 0 ∨ n ∈ used then pickN used k (n + 1) else n
def freshOf (S : OS) : Int × OS :=
  match pickD S.draws S.used with
  | some (h, r) => (h, { S with draws := r, used := S.used ++ [h] })
  | none => let h := pickN S.used (S.used.length + 1) S.next; (h, { S with draws := [], next := h, used := S.used ++ [h] })
def OS.ok (S : OS) : Prop := 1 ≤ S.next ∧ (∀ n, 1 ≤ n → n < S.next → n ∈ S.used) ∧ S.next ≤ S.used.length + 1 ∧ ∀ d ∈ S.draws, 0 ≤ d ∧ d < 18446744073709551616

theorem Q11 (used : List Int) : ∀ (k : Nat) (n : Int), 1 ≤ n → (∃ m, n ≤ m ∧ m < n + k ∧ m ∉ used) →
    n ≤ pickN used k n ∧ pickN used k n < n + k ∧ pickN used k n ∉ used ∧ pickN used k n ≠ 0 ∧ ∀ m, n ≤ m → m < pickN used k n → m ∈ used
  | 0, n, h1, ⟨m, h2, h3, _⟩ => by omega
  | k + 1, n, h1, ⟨m, h2, h3, h4⟩ => by
    simp only [pickN]
    by_cases hn : n = 0 ∨ n ∈ used
    · rw [if_pos hn]
      have hn' : n ∈ used := hn.resolve_left (by omega)
      have hm : m ≠ n := fun e => h4 (e ▸ hn')
      obtain ⟨a, b, c, d, e⟩ := Q11 used k (n + 1) (by omega) ⟨m, by omega, by omega, h4⟩
      refine ⟨by omega, by omega, c, d, fun q hq1 hq2 => ?_⟩
      by_cases hqn : q = n
      · subst hqn; exact hn'
      · exact e q (by omega) hq2
    · rw [if_neg hn]
      rw [not_or] at hn
      exact ⟨by omega, by omega, hn.2, hn.1, fun q h1 h2 => by omega⟩

theorem gap (used : List Int) : ∀ (k : Nat) (n : Int), used.length < k → ∃ m, n ≤ m ∧ m < n + k ∧ m ∉ used := by
  induction used with
  | nil => intro k n hk; exact ⟨n, by omega, by simp at hk; omega, by simp⟩
  | cons a r ih =>
    intro k n hk
    simp only [List.length_cons] at hk
    -- numbers below and above a
    by_cases ha : n ≤ a ∧ a < n + k
    · by_cases hr : (r.length : Int) < a - n
      · obtain ⟨m, h1, h2, h3⟩ := ih (a - n).toNat n (by omega)
        exact ⟨m, h1, by omega, by simp only [List.mem_cons, not_or]; exact ⟨by omega, h3⟩⟩
      · -- count below and above together: move the numbers above a down by one
        obtain ⟨m, h1, h2, h3⟩ : ∃ m, n ≤ m ∧ m < n + (k - 1 : Nat) ∧ m ∉ r.map (fun x => if a < x then x - 1 else x) := by
          have hl : (r.map (fun x => if a < x then x - 1 else x)).length < k - 1 := by simp; omega
          have : ∀ (l : List Int) (k : Nat), l.length < k → ∃ m, n ≤ m ∧ m < n + k ∧ m ∉ l := by
            intro l
            induction hq : l.length generalizing l with
            | zero =>
              intro k hk
              have : l = [] := List.eq_nil_of_length_eq_zero hq
              subst this; exact ⟨n, by omega, by omega, by simp⟩
            | succ q ihq =>
              intro k hk
              by_cases hall : ∃ m, n ≤ m ∧ m < n + k ∧ m ∉ l
              · exact hall
              · exfalso
                -- the last number is in l: strike it
                have hlast : (n + k - 1) ∈ l := by
                  by_cases h : (n + k - 1) ∈ l
                  · exact h
                  · exact absurd ⟨n + k - 1, by omega, by omega, h⟩ hall
                have hlen : (l.erase (n + k - 1)).length = q := by rw [List.length_erase_of_mem hlast, hq]; rfl
                obtain ⟨m, h1, h2, h3⟩ := ihq (l.erase (n + k - 1)) hlen (k - 1) (by omega)
                refine hall ⟨m, h1, by omega, fun hm => h3 ?_⟩
                exact (List.mem_erase_of_ne (by omega)).2 hm
          exact this _ _ hl
        by_cases hma : m < a
        · refine ⟨m, h1, by omega, ?_⟩
          simp only [List.mem_cons, not_or]
          refine ⟨by omega, fun hm => h3 ?_⟩
          exact List.mem_map.2 ⟨m, hm, by rw [if_neg (by omega)]⟩
        · refine ⟨m + 1, by omega, by omega, ?_⟩
          simp only [List.mem_cons, not_or]
          refine ⟨by omega, fun hm => h3 ?_⟩
          exact List.mem_map.2 ⟨m + 1, hm, by rw [if_pos (by omega)]; omega⟩
    · obtain ⟨m, h1, h2, h3⟩ := ih k n (by omega)
      exact ⟨m, h1, h2, by simp only [List.mem_cons, not_or]; exact ⟨by omega, h3⟩⟩

theorem Q1E {d used : List Int} {h : Int} {r : List Int} (hp : pickD d used = some (h, r)) : h ≠ 0 ∧ h ∉ used ∧ h ∈ d := by
  induction d with
  | nil => simp [pickD] at hp
  | cons a d ih =>
    simp only [pickD] at hp
    by_cases ha : a = 0 ∨ a ∈ used
    · rw [if_pos ha] at hp
      obtain ⟨h1, h2, h3⟩ := ih hp
      exact ⟨h1, h2, List.mem_cons_of_mem _ h3⟩
    · rw [if_neg ha] at hp
      simp only [Option.some.injEq, Prod.mk.injEq] at hp
      rw [not_or] at ha
      exact ⟨hp.1 ▸ ha.1, hp.1 ▸ ha.2, hp.1 ▸ List.mem_cons_self⟩

theorem Q3D {d used : List Int} {h : Int} {r : List Int} (hp : pickD d used = some (h, r)) : ∀ x ∈ r, x ∈ d := by
  induction d with
  | nil => simp [pickD] at hp
  | cons a d ih =>
    simp only [pickD] at hp
    by_cases ha : a = 0 ∨ a ∈ used
    · rw [if_pos ha] at hp
      exact fun x hx => List.mem_cons_of_mem _ (ih hp x hx)
    · rw [if_neg ha] at hp
      simp only [Option.some.injEq, Prod.mk.injEq] at hp
      rw [← hp.2]
      exact fun x hx => List.mem_cons_of_mem _ hx
theorem freshOf_fit {S : OS} (h : S.ok) (hl : S.used.length < 1000000) : 0 < (freshOf S).1 ∧ (freshOf S).1 < 18446744073709551616 := by
  obtain ⟨h1, h2, h3, h4⟩ := h
  unfold freshOf
  cases hp : pickD S.draws S.used with
  | some q =>
    obtain ⟨x, r⟩ := q
    obtain ⟨a, b, c⟩ := Q1E hp
    have := h4 x c
    exact ⟨by show 0 < x; omega, this.2⟩
  | none =>
    obtain ⟨a, b, c, d, e⟩ := Q11 S.used (S.used.length + 1) S.next h1 (gap S.used _ _ (by omega))
    exact ⟨by show 0 < pickN _ _ _; omega, by show pickN _ _ _ < _; omega⟩
theorem Q0D {S : OS} (h : S.ok) : (freshOf S).1 ≠ 0 ∧ (freshOf S).1 ∉ S.used ∧ (freshOf S).2.used = S.used ++ [(freshOf S).1] ∧ (freshOf S).2.ok := by
  obtain ⟨h1, h2, h3, h4⟩ := h
  unfold freshOf
  cases hp : pickD S.draws S.used with
  | some q =>
    obtain ⟨x, r⟩ := q
    obtain ⟨a, b, _⟩ := Q1E hp
    exact ⟨a, b, rfl, h1, fun n hn1 hn2 => List.mem_append_left _ (h2 n hn1 hn2), by simp; omega, fun d hd => h4 d (Q3D hp d hd)⟩
  | none =>
    obtain ⟨a, b, c, d, e⟩ := Q11 S.used (S.used.length + 1) S.next h1 (gap S.used _ _ (by omega))
    refine ⟨d, c, rfl, by show 1 ≤ pickN _ _ _; omega, fun n hn1 hn2 => ?_, ?_, fun d hd => by cases hd⟩
    · refine List.mem_append_left _ ?_
      by_cases hlt : n < S.next
      · exact h2 n hn1 hlt
      · exact e n (by omega) hn2
    · -- all numbers from 1 on below it are used, and they are apart
      show pickN S.used (S.used.length + 1) S.next ≤ ((S.used ++ [_]).length : Int) + 1
      have hall : ∀ m, 1 ≤ m → m < pickN S.used (S.used.length + 1) S.next → m ∈ S.used := fun m h1' h2' => by
        by_cases hlt : m < S.next
        · exact h2 m h1' hlt
        · exact e m (by omega) h2'
      by_cases hle : pickN S.used (S.used.length + 1) S.next ≤ (S.used.length : Int) + 2
      · simp; omega
      · obtain ⟨m, q1, q2, q3⟩ := gap S.used (S.used.length + 1) 1 (by omega)
        exact absurd (hall m q1 (by omega)) q3

theorem Q0A (S : OS) : (freshOf S).2.hashes = S.hashes ∧ (freshOf S).2.keys = S.keys ∧ (freshOf S).2.secrets = S.secrets ∧ (freshOf S).2.publics = S.publics ∧
    (freshOf S).2.signs = S.signs ∧ (freshOf S).2.signed = S.signed ∧ (freshOf S).2.sealed = S.sealed ∧ (freshOf S).2.wrapped = S.wrapped := by
  unfold freshOf
  cases pickD S.draws S.used with
  | some q => exact ⟨rfl, rfl, rfl, rfl, rfl, rfl, rfl, rfl⟩
  | none => exact ⟨rfl, rfl, rfl, rfl, rfl, rfl, rfl, rfl⟩

def OS.init (l : List Int) : OS := ⟨l, [], 1, [], [], [], [], [], [], [], []⟩
theorem OS.init_ok (l : List Int) (hl : ∀ d ∈ l, 0 ≤ d ∧ d < 18446744073709551616) : (OS.init l).ok := ⟨Int.le_refl _, fun n h1 h2 => by simp only [OS.init] at h2; omega, by simp [OS.init], hl⟩
def hashOf (S : OS) (b : List UInt8) : Int × OS :=
  match alook S.hashes b with
  | some h => (h, S)
  | none => ((freshOf S).1, { (freshOf S).2 with hashes := aput S.hashes b (freshOf S).1 })
def badd (l : List Int) (x : Int) : List Int := if x ∈ l then l else l ++ [x]
theorem Q4d (l : List Int) (x : Int) : mput (bset l) x (.bool true) = bset (badd l x) := by
  unfold badd
  split
  · exact Q2S ‹_›
  · exact Q2Q ‹_›
def pairOf (S : OS) : (Int × Int) × OS :=
  let S1 := { (freshOf S).2 with secrets := badd S.secrets (freshOf S).1 }
  (((freshOf S).1, (freshOf S1).1), { (freshOf S1).2 with publics := aput S.publics (freshOf S1).1 (freshOf S).1 })
theorem Q1Z {S : OS} (h : S.ok) : (pairOf S).2.ok ∧ (pairOf S).2.used.length ≤ S.used.length + 2 := by
  obtain ⟨_, _, h3, h4⟩ := Q0D h
  have h5 : OS.ok { (freshOf S).2 with secrets := badd S.secrets (freshOf S).1 } := h4
  obtain ⟨_, _, h6, h7⟩ := Q0D h5
  exact ⟨h7, by show (freshOf _).2.used.length ≤ _; rw [h6]; show ((freshOf S).2.used ++ _).length ≤ _; rw [h3]; simp⟩
def signOf (S : OS) (k : Int) (b : List UInt8) : (Int × Bool) × OS :=
  if k ∈ S.secrets then
    match alook S.signs (k, b) with
    | some h => ((h, true), S)
    | none => (((freshOf S).1, true), { (freshOf S).2 with signs := aput S.signs (k, b) (freshOf S).1, signed := aput S.signed (freshOf S).1 (k, b) })
  else ((0, false), S)
theorem Q1X {S : OS} (h : S.ok) (k : Int) (b : List UInt8) : (signOf S k b).2.ok ∧ (signOf S k b).2.used.length ≤ S.used.length + 1 := by
  unfold signOf
  split
  · cases alook S.signs (k, b) with
    | some x => exact ⟨h, Nat.le_succ _⟩
    | none =>
      obtain ⟨_, _, h3, h4⟩ := Q0D h
      exact ⟨h4, by show (freshOf S).2.used.length ≤ _; rw [h3]; simp⟩
  · exact ⟨h, Nat.le_succ _⟩
def Q1t (S : OS) (p : Int) (b : List UInt8) (x : Int) : Bool :=
  match alook S.publics p, alook S.signed x with
  | some s, some q => decide (q = (s, b))
  | _, _ => false

theorem Q38 {S : OS} (h : S.ok) : (pairOf S).1.1 ≠ 0 ∧ (pairOf S).1.2 ≠ 0 ∧ (pairOf S).1.1 ∉ S.used ∧ (pairOf S).1.2 ∉ S.used ∧ (pairOf S).1.1 ≠ (pairOf S).1.2 ∧ (pairOf S).2.used = S.used ++ [(pairOf S).1.1] ++ [(pairOf S).1.2] ∧
    (pairOf S).2.secrets = badd S.secrets (pairOf S).1.1 ∧ (pairOf S).2.publics = aput S.publics (pairOf S).1.2 (pairOf S).1.1 ∧
    (pairOf S).2.hashes = S.hashes ∧ (pairOf S).2.keys = S.keys ∧ (pairOf S).2.signs = S.signs ∧ (pairOf S).2.signed = S.signed ∧ (pairOf S).2.sealed = S.sealed ∧ (pairOf S).2.wrapped = S.wrapped := by
  obtain ⟨a1, a2, a3, a4⟩ := Q0D h
  have h5 : OS.ok { (freshOf S).2 with secrets := badd S.secrets (freshOf S).1 } := a4
  obtain ⟨b1, b2, b3, b4⟩ := Q0D h5
  obtain ⟨c1, c2, c3, c4, c5, c6, c7, c8⟩ := Q0A S
  obtain ⟨d1, d2, d3, d4, d5, d6, d7, d8⟩ := Q0A { (freshOf S).2 with secrets := badd S.secrets (freshOf S).1 }
  have hu : ({ (freshOf S).2 with secrets := badd S.secrets (freshOf S).1 } : OS).used = S.used ++ [(freshOf S).1] := a3
  rw [hu] at b2 b3
  simp only [List.mem_append, List.mem_singleton, not_or] at b2
  exact ⟨a1, b1, a2, b2.1, fun e => b2.2 e.symm, b3, d3, rfl, d1.trans c1, d2.trans c2, d5.trans c5, d6.trans c6, d7.trans c7, d8.trans c8⟩

end Go.Proofs.Ytebghegecofmhaa