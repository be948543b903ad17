/- The words of a symbolic executor over the model's code: what an operation asks and yields, as a predicate over facts on slots; each rule is proved against the model's own run. No program is named here. -/
import Derived.Calls
import Derived.Orders
import Derived.Laws.Sem
import Derived.Laws.World
import Derived.Tactics
import Derived.Carry
import Derived.OrdersHeld
import Derived.Maps.AppendAt
import Derived.Laws.BytesArg
import Derived.ProofKit
import Derived.OpenShut
import Derived.ShutString
import Derived.ChangeOld
import Derived.Below
import Derived.Laws.StructEq
import Derived.ChangeKeysEq
import Derived.Laws.MakeOwn
import Derived.Laws.Bits64
import Derived.Laws.BitsLemmas
import Derived.Laws.OwnMore
import Derived.Test.YtoempemllkebkaaProg
import Derived.KernelRfl
abbrev Go.RW := Go.Value → Go.World → Prop
namespace Go.Mx

/-! ### facts on slots -/
abbrev Fs := List (Nat × Value)
def get : Fs → Nat → Option Value
  | [], _ => none
  | p :: r, t => bif Nat.beq p.1 t then some p.2 else get r t
def has : Fs → Nat → Bool
  | [], _ => false
  | p :: r, t => bif Nat.beq p.1 t then true else has r t
def ev (f : Fs) : Operand → Option Value
  | .tmp t => get f t
  | .const v => some v
  | .global _ => none
  | .func k => some (.func (.func k) #[] #[])
def rho (f : Fs) (x : Operand) : Value := (ev f x).getD undef
def known (f : Fs) : List Operand → Bool
  | [] => true
  | x :: r => bif (ev f x).isSome then known f r else false

theorem Q0N (f g : Fs) (t : Nat) : get (f ++ g) t = (get f t).or (get g t) := by
  induction f with
  | nil => simp [get]
  | cons p r ih =>
    simp only [List.cons_append, get, ih]
    cases Nat.beq p.1 t <;> simp

structure Fr (D : List Deferred) (n : Nat) (f : Fs) (a : Act) : Prop where
  size : a.tmps.size = n
  defers : a.defers = D
  at_ : ∀ t v, get f t = some v → a.tmps[t]? = some v

theorem Fr.eval {D : List Deferred} {n : Nat} {f : Fs} {a : Act} (h : Fr D n f a) {x : Operand} (hx : (ev f x).isSome = true) : a.eval x = rho f x := by
  cases x with
  | tmp t =>
    simp only [ev] at hx
    obtain ⟨v, hv⟩ := Option.isSome_iff_exists.1 hx
    have := h.at_ t v hv
    simp [Act.eval, rho, ev, hv, this]
  | const v => rfl
  | global g => simp [ev] at hx
  | func k => rfl

theorem Q40 {f : Fs} {l : List Operand} (h : known f l = true) : ∀ x ∈ l, (ev f x).isSome = true := by
  induction l with
  | nil => simp
  | cons y r ih =>
    intro x hx
    simp only [known] at h
    cases hy : (ev f y).isSome
    · simp [hy] at h
    · simp only [hy, cond_true] at h
      rcases List.mem_cons.1 hx with rfl | hx
      · exact hy
      · exact ih h x hx

theorem Q0E {a b : Nat} (h : Nat.beq a b = true) : a = b := Nat.eq_of_beq_eq_true h

theorem Fr.put {D : List Deferred} {n : Nat} {f : Fs} {a : Act} (h : Fr D n f a) {d : Nat} (hd : Nat.blt d n = true) (v : Value) : Fr D n ((d, v) :: f) (a.put (some d) v) := by
  have hlt : d < n := by simpa [Nat.blt_eq] using hd
  refine ⟨by simp [Act.put, h.size], h.defers, fun t u ht => ?_⟩
  simp only [get] at ht
  simp only [Act.put]
  cases hb : Nat.beq d t
  · simp only [hb, cond_false] at ht
    have hne : d ≠ t := fun e => by subst e; simp at hb
    rw [Array.getElem?_setIfInBounds_ne hne]
    exact h.at_ t u ht
  · simp only [hb, cond_true, Option.some.injEq] at ht
    have := Q0E hb
    subst this; subst ht
    rw [Array.getElem?_setIfInBounds_self]
    simp [h.size, hlt]

/-! ### shapes of cells -/
inductive CS where
  | int (k : IntKind) | bool | str | ptr | slice | map | func | any
def CS.ex : CS → (Value → Prop) → Prop
  | .int k, Φ => ∃ n : Int, Φ (.int k n)
  | .bool, Φ => ∃ b : Bool, Φ (.bool b)
  | .str, Φ => ∃ s : ByteArray, Φ (.string s)
  | .ptr, Φ => ∃ o : Option Addr, Φ (.pointer o)
  | .slice, Φ => ∃ (a : Option Addr) (n c : Nat), Φ (.slice a n c)
  | .map, Φ => ∃ r : Option Nat, Φ (.map r)
  | .func, Φ => ∃ (k : Nat) (first cap : Array Value), Φ (.func (.func k) first cap)
  | .any, Φ => ∃ v, Φ v
def CS.all : CS → (Value → Prop) → Prop
  | .int k, Φ => ∀ n : Int, Φ (.int k n)
  | .bool, Φ => ∀ b : Bool, Φ (.bool b)
  | .str, Φ => ∀ s : ByteArray, Φ (.string s)
  | .ptr, Φ => ∀ o : Option Addr, Φ (.pointer o)
  | .slice, Φ => ∀ (a : Option Addr) (n c : Nat), Φ (.slice a n c)
  | .map, Φ => ∀ r : Option Nat, Φ (.map r)
  | .func, Φ => ∀ (k : Nat) (first cap : Array Value), Φ (.func (.func k) first cap)
  | .any, Φ => ∀ v, Φ v
theorem CS.ex_out {s : CS} {Φ : Value → Prop} (h : s.ex Φ) : ∃ v, Φ v := by
  cases s <;> simp only [CS.ex] at h <;>
    first
      | (obtain ⟨a, n, c, h⟩ := h; exact ⟨_, h⟩)
      | (obtain ⟨a, h⟩ := h; exact ⟨_, h⟩)
def CS.fits : CS → Value → Bool
  | .int k, .int k' _ => decide (k = k')
  | .bool, .bool _ => true
  | .str, .string _ => true
  | .ptr, .pointer _ => true
  | .slice, .slice _ _ _ => true
  | .map, .map _ => true
  | .func, .func (.func _) _ _ => true
  | .any, _ => true
  | _, _ => false
theorem CS.all_out {s : CS} {Φ : Value → Prop} (h : s.all Φ) {v : Value} (hv : s.fits v = true) : Φ v := by
  cases s <;> simp only [CS.all] at h <;> first | exact h v | skip
  all_goals (cases v <;> simp only [CS.fits, Bool.false_eq_true] at hv)
  case int.int k k' n => have := of_decide_eq_true hv; subst this; exact h n
  case func.func fn a b => cases fn <;> simp at hv; exact h _ _ _
  all_goals first | exact h _ | exact h _ _ _
def csOf : Value → CS
  | .int k _ => .int k
  | .bool _ => .bool
  | .string _ => .str
  | .pointer _ => .ptr
  | .slice _ _ _ => .slice
  | .map _ => .map
  | .nilFunc => .func
  | .func (.func _) _ _ => .func
  | _ => .any
def exs : List CS → (List Value → Prop) → Prop
  | [], Φ => Φ []
  | s :: r, Φ => s.ex fun v => exs r fun vs => Φ (v :: vs)
def alls : List CS → (List Value → Prop) → Prop
  | [], Φ => Φ []
  | s :: r, Φ => s.all fun v => alls r fun vs => Φ (v :: vs)
theorem exs_out : ∀ {l : List CS} {Φ : List Value → Prop}, exs l Φ → ∃ vs, vs.length = l.length ∧ Φ vs
  | [], _, h => ⟨[], rfl, h⟩
  | s :: r, Φ, h => by
    obtain ⟨v, h⟩ := CS.ex_out h
    obtain ⟨vs, hl, h⟩ := exs_out h
    exact ⟨v :: vs, by simp [hl], h⟩
def fitsAll : List CS → List Value → Bool
  | [], [] => true
  | s :: r, v :: vs => bif s.fits v then fitsAll r vs else false
  | _, _ => false
theorem Q3m : ∀ {l : List CS} {Φ : List Value → Prop}, alls l Φ → ∀ {vs : List Value}, fitsAll l vs = true → Φ vs
  | [], _, h, [], _ => h
  | s :: r, Φ, h, v :: vs, hv => by
    simp only [fitsAll] at hv
    cases hs : s.fits v
    · simp [hs] at hv
    · simp only [hs, cond_true] at hv
      exact Q3m (CS.all_out h hs) hv
  | [], _, _, _ :: _, hv => by simp [fitsAll] at hv
  | _ :: _, _, _, [], hv => by simp [fitsAll] at hv
inductive Sh where
  | one (s : CS) | agg (l : List CS) | big
def Sh.ex : Sh → (Value → Prop) → Prop
  | .one s, Φ => s.ex Φ
  | .agg l, Φ => exs l fun vs => Φ (.agg vs.toArray)
  | .big, Φ => ∃ cs : Array Value, Φ (.agg cs)
def Sh.all : Sh → (Value → Prop) → Prop
  | .one s, Φ => s.all Φ
  | .agg l, Φ => alls l fun vs => Φ (.agg vs.toArray)
  | .big, Φ => ∀ cs : Array Value, Φ (.agg cs)
def Sh.fits : Sh → Value → Bool
  | .one s, v => s.fits v
  | .agg l, .agg cs => fitsAll l cs.toList
  | .big, .agg _ => true
  | _, _ => false
theorem Sh.ex_out {s : Sh} {Φ : Value → Prop} (h : s.ex Φ) : ∃ v, Φ v := by
  cases s with
  | one s => exact CS.ex_out h
  | agg l => obtain ⟨vs, _, h⟩ := exs_out h; exact ⟨_, h⟩
  | big => obtain ⟨cs, h⟩ := h; exact ⟨_, h⟩
theorem Sh.all_out {s : Sh} {Φ : Value → Prop} (h : s.all Φ) {v : Value} (hv : s.fits v = true) : Φ v := by
  cases s with
  | one s => exact CS.all_out h hv
  | agg l =>
    cases v <;> simp only [Sh.fits, Bool.false_eq_true] at hv
    have := Q3m h hv
    simpa using this
  | big =>
    cases v <;> simp only [Sh.fits, Bool.false_eq_true] at hv
    exact h _
def sexs : List Sh → (List Value → Prop) → Prop
  | [], Φ => Φ []
  | s :: r, Φ => s.ex fun v => sexs r fun vs => Φ (v :: vs)
theorem Q3h : ∀ {l : List Sh} {Φ : List Value → Prop}, sexs l Φ → ∃ vs, Φ vs
  | [], _, h => ⟨[], h⟩
  | s :: r, Φ, h => by
    obtain ⟨v, h⟩ := Sh.ex_out h
    obtain ⟨vs, h⟩ := Q3h h
    exact ⟨_, h⟩
def salls : List Sh → (List Value → Prop) → Prop
  | [], Φ => Φ []
  | s :: r, Φ => s.all fun v => salls r fun vs => Φ (v :: vs)
def Q0L : List Sh → List Value → Bool
  | [], [] => true
  | s :: r, v :: vs => bif s.fits v then Q0L r vs else false
  | _, _ => false
theorem Q23 : ∀ {l : List Sh} {Φ : List Value → Prop}, salls l Φ → ∀ {vs : List Value}, Q0L l vs = true → Φ vs
  | [], _, h, [], _ => h
  | s :: r, Φ, h, v :: vs, hv => by
    simp only [Q0L] at hv
    cases hs : s.fits v
    · simp [hs] at hv
    · simp only [hs, cond_true] at hv
      exact Q23 (Sh.all_out h hs) hv
  | [], _, _, _ :: _, hv => by simp [Q0L] at hv
  | _ :: _, _, _, [], hv => by simp [Q0L] at hv
def shOf (P : Program) (t : TypeId) : Sh :=
  match P.info? t with
  | some i =>
    match i.zero with
    | some (.agg cs) => bif Nat.ble cs.size 24 then .agg (cs.toList.map csOf) else .big
    | some v => .one (csOf v)
    | none => .big
  | none => .big
def resEx (P : Program) (t : TypeId) (Φ : Value → Prop) : Prop :=
  match P.info? t with
  | some i =>
    match i.desc with
    | .tuple ts => sexs (ts.toList.map (shOf P)) fun vs => Φ (.tuple vs.toArray)
    | _ => (shOf P t).ex Φ
  | none => False
theorem Q1m {P : Program} {t : TypeId} {Φ : Value → Prop} (h : resEx P t Φ) : ∃ v, Φ v := by
  unfold resEx at h
  split at h
  · split at h
    · obtain ⟨vs, h⟩ := Q3h h; exact ⟨_, h⟩
    · exact Sh.ex_out h
  · exact h.elim

end Go.Mx
namespace Go.Mx

abbrev Chi := Option (World → Prop)
def Chi.at : Chi → World → Prop
  | none, _ => True
  | some c, w => c w

def aggK (P : Program) (t : TypeId) : Option Bool :=
  match P.underlying t with
  | some (.struct _) => some true
  | some (.array _ _) => some true
  | some _ => some false
  | none => none
def szB (P : Program) (t : TypeId) (n : Nat) : Bool :=
  match P.info? t with
  | some i => Nat.beq i.size n
  | none => false

def cellsAt (w : World) (a : Addr) : List Value → Nat → Prop
  | [], _ => True
  | v :: r, i => w.cell? (a.add i) = some v ∧ cellsAt w a r (i + 1)

section
variable (P : Program) (ρ : Operand → Value)

def mint (op : BinOp) (k : IntKind) (a b : Int) (K : Value → Prop) : Prop :=
  match op with
  | .add => K (.int k (k.wrap (a + b)))
  | .sub => K (.int k (k.wrap (a - b)))
  | .mul => K (.int k (k.wrap (a * b)))
  | .quo => b ≠ 0 ∧ K (.int k (k.wrap (a.tdiv b)))
  | .rem => b ≠ 0 ∧ K (.int k (a.tmod b))
  | .and => K (.int k (k.wrap (BitVec.ofInt k.bits a &&& BitVec.ofInt k.bits b).toNat))
  | .or => K (.int k (k.wrap (BitVec.ofInt k.bits a ||| BitVec.ofInt k.bits b).toNat))
  | .xor => K (.int k (k.wrap (BitVec.ofInt k.bits a ^^^ BitVec.ofInt k.bits b).toNat))
  | .andNot => K (.int k (k.wrap (BitVec.ofInt k.bits a &&& ~~~(BitVec.ofInt k.bits b)).toNat))
  | .eql => K (.bool (a == b))
  | .neq => K (.bool (a != b))
  | .lss => K (.bool (decide (a < b)))
  | .leq => K (.bool (decide (a ≤ b)))
  | .gtr => K (.bool (decide (a > b)))
  | .geq => K (.bool (decide (a ≥ b)))
  | _ => False

def asV (ty : TypeId) (s : Sem Value) (w : World) (K : Value → Chi → Prop) : Prop :=
  resEx P ty fun v => s.run P w = .ok v w ∧ K v (some fun w' => s.run P w' = .ok v w')

def okGuard (t : TypeId) (a b : Value) : Bool :=
  match a, b with
  | .agg _, .agg _ => !(P.eqGuardType P.depth t)
  | .nilIface, .nilIface => false
  | _, _ => true

def mbin (ty : TypeId) (w : World) (op : BinOp) (t : TypeId) (x y : Value) (K : Value → Chi → Prop) : Prop :=
  match op, x, y with
  | .shl, .int k a, .int _ b => 0 ≤ b ∧ K (.int k (k.wrap (a * 2 ^ (min b.toNat k.bits)))) none
  | .shr, .int k a, .int _ b => 0 ≤ b ∧ K (.int k (a.fdiv (2 ^ (min b.toNat k.bits)))) none
  | op, .int k a, .int k' b => bif decide (k = k') then mint op k a b (K · none) else False
  | .eql, .string a, .string b => K (.bool (a.toList == b.toList)) none
  | .neq, .string a, .string b => K (.bool (!(a.toList == b.toList))) none
  | .eql, .bool a, .bool b => match P.underlying t with | some .bool => K (.bool (a == b)) none | _ => False
  | .neq, .bool a, .bool b => match P.underlying t with | some .bool => K (.bool (!(a == b))) none | _ => False
  | .eql, .pointer a, .pointer none => match P.underlying t with | some (.pointer _) => K (.bool a.isNone) none | _ => False
  | .neq, .pointer a, .pointer none => match P.underlying t with | some (.pointer _) => K (.bool (!a.isNone)) none | _ => False
  | .eql, .slice a _ _, .slice none _ _ => match P.underlying t with | some (.slice _) => K (.bool a.isNone) none | _ => False
  | .neq, .slice a _ _, .slice none _ _ => match P.underlying t with | some (.slice _) => K (.bool (!a.isNone)) none | _ => False
  | _, _, _ => bif okGuard P t x y then asV P ty (binOp op t x y) w K else False

def forksK : List Value → Nat → Int → (Value → Prop) → Prop
  | [], _, _, _ => True
  | c :: r, i, j, K => (j = Int.ofNat i → K c) ∧ forksK r (i + 1) j K
def isFns (cs : Array Value) : Bool := match cs[0]? with | some (Value.func _ _ _) => true | some (Value.int _ _) => true | _ => false
theorem Q2P {K : Value → Prop} : ∀ {l : List Value} {i : Nat} {j : Nat} (_ : forksK l i (Int.ofNat (i + j)) K) (hj : j < l.length), K l[j]
  | [], _, _, _, hj => by simp at hj
  | c :: r, i, 0, h, _ => h.1 rfl
  | c :: r, i, j + 1, h, hj => by
    have := Q2P (l := r) (i := i + 1) (j := j) (by rw [show i + 1 + j = i + (j + 1) by omega]; exact h.2) (by simpa using hj)
    simpa using this
def mpart (t : TypeId) (cs : Array Value) (off : Nat) (K : Value → Prop) : Prop :=
  match P.info? t with
  | some i =>
    match aggK P t with
    | some true => K (.agg (cs.extract off (off + i.size)))
    | some false => (match cs[off]? with | some v => K v | none => False)
    | none => False
  | none => False

def optInt : Option Operand → (Option Int → Prop) → Prop
  | none, Φ => Φ none
  | some x, Φ => match ρ x with | .int _ n => Φ (some n) | _ => False

def mcut (len cap : Nat) (lo hi mx : Option Int) (K : Nat → Nat → Nat → Prop) : Prop :=
  match lo, hi, mx with
  | none, none, none => K 0 len cap
  | some l, none, none => 0 ≤ l ∧ l ≤ len ∧ K l.toNat len cap
  | none, some h, none => 0 ≤ h ∧ h ≤ cap ∧ K 0 h.toNat cap
  | some l, some h, none => 0 ≤ h ∧ h ≤ cap ∧ 0 ≤ l ∧ l ≤ h ∧ K l.toNat h.toNat cap
  | none, some h, some m => 0 ≤ m ∧ m ≤ cap ∧ 0 ≤ h ∧ h ≤ m ∧ K 0 h.toNat m.toNat
  | some l, some h, some m => 0 ≤ m ∧ m ≤ cap ∧ 0 ≤ h ∧ h ≤ m ∧ 0 ≤ l ∧ l ≤ h ∧ K l.toNat h.toNat m.toNat
  | _, none, some _ => False

def mslice (t : TypeId) (x : Value) (lo hi mx : Option Int) (K : Value → Prop) : Prop :=
  match P.underlying t, x with
  | some (.slice e), .slice a n c =>
    match P.info? e with
    | some i => mcut n c lo hi mx fun l h m => K (.slice (if m = l then a else a.map (·.add (l * i.size))) (h - l) (m - l))
    | none => False
  | some .string, .string s => mcut s.size s.size lo hi none fun l h _ => mx = none ∧ K (.string (s.extract l h))
  | some (.array n e), .pointer (some a) =>
    match P.info? e with
    | some i => mcut n n lo hi mx fun l h m => K (.slice (some (if m = l then a else a.add (l * i.size))) (h - l) (m - l))
    | none => False
  | _, _ => False

def mbuild (t : TypeId) (parts : List (Nat × Value)) (K : Value → Prop) : Prop :=
  match P.info? t, P.underlying t with
  | some i, some (.struct fields) =>
    match i.zero with
    | some z =>
      match Instr.fill (fun j => (fields[j]?).bind fun fl => (P.info? fl.type).map fun u => (fl.offset, u.size)) z.cells parts with
      | some cells => bif fields.all (fun fl => (P.info? fl.type).isSome) then K (.agg cells) else False
      | none => False
    | none => False
  | some i, some (.array _ e) =>
    match i.zero, P.info? e with
    | some z, some u =>
      match Instr.fill (fun j => some (j * u.size, u.size)) z.cells parts with
      | some cells => K (.agg cells)
      | none => False
    | _, _ => False
  | _, _ => False

def mcallb (ty : TypeId) (w : World) (b : Builtin) (ts : Array TypeId) (args : List Value) (K : Value → Chi → Prop) : Prop :=
  match b, args with
  | .len, [.slice _ n _] => match (ts[0]?).bind P.underlying with | some (.slice _) => K (.int .i64 n) none | _ => False
  | .len, [.string s] => match (ts[0]?).bind P.underlying with | some .string => K (.int .i64 s.size) none | _ => False
  | .cap, [.slice _ _ c] => match (ts[0]?).bind P.underlying with | some (.slice _) => K (.int .i64 c) none | _ => False
  | .max, [.int k a, .int _ b] => K (.int k (if b > a then b else a)) none
  | .min, [.int k a, .int _ b] => K (.int k (if b < a then b else a)) none
  | .len, args => asV P ty (Builtin.len_ ts ty args.toArray) w K
  | _, _ => False

def mload (t : TypeId) (a : Addr) (w : World) (K : Value → Chi → Prop) : Prop :=
  match shOf P t with
  | .one s => (match aggK P t with
    | some false => s.ex fun v => w.cell? a = some v ∧ K v (some fun w' => w'.cell? a = some v)
    | _ => False)
  | .agg l =>
    (match aggK P t, szB P t l.length with
    | some true, true => exs l fun vs => cellsAt w a vs 0 ∧ K (.agg vs.toArray) (some fun w' => cellsAt w' a vs 0)
    | _, _ => False)
  | .big =>
    (match aggK P t with
    | some true => ∃ cs : Array Value, szB P t cs.size = true ∧ cellsAt w a cs.toList 0 ∧ K (.agg cs) (some fun w' => cellsAt w' a cs.toList 0)
    | _ => False)

def mrd (o : Oper) (w : World) (K : Value → Chi → Prop) : Prop :=
  match o.op with
  | .move x => K (ρ x) none
  | .assign x => K (ρ x) none
  | .pick c a b => match ρ c with | .bool t => K (bif t then ρ a else ρ b) none | _ => False
  | .nilCheck x =>
    match ρ x with
    | .pointer p => p.elim False fun a => K (.pointer (some a)) none
    | .func (.func k) first cap => K (.func (.func k) first cap) none
    | _ => False
  | .binOp op t x y _ =>
    match op, ρ x, ρ y, y with
    | .neq, .nilIface, .nilIface, .const _ => (match P.underlying t with | some (.interface _) => K (.bool false) none | _ => False)
    | .eql, .nilIface, .nilIface, .const _ => (match P.underlying t with | some (.interface _) => K (.bool true) none | _ => False)
    | op, vx, vy, _ => mbin P o.type w op t vx vy K
  | .unOp op _ x =>
    match op, ρ x with
    | .not, .bool b => K (.bool (!b)) none
    | .neg, .int k n => K (.int k (k.wrap (0 - n))) none
    | _, _ => False
  | .extract x i => match ρ x with | .tuple vs => (match vs[i]? with | some v => K v none | none => False) | _ => False
  | .fieldAddr s x i =>
    match P.underlying s, ρ x with
    | some (.struct fs), .pointer (some a) =>
      match fs[i]? with
      | some fl => match P.info? fl.type with | some u => (bif Nat.beq u.size 0 then False else K (.pointer (some (a.add fl.offset))) none) | none => False
      | none => False
    | _, _ => False
  | .field s x i =>
    match P.underlying s, ρ x with
    | some (.struct fs), .agg cs => (match fs[i]? with | some fl => mpart P fl.type cs fl.offset (K · none) | none => False)
    | _, _ => False
  | .indexAddr t x i =>
    match P.underlying t, ρ x, ρ i with
    | some (.slice e), .slice p n _, .int _ j =>
      match P.info? e with
      | some u => p.elim False fun a => 0 ≤ j ∧ j < n ∧ K (.pointer (some (a.add (j.toNat * u.size)))) none
      | none => False
    | some (.array n e), .pointer (some a), .int _ j =>
      match P.info? e with
      | some u => 0 ≤ j ∧ j < n ∧ K (.pointer (some (a.add (j.toNat * u.size)))) none
      | none => False
    | _, _, _ => False
  | .index t x i =>
    match P.underlying t, ρ x, ρ i with
    | some .string, .string s, .int _ j => 0 ≤ j ∧ ∃ b, s[j.toNat]? = some b ∧ K (.int .u8 b.toNat) none
    | some (.array n e), .agg cs, .int _ j => match P.info? e with | some u => 0 ≤ j ∧ j < n ∧ (bif isFns cs then (bif Nat.beq u.size 1 && Nat.ble n cs.size then (match aggK P e with | some false => forksK cs.toList 0 j (K · none) | _ => False) else False) else mpart P e cs (j.toNat * u.size) (K · none)) | none => False
    | _, _, _ => False
  | .slice t x lo hi mx => optInt ρ lo fun l => optInt ρ hi fun h => optInt ρ mx fun m => mslice P t (ρ x) l h m (K · none)
  | .makeFunc fn first cap => K (.func fn (first.map ρ) (cap.map ρ)) none
  | .makeInterface t x => match P.underlying t with | some (.interface _) => False | some _ => K (.iface t (ρ x)) none | none => False
  | .build t parts => mbuild P t (parts.toList.map fun p => (p.1, ρ p.2)) (K · none)
  | .convert s d x =>
    match P.underlying s, P.underlying d, ρ x with
    | some _, some (.int k), .int _ n => K (.int k (k.wrap n)) none
    | some _, some .string, .string s => K (.string s) none
    | _, _, _ => asV P o.type (convert s d (ρ x)) w K
  | .load t x => match ρ x with | .pointer (some a) => mload P t a w K | _ => False
  | .call c => match c.callee with | .builtin b => mcallb P o.type w b c.argTypes (c.args.toList.map ρ) K | _ => False
  | .lookup t x i ok => asV P o.type (Instr.lookup t (ρ x) (ρ i) ok) w K
  | .typeAssert x t d ok => asV P o.type (Instr.typeAssert (ρ x) t d ok) w K
  | _ => False
end

/-! ### the rules are the model's -/
section
variable {P : Program} {ρ : Operand → Value}

def Good (P : Program) (s : Sem Next) (w : World) (K : Value → Chi → Prop) : Prop :=
  ∃ (v : Value) (χ : Chi), Chi.at χ w ∧ (∀ w', Chi.at χ w' → s.run P w' = .ok (.value v) w') ∧ K v χ
theorem Good.pure_ {s : Sem Next} {w : World} {K : Value → Chi → Prop} {v : Value} (h : ∀ w', s.run P w' = .ok (.value v) w') (hK : K v none) : Good P s w K :=
  ⟨v, none, trivial, fun w' _ => h w', hK⟩
theorem asV_ok {ty : TypeId} {s : Sem Value} {w : World} {K : Value → Chi → Prop} (h : asV P ty s w K) :
    ∃ (v : Value) (χ : Chi), Chi.at χ w ∧ (∀ w', Chi.at χ w' → s.run P w' = .ok v w') ∧ K v χ := by
  obtain ⟨v, h1, h2⟩ := Q1m h
  exact ⟨v, some fun w' => s.run P w' = .ok v w', h1, fun _ h => h, h2⟩

theorem Q0T {w : World} {a : Addr} : ∀ (vs : List Value) (i : Nat) (acc : Array Value), cellsAt w a vs i →
    (loadCellsFrom a i vs.length acc).run P w = .ok (acc ++ vs.toArray) w
  | [], _, acc, _ => by simp [loadCellsFrom]
  | v :: r, i, acc, h => by
    simp only [List.length_cons, loadCellsFrom, Sem.run_bind, run_load, h.1, Result.andThen_ok]
    rw [Q0T r (i + 1) (acc.push v) h.2]
    have e : acc.push v ++ r.toArray = acc ++ (v :: r).toArray := by
      apply Array.ext'
      simp
    rw [e]

theorem run_underlying' {t : TypeId} {d : TypeDesc} (h : P.underlying t = some d) (w : World) : (underlying t).run P w = .ok d w := by
  simp [underlying, h]
theorem run_typeInfo' {t : TypeId} {i : TypeInfo} (h : P.info? t = some i) (w : World) : (typeInfo t).run P w = .ok i w := by
  simp [typeInfo, h]
theorem run_sizeOf' {t : TypeId} {i : TypeInfo} (h : P.info? t = some i) (w : World) : (sizeOf t).run P w = .ok i.size w := by
  simp [sizeOf, run_typeInfo' h]
theorem run_isAgg' {t : TypeId} {b : Bool} (h : aggK P t = some b) (w : World) : (isAgg t).run P w = .ok b w := by
  unfold aggK at h
  cases hu : P.underlying t with
  | none => simp [hu] at h
  | some d =>
    simp only [hu] at h
    simp only [isAgg, Sem.run_bind, run_underlying' hu, Result.andThen_ok]
    cases d <;> simp at h <;> subst h <;> rfl
theorem Q2K {t : TypeId} {n : Nat} (h : szB P t n = true) : ∃ i, P.info? t = some i ∧ i.size = n := by
  unfold szB at h
  split at h
  · rename_i i hi; exact ⟨i, hi, Q0E h⟩
  · cases h
theorem Q3j {t : TypeId} {cs : Array Value} {off : Nat} {K : Value → Prop} (h : mpart P t cs off K) :
    ∃ v, (∀ w, (part t cs off).run P w = .ok v w) ∧ K v := by
  unfold mpart at h
  split at h
  · rename_i i hi
    split at h
    · rename_i hb
      exact ⟨_, fun w => by simp [part, run_isAgg' hb, run_sizeOf' hi], h⟩
    · rename_i hb
      split at h
      · rename_i v hv
        exact ⟨v, fun w => by simp [part, run_isAgg' hb, hv], h⟩
      · exact h.elim
    · exact h.elim
  · exact h.elim
theorem Q2d {t : TypeId} {a : Addr} {w : World} {K : Value → Chi → Prop} (h : mload P t a w K) :
    ∃ (v : Value) (χ : Chi), Chi.at χ w ∧ (∀ w', Chi.at χ w' → (loadVar t a).run P w' = .ok v w') ∧ K v χ := by
  unfold mload at h
  split at h
  · split at h
    · rename_i hb
      obtain ⟨v, h1, h2⟩ := CS.ex_out h
      exact ⟨v, some fun w' => w'.cell? a = some v, h1, fun w' h => by
        simp only [Chi.at] at h
        simp [loadVar, run_isAgg' hb, h], h2⟩
    · exact h.elim
  · rename_i l _
    split at h
    · rename_i hb hs
      obtain ⟨vs, hl, h1, h2⟩ := exs_out h
      obtain ⟨i, hi, hz⟩ := Q2K hs
      exact ⟨_, some fun w' => cellsAt w' a vs 0, h1, fun w' h => by
        simp only [Chi.at] at h
        have e := Q0T (P := P) vs 0 #[] h
        simp [loadVar, run_isAgg' hb, run_sizeOf' hi, loadCells, hz, ← hl, e], h2⟩
    · exact h.elim
  · split at h
    · rename_i hb
      obtain ⟨cs, hs, h1, h2⟩ := h
      obtain ⟨i, hi, hz⟩ := Q2K hs
      exact ⟨_, some fun w' => cellsAt w' a cs.toList 0, h1, fun w' h => by
        simp only [Chi.at] at h
        have e := Q0T (P := P) cs.toList 0 #[] h
        simp only [Array.length_toList] at e
        simp [loadVar, run_isAgg' hb, run_sizeOf' hi, loadCells, hz, e], h2⟩
    · exact h.elim

end
end Go.Mx
set_option linter.unusedSimpArgs false
set_option linter.unusedVariables false
namespace Go.Mx
section
variable {P : Program} {ρ : Operand → Value}

theorem Good.of_value {s : Sem Value} {w : World} {K : Value → Chi → Prop} (h : ∃ (v : Value) (χ : Chi), Chi.at χ w ∧ (∀ w', Chi.at χ w' → s.run P w' = .ok v w') ∧ K v χ) :
    Good P (do pure (Next.value (← s))) w K := by
  obtain ⟨v, χ, h1, h2, h3⟩ := h
  exact ⟨v, χ, h1, fun w' h => by simp [h2 w' h], h3⟩
theorem Good.of_pure {s : Sem Value} {w : World} {K : Value → Chi → Prop} (h : ∃ v : Value, (∀ w', s.run P w' = .ok v w') ∧ K v none) :
    Good P (do pure (Next.value (← s))) w K := by
  obtain ⟨v, h2, h3⟩ := h
  exact ⟨v, none, trivial, fun w' _ => by simp [h2 w'], h3⟩

theorem mint_ok {op : BinOp} {k : IntKind} {a b : Int} {K : Value → Prop} (h : mint op k a b K) (h1 : op ≠ .shl) (h2 : op ≠ .shr) (t : TypeId) :
    ∃ v : Value, (∀ w, (binOp op t (.int k a) (.int k b)).run P w = .ok v w) ∧ K v := by
  cases op <;> simp only [mint] at h <;> first
    | exact h.elim
    | exact absurd rfl h1
    | exact absurd rfl h2
    | (obtain ⟨hb, h⟩ := h; refine ⟨_, ?_, h⟩; intro w; simp [binOp, Op.intDiv, hb]; done)
    | (refine ⟨_, ?_, h⟩; intro w; simp [binOp, Op.intArith, Op.intBits, Op.intCmp]; done)

theorem Q0y {op : BinOp} {t : TypeId} {x y : Operand} {a b : Value} (w : World)
    (h : (match a, b with | .nilIface, .nilIface => false | .agg _, .agg _ => false | _, _ => true) = true) :
    (eqGuard op t x y a b).run P w = .ok () w := by
  unfold eqGuard
  cases op <;> simp <;> (cases a <;> cases b <;> simp at h ⊢)

theorem Q3L {op : BinOp} {t : TypeId} {x y : Operand} {a b : Value} (h : okGuard P t a b = true) (w : World) :
    (eqGuard op t x y a b).run P w = .ok () w := by
  unfold okGuard at h
  split at h
  · have h' : P.eqGuardType P.depth t = false := by simpa using h
    cases op <;> simp [eqGuard, h']
  · cases h
  · rename_i h1 h2
    refine Q0y w ?_
    cases a <;> cases b <;> simp at h1 h2 ⊢

theorem Q1t {t : TypeId} (hu : P.underlying t = some .bool) (a b : Bool) (w : World) : (Op.equal t (.bool a) (.bool b)).run P w = .ok (a == b) w := by
  have h : ∀ d, (Op.equalIn (d + 1) t (.bool a) (.bool b)).run P w = .ok (a == b) w := fun d => by simp [Op.equalIn, run_underlying' hu]
  exact h 9999
theorem Q1H {t e : TypeId} (hu : P.underlying t = some (.pointer e)) (a : Option Addr) (w : World) : (Op.equal t (.pointer a) (.pointer none)).run P w = .ok a.isNone w := by
  have h : ∀ d, (Op.equalIn (d + 1) t (.pointer a) (.pointer none)).run P w = .ok a.isNone w := fun d => by cases a <;> simp [Op.equalIn, run_underlying' hu]
  exact h 9999
theorem Q15 {t e : TypeId} (hu : P.underlying t = some (.slice e)) (a : Option Addr) (n c m d : Nat) (w : World) : (Op.equal t (.slice a n c) (.slice none m d)).run P w = .ok a.isNone w := by
  have h : ∀ k, (Op.equalIn (k + 1) t (.slice a n c) (.slice none m d)).run P w = .ok a.isNone w := fun k => by cases a <;> simp [Op.equalIn, run_underlying' hu]
  exact h 9999
theorem Q1g {t : TypeId} {ms} (hu : P.underlying t = some (.interface ms)) (w : World) : (Op.equal t .nilIface .nilIface).run P w = .ok true w := by
  have h : ∀ d, (Op.equalIn (d + 1) t .nilIface .nilIface).run P w = .ok true w := fun d => by simp [Op.equalIn, run_underlying' hu]
  exact h _
theorem Q2J (t : TypeId) : binOp .eql t .nilIface .nilIface = (do pure (.bool (← Op.equal t .nilIface .nilIface))) := rfl
theorem Q2G (t : TypeId) : binOp .neq t .nilIface .nilIface = (do pure (.bool (!(← Op.equal t .nilIface .nilIface)))) := rfl
theorem Q22 (t : TypeId) (a b : Option Addr) (n c m d : Nat) : binOp .eql t (.slice a n c) (.slice b m d) = (do pure (.bool (← Op.equal t (.slice a n c) (.slice b m d)))) := rfl
theorem Q21 (t : TypeId) (a b : Option Addr) (n c m d : Nat) : binOp .neq t (.slice a n c) (.slice b m d) = (do pure (.bool (!(← Op.equal t (.slice a n c) (.slice b m d))))) := rfl
theorem Q1v (t : TypeId) (a b : Bool) : binOp .eql t (.bool a) (.bool b) = (do pure (.bool (← Op.equal t (.bool a) (.bool b)))) := rfl
theorem Q1u (t : TypeId) (a b : Bool) : binOp .neq t (.bool a) (.bool b) = (do pure (.bool (!(← Op.equal t (.bool a) (.bool b))))) := rfl
theorem Q1F (t : TypeId) (a b : Option Addr) : binOp .eql t (.pointer a) (.pointer b) = (do pure (.bool (← Op.equal t (.pointer a) (.pointer b)))) := by cases a <;> cases b <;> rfl
theorem Q1I (t : TypeId) (a b : Option Addr) : binOp .neq t (.pointer a) (.pointer b) = (do pure (.bool (!(← Op.equal t (.pointer a) (.pointer b))))) := by cases a <;> cases b <;> rfl

theorem mbin_ok {o : Oper} {w : World} {op : BinOp} {t ty : TypeId} {x y : Operand} {K : Value → Chi → Prop}
    (ho : o.op = .binOp op t x y ty) (h : mbin P o.type w op t (ρ x) (ρ y) K) : Good P (execOp ρ o) w K := by
  have hex : execOp ρ o = (do pure (Next.value (← (do eqGuard op t x y (ρ x) (ρ y); binOp op t (ρ x) (ρ y))))) := by
    simp only [execOp, ho]
  generalize hx : ρ x = vx at h hex
  generalize hy : ρ y = vy at h hex
  unfold mbin at h
  split at h
  · obtain ⟨hb, h⟩ := h
    rw [hex]
    refine Good.of_pure ⟨_, fun w' => ?_, h⟩
    rename_i k a j b
    have : ¬ b < 0 := by omega
    simp [Q0y, binOp, Op.shift, this]
  · obtain ⟨hb, h⟩ := h
    rw [hex]
    refine Good.of_pure ⟨_, fun w' => ?_, h⟩
    rename_i k a j b
    have : ¬ b < 0 := by omega
    simp [Q0y, binOp, Op.shift, this]
  · rename_i k a k' b h1 h2
    cases hk : decide (k = k')
    · simp [hk] at h
    · simp only [hk, cond_true] at h
      have := of_decide_eq_true hk
      subst this
      have hs1 : op ≠ .shl := fun e => h1 e
      have hs2 : op ≠ .shr := fun e => h2 e
      obtain ⟨v, hv, hK⟩ := mint_ok (P := P) h hs1 hs2 t
      rw [hex]
      exact Good.of_pure ⟨v, fun w' => by simp [Q0y, hv w'], hK⟩
  · rw [hex]; exact Good.of_pure ⟨_, fun w' => by simp [Q0y, binOp, Op.stringOp], h⟩
  · rw [hex]; exact Good.of_pure ⟨_, fun w' => by simp [Q0y, binOp, Op.stringOp], h⟩
  · split at h
    · rename_i hu
      rw [hex]; exact Good.of_pure ⟨_, fun w' => by simp [Q0y, Q1v, Q1u, Q1t hu], h⟩
    · exact h.elim
  · split at h
    · rename_i hu
      rw [hex]; exact Good.of_pure ⟨_, fun w' => by simp [Q0y, Q1v, Q1u, Q1t hu], h⟩
    · exact h.elim
  · split at h
    · rename_i hu
      rw [hex]; exact Good.of_pure ⟨_, fun w' => by simp [Q0y, Q1F, Q1I, Q1H hu], h⟩
    · exact h.elim
  · split at h
    · rename_i hu
      rw [hex]; exact Good.of_pure ⟨_, fun w' => by simp [Q0y, Q1F, Q1I, Q1H hu], h⟩
    · exact h.elim
  · split at h
    · rename_i hu
      rw [hex]; exact Good.of_pure ⟨_, fun w' => by simp [Q0y, Q22, Q15 hu], h⟩
    · exact h.elim
  · split at h
    · rename_i hu
      rw [hex]; exact Good.of_pure ⟨_, fun w' => by simp [Q0y, Q21, Q15 hu], h⟩
    · exact h.elim
  · cases hg : okGuard P t vx vy
    · simp [hg] at h
    · simp only [hg, cond_true] at h
      obtain ⟨v, χ, h1, h2, h3⟩ := asV_ok h
      have hgd : ∀ w', (eqGuard op t x y vx vy).run P w' = .ok () w' := fun w' => Q3L hg w'
      rw [hex]
      exact Good.of_value ⟨v, χ, h1, fun w' h => by simp [hgd w', h2 w' h], h3⟩

theorem Q2f {x : Option Operand} {Φ : Option Int → Prop} (h : optInt ρ x Φ) :
    ∃ l : Option Int, Φ l ∧ ((x = none ∧ l = none) ∨ ∃ y k n, x = some y ∧ ρ y = .int k n ∧ l = some n) := by
  cases x with
  | none => exact ⟨none, h, .inl ⟨rfl, rfl⟩⟩
  | some y =>
    simp only [optInt] at h
    split at h
    · rename_i k n hn
      exact ⟨some n, h, .inr ⟨y, k, n, rfl, hn, rfl⟩⟩
    · exact h.elim

theorem Q0F {k : IntKind} {i : Int} {y : Nat} {c : BoundsCode} (h0 : 0 ≤ i) (h1 : i ≤ y) (w : World) : (Instr.sliceBound (.int k i) y c).run P w = .ok i.toNat w := by
  simp [Instr.sliceBound, asIntOf, h0, h1]

def Bd (v : Option Value) (l : Option Int) : Prop := (v = none ∧ l = none) ∨ ∃ k n, v = some (.int k n) ∧ l = some n

theorem Q12 {b : Bool} {len cap : Nat} {lo hi mx : Option Value} {l h m : Option Int} {K : Nat → Nat → Nat → Prop}
    (hlo : Bd lo l) (hhi : Bd hi h) (hmx : Bd mx m) (hc : mcut len cap l h m K) :
    ∃ x y z, (∀ w, (Instr.sliceBounds b len cap lo hi mx).run P w = .ok (x, y, z) w) ∧ K x y z := by
  rcases hlo with ⟨rfl, rfl⟩ | ⟨kl, nl, rfl, rfl⟩ <;> rcases hhi with ⟨rfl, rfl⟩ | ⟨kh, nh, rfl, rfl⟩ <;> rcases hmx with ⟨rfl, rfl⟩ | ⟨km, nm, rfl, rfl⟩ <;> simp only [mcut] at hc
  · exact ⟨_, _, _, fun w => by simp [Instr.sliceBounds]; done, hc⟩
  · obtain ⟨h1, h2, hK⟩ := hc
    exact ⟨_, _, _, fun w => by simp [Instr.sliceBounds, Q0F h1 h2]; done, hK⟩
  · obtain ⟨h1, h2, h3, h4, hK⟩ := hc
    have e : (nh.toNat : Int) = nh := Int.toNat_of_nonneg h3
    have h2' : nm ≤ (cap : Int) := h2
    have hm : nh ≤ ((nm.toNat : Nat) : Int) := by omega
    exact ⟨_, _, _, fun w => by simp [Instr.sliceBounds, Q0F h1 h2, Q0F h3 hm]; done, hK⟩
  · obtain ⟨h1, h2, hK⟩ := hc
    exact ⟨_, _, _, fun w => by simp [Instr.sliceBounds, Q0F h1 h2]; done, hK⟩
  · obtain ⟨h1, h2, h3, h4, hK⟩ := hc
    have hm : nl ≤ ((nh.toNat : Nat) : Int) := by omega
    exact ⟨_, _, _, fun w => by simp [Instr.sliceBounds, Q0F h1 h2, Q0F h3 hm]; done, hK⟩
  · obtain ⟨h1, h2, h3, h4, h5, h6, hK⟩ := hc
    have hm : nh ≤ ((nm.toNat : Nat) : Int) := by omega
    have hl : nl ≤ ((nh.toNat : Nat) : Int) := by omega
    exact ⟨_, _, _, fun w => by simp [Instr.sliceBounds, Q0F h1 h2, Q0F h3 hm, Q0F h5 hl]; done, hK⟩

theorem Q4d {t : TypeId} {x : Value} {lo hi mx : Option Value} {l h m : Option Int} {K : Value → Prop}
    (hlo : Bd lo l) (hhi : Bd hi h) (hmx : Bd mx m) (hs : mslice P t x l h m K) : ∃ v : Value, (∀ w, (Instr.sliceAt t x lo hi mx).run P w = .ok v w) ∧ K v := by
  unfold mslice at hs
  split at hs
  · rename_i e a n c hu
    split at hs
    · rename_i i hi'
      obtain ⟨x, y, z, hr, hK⟩ := Q12 (P := P) (b := true) hlo hhi hmx hs
      exact ⟨_, fun w => by simp [Instr.sliceAt, Instr.slice, run_underlying' hu, hr w, run_sizeOf' hi'], hK⟩
    · exact hs.elim
  · rename_i s hu
    obtain ⟨x, y, z, hr, rfl, hK⟩ := Q12 (P := P) (b := false) hlo hhi (m := none) (mx := none) (.inl ⟨rfl, rfl⟩) hs
    obtain rfl : mx = none := by rcases hmx with ⟨h, _⟩ | ⟨k, n, _, h⟩; exact h; cases h
    exact ⟨_, fun w => by simp [Instr.sliceAt, Instr.slice, run_underlying' hu, hr w], hK⟩
  · rename_i n e a hu
    split at hs
    · rename_i i hi'
      obtain ⟨x, y, z, hr, hK⟩ := Q12 (P := P) (b := false) hlo hhi hmx hs
      exact ⟨_, fun w => by simp [Instr.sliceAt, Instr.sureAddr, run_underlying' hu, hr w, run_sizeOf' hi'], hK⟩
    · exact hs.elim
  · exact hs.elim

theorem Q4c {o : Oper} {w : World} {c : Call} {b : Builtin} {K : Value → Chi → Prop} (ho : o.op = .call c) (hc : c.callee = .builtin b)
    (h : mcallb P o.type w b c.argTypes (c.args.toList.map ρ) K) : Good P (execOp ρ o) w K := by
  obtain ⟨cs, hex⟩ : ∃ cs, execOp ρ o = builtin b c.argTypes o.type cs (c.args.map ρ) := by
    refine ⟨c.args.map fun | .const _ => true | _ => false, ?_⟩
    simp only [execOp, ho, resolve, hc, invoke, pure_bind]
    rfl
  have hargs : c.args.map ρ = (c.args.toList.map ρ).toArray := by apply Array.ext'; simp
  generalize c.args.toList.map ρ = args at h hargs
  unfold mcallb at h
  split at h
  · split at h
    · rename_i e hu
      obtain ⟨t, ht, hu⟩ := Option.bind_eq_some_iff.1 hu
      rw [hex, hargs]
      exact Good.pure_ (fun w' => by simp [builtin, Builtin.len_, ht, run_underlying' hu, goInt]) h
    · exact h.elim
  · split at h
    · rename_i hu
      obtain ⟨t, ht, hu⟩ := Option.bind_eq_some_iff.1 hu
      rw [hex, hargs]
      exact Good.pure_ (fun w' => by simp [builtin, Builtin.len_, ht, run_underlying' hu, goInt]) h
    · exact h.elim
  · split at h
    · rename_i e hu
      obtain ⟨t, ht, hu⟩ := Option.bind_eq_some_iff.1 hu
      rw [hex, hargs]
      exact Good.pure_ (fun w' => by simp [builtin, Builtin.cap_, ht, run_underlying' hu, goInt]) h
    · exact h.elim
  · rw [hex, hargs]
    exact Good.pure_ (fun w' => by simp [builtin, Builtin.max_, Builtin.max2]) h
  · rw [hex, hargs]
    exact Good.pure_ (fun w' => by simp [builtin, Builtin.min_, Builtin.min2]) h
  · obtain ⟨v, χ, h1, h2, h3⟩ := asV_ok h
    rw [hex, hargs]
    exact ⟨v, χ, h1, fun w' h => by simp [builtin, h2 w' h], h3⟩
  · exact h.elim

theorem Q28 (fields : Array Field) (w : World) (h : fields.all (fun fl => (P.info? fl.type).isSome) = true) :
    ((fields.mapM fun f => Prod.mk f.offset <$> sizeOf f.type : Sem (Array (Nat × Nat)))).run P w = .ok (fields.map fun fl => (fl.offset, ((P.info? fl.type).map (·.size)).getD 0)) w := by
  have hl : ∀ (l : List Field), l.all (fun fl => (P.info? fl.type).isSome) = true →
      ((l.mapM fun f => Prod.mk f.offset <$> sizeOf f.type : Sem (List (Nat × Nat)))).run P w = .ok (l.map fun fl => (fl.offset, ((P.info? fl.type).map (·.size)).getD 0)) w := by
    intro l
    induction l with
    | nil => intro _; simp
    | cons f r ih =>
      intro h
      simp only [List.all_cons, Bool.and_eq_true] at h
      obtain ⟨i, hi⟩ := Option.isSome_iff_exists.1 h.1
      rw [List.mapM_cons]
      simp [run_sizeOf' hi, ih h.2, hi]
  rw [← Array.toArray_toList (xs := fields)] at h ⊢
  rw [List.mapM_toArray]
  simp only [List.all_toArray] at h
  simp only [Sem.run_map, hl _ h, Result.andThen_ok]
  congr 1
  apply Array.ext'
  simp

theorem Q4h {t : TypeId} {parts : Array (Nat × Value)} {K : Value → Prop} (h : mbuild P t parts.toList K) :
    ∃ v : Value, (∀ w, (Instr.build t parts).run P w = .ok v w) ∧ K v := by
  unfold mbuild at h
  split at h
  · rename_i i fields hi hu
    split at h
    · rename_i z hz
      split at h
      · rename_i cells hf
        cases ha : fields.all (fun fl => (P.info? fl.type).isSome)
        · simp [ha] at h
        · simp only [ha, cond_true] at h
          have hf' : Instr.fill (fun j => (fields[j]?).map fun fl => (fl.offset, ((P.info? fl.type).map (·.size)).getD 0)) z.cells parts.toList = some cells := by
            rw [← hf]
            congr 1
            funext j
            cases hj : fields[j]? with
            | none => rfl
            | some fl =>
              have := Array.all_eq_true_iff_forall_mem.1 ha fl (Array.mem_of_getElem? hj)
              obtain ⟨u, hu'⟩ := Option.isSome_iff_exists.1 this
              simp [hu']
          exact ⟨_, fun w => by simp [Instr.build, zeroValue, run_typeInfo' hi, hz, run_underlying' hu, Q28 fields w ha, hf'], h⟩
      · exact h.elim
    · exact h.elim
  · rename_i i n e hi hu
    split at h
    · rename_i z u hz hu'
      split at h
      · rename_i cells hf
        exact ⟨_, fun w => by simp [Instr.build, zeroValue, run_typeInfo' hi, hz, run_underlying' hu, run_sizeOf' hu', hf], h⟩
      · exact h.elim
    · exact h.elim
  · exact h.elim

theorem bd_of {x : Option Operand} {l : Option Int} (h : (x = none ∧ l = none) ∨ ∃ y k n, x = some y ∧ ρ y = .int k n ∧ l = some n) : Bd (x.map ρ) l := by
  rcases h with ⟨rfl, rfl⟩ | ⟨y, k, n, rfl, h, rfl⟩
  · exact .inl ⟨rfl, rfl⟩
  · exact .inr ⟨k, n, by simp [h], rfl⟩

theorem mrd_ok {o : Oper} {w : World} {K : Value → Chi → Prop} (h : mrd P ρ o w K) : Good P (execOp ρ o) w K := by
  unfold mrd at h
  split at h
  · rename_i x ho; exact Good.pure_ (fun w' => by simp [execOp, ho]) h
  · rename_i x ho; exact Good.pure_ (fun w' => by simp [execOp, ho]) h
  · rename_i c a b ho
    split at h
    · rename_i t ht
      refine Good.pure_ (v := bif t then ρ a else ρ b) (fun w' => ?_) h
      cases t <;> simp [execOp, ho, ht, asBool]
    · exact h.elim
  · rename_i x ho
    split at h
    · rename_i p hp
      cases p with
      | none => exact h.elim
      | some a => exact Good.pure_ (fun w' => by simp [execOp, ho, hp]) h
    · rename_i k first cap hp
      exact Good.pure_ (fun w' => by simp [execOp, ho, hp]) h
    · exact h.elim
  · rename_i op t x y ty ho
    split at h
    · rename_i z hx hy
      split at h
      · rename_i ms hu
        refine Good.pure_ (v := .bool false) (fun w' => ?_) h
        simp only [execOp, ho, hx, hy]
        simp [eqGuard, Q2G, Q1g hu]
      · exact h.elim
    · rename_i z hx hy
      split at h
      · rename_i ms hu
        refine Good.pure_ (v := .bool true) (fun w' => ?_) h
        simp only [execOp, ho, hx, hy]
        simp [eqGuard, Q2J, Q1g hu]
      · exact h.elim
    · exact mbin_ok ho h
  · rename_i op t x ho
    split at h
    · rename_i b hb; exact Good.pure_ (fun w' => by simp [execOp, ho, hb, Op.unary]) h
    · rename_i k n hb; exact Good.pure_ (fun w' => by simp [execOp, ho, hb, Op.unary, Op.intArith]) h
    · exact h.elim
  · rename_i x i ho
    split at h
    · rename_i vs hv
      split at h
      · rename_i v hvi; exact Good.pure_ (fun w' => by simp [execOp, ho, hv, Instr.extract, hvi]) h
      · exact h.elim
    · exact h.elim
  · rename_i s x i ho
    split at h
    · rename_i fs a hu hx
      split at h
      · rename_i fl hfl
        split at h
        · rename_i u hu'
          cases hz : Nat.beq u.size 0
          · simp only [hz, cond_false] at h
            have hne : u.size ≠ 0 := fun e => by simp [e] at hz
            exact Good.pure_ (fun w' => by simp [execOp, ho, hx, Instr.fieldAt, run_underlying' hu, hfl, Instr.sureAddr, fieldPlace, run_sizeOf' hu', hne]) h
          · simp [hz] at h
        · exact h.elim
      · exact h.elim
    · exact h.elim
  · rename_i s x i ho
    split at h
    · rename_i fs cs hu hx
      split at h
      · rename_i fl hfl
        obtain ⟨v, hv, hK⟩ := Q3j h
        exact Good.pure_ (fun w' => by simp [execOp, ho, hx, Instr.field, run_underlying' hu, hfl, asAgg, hv]) hK
      · exact h.elim
    · exact h.elim
  · rename_i t x i ho
    split at h
    · rename_i e p n c k j hu hx hi
      split at h
      · rename_i u hu'
        cases p with
        | none => exact h.elim
        | some a =>
          obtain ⟨h0, h1, h⟩ := h
          exact Good.pure_ (fun w' => by simp [execOp, ho, hx, hi, Instr.indexAt, run_underlying' hu, asIntOf, h0, h1, run_sizeOf' hu']) h
      · exact h.elim
    · rename_i n e a k j hu hx hi
      split at h
      · rename_i u hu'
        obtain ⟨h0, h1, h⟩ := h
        exact Good.pure_ (fun w' => by simp [execOp, ho, hx, hi, Instr.indexAt, run_underlying' hu, asIntOf, h0, h1, run_sizeOf' hu', Instr.sureAddr]) h
      · exact h.elim
    · exact h.elim
  · rename_i t x i ho
    split at h
    · rename_i s k j hu hx hi
      obtain ⟨h0, b, hb, h⟩ := h
      exact Good.pure_ (fun w' => by simp [execOp, ho, hx, hi, Instr.index, run_underlying' hu, asIntOf, h0, hb]) h
    · rename_i n e cs k j hu hx hi
      split at h
      · rename_i u hu'
        obtain ⟨h0, h1, h⟩ := h
        have h : mpart P e cs (j.toNat * u.size) (K · none) := by
          cases hf : isFns cs with
          | false => rw [hf] at h; exact h
          | true =>
            rw [hf] at h
            simp only [cond_true] at h
            cases hc : (Nat.beq u.size 1 && Nat.ble n cs.size) with
            | false => rw [hc] at h; exact h.elim
            | true =>
              rw [hc] at h
              simp only [cond_true] at h
              simp only [Bool.and_eq_true] at hc
              have hs := Nat.eq_of_beq_eq_true hc.1
              have hn := Nat.le_of_ble_eq_true hc.2
              unfold mpart
              rw [hu']
              simp only []
              cases ha : aggK P e with
              | none => rw [ha] at h; exact h
              | some b =>
                rw [ha] at h
                cases b with
                | true => exact h.elim
                | false =>
                  simp only [] at h ⊢
                  have hj : j.toNat < cs.size := by omega
                  have := Q2P (l := cs.toList) (i := 0) (j := j.toNat) (by rw [Nat.zero_add, show Int.ofNat j.toNat = j by simp; omega]; exact h) (by simpa using hj)
                  rw [hs, Nat.mul_one, Array.getElem?_eq_getElem hj]
                  simpa using this
        obtain ⟨v, hv, hK⟩ := Q3j h
        exact Good.pure_ (fun w' => by simp [execOp, ho, hx, hi, Instr.index, run_underlying' hu, asIntOf, h0, h1, run_sizeOf' hu', hv]) hK
      · exact h.elim
    · exact h.elim
  · rename_i t x lo hi mx ho
    obtain ⟨l, h, hl⟩ := Q2f h
    obtain ⟨hh, h, hhi⟩ := Q2f h
    obtain ⟨m, h, hm⟩ := Q2f h
    obtain ⟨v, hv, hK⟩ := Q4d (bd_of hl) (bd_of hhi) (bd_of hm) h
    exact Good.pure_ (fun w' => by simp [execOp, ho, hv w']) hK
  · rename_i fn first cap ho
    exact Good.pure_ (fun w' => by simp [execOp, ho, Instr.makeFunc]) h
  · rename_i t x ho
    split at h
    · exact h.elim
    · rename_i d hd hu
      refine Good.pure_ (fun w' => ?_) h
      simp only [execOp, ho, Instr.makeInterface, Sem.run_bind, run_underlying' hu, Result.andThen_ok]
      cases d <;> first | rfl | exact absurd rfl (hd _)
    · exact h.elim
  · rename_i t parts ho
    have h' : mbuild P t ((parts.map fun (i, x) => (i, ρ x)).toList) (K · none) := by simpa using h
    obtain ⟨v, hv, hK⟩ := Q4h h'
    exact Good.pure_ (fun w' => by simp only [execOp, ho, Sem.run_bind, hv w', Result.andThen_ok]; rfl) hK
  · rename_i s d x ho
    split at h
    · rename_i ds k j n hs hd hx
      exact Good.pure_ (fun w' => by
        simp only [execOp, ho, hx, convert, Sem.run_bind, run_underlying' hs, run_underlying' hd, Result.andThen_ok]
        rfl) h
    · rename_i ds b hs hd hx
      refine Good.pure_ (fun w' => ?_) h
      simp only [execOp, ho, hx, convert, Sem.run_bind, run_underlying' hs, run_underlying' hd, Result.andThen_ok]
      rfl
    · obtain ⟨v, χ, h1, h2, h3⟩ := asV_ok h
      exact ⟨v, χ, h1, fun w' h => by simp [execOp, ho, h2 w' h], h3⟩
  · rename_i t x ho
    split at h
    · rename_i a hx
      obtain ⟨v, χ, h1, h2, hK⟩ := Q2d h
      exact ⟨v, χ, h1, fun w' h => by simp [execOp, ho, hx, Instr.loadAt, Instr.sureAddr, h2 w' h], hK⟩
    · exact h.elim
  · rename_i c ho
    split at h
    · rename_i b hb; exact Q4c ho hb h
    · exact h.elim
  · rename_i t x i ok ho
    obtain ⟨v, χ, h1, h2, h3⟩ := asV_ok h
    exact ⟨v, χ, h1, fun w' h => by simp [execOp, ho, h2 w' h], h3⟩
  · rename_i x t d ok ho
    obtain ⟨v, χ, h1, h2, h3⟩ := asV_ok h
    exact ⟨v, χ, h1, fun w' h => by simp [execOp, ho, h2 w' h], h3⟩
  · exact h.elim
end
end Go.Mx
namespace Go.Mx

def enters (P : Program) (k : Nat) : Bool :=
  match P.funcs[k]? with
  | some fn => fn.body.isSome && !(fn.name == "runtime.NumGoroutine")
  | none => false

def Q1M (k : Nat) (args : Array Value) : Sem Value := do
  match (← callFunc k args) with
  | .value v => pure v
  | _ => stuck "a function with a body"
def callK (P : Program) (k : Nat) (args : List Value) (ty : TypeId) (w : World) (K : RW) : Prop :=
  bif enters P k then Calls P k args.toArray w (fun e w' => resEx P ty fun v => e = .returned v ∧ K v w') else resEx P ty fun v => ∃ w', (Q1M k args.toArray).run P w = .ok v w' ∧ K v w'

def Q01 (w : World) (a : Addr) : Prop := (∃ u, w.cell? a = some u) ∧ w.frozen? a = false
def storesK (a : Addr) : List Value → Nat → World → (World → Prop) → Prop
  | [], _, w, K => K w
  | v :: r, i, w, K => Q01 w (a.add i) ∧ bif v.oneCell' then storesK a r (i + 1) (w.setCell (a.add i) v) K else False

section
variable (P : Program) (ρ : Operand → Value)

def runV (ty : TypeId) (s : Sem Value) (w : World) (K : RW) : Prop :=
  resEx P ty fun v => ∃ w', s.run P w = .ok v w' ∧ K v w'
def runU (s : Sem Unit) (w : World) (K : RW) : Prop := ∃ w', s.run P w = .ok () w' ∧ K undef w'

def mslit (t : TypeId) (len : Nat) (parts : List (Nat × Value)) (w : World) (K : RW) : Prop :=
  match P.underlying t with
  | some (.slice e) =>
    match P.info? e with
    | some i =>
      match i.zero with
      | some z =>
        bif Nat.ble (len * i.size) (2 ^ 24) then
          (match Instr.fill (fun j => some (j * i.size, i.size)) (bif Nat.beq (len * i.size) 0 then #[] else (Array.range (len * i.size)).map (z.cells[· % z.cells.size]!)) parts with
          | some cells => K (.slice (some ⟨w.heap.size, 0, none⟩) len len) (w.alloc (.cells cells e))
          | none => False)
        else False
      | none => False
    | none => False
  | _ => False

def meff (o : Oper) (w : World) (K : RW) : Prop :=
  match o.op with
  | .alloc e =>
    match P.info? e with
    | some i => (match i.zero with | some z => K (.pointer (some ⟨w.heap.size, 0, none⟩)) (w.alloc (.cells z.cells e)) | none => False)
    | none => False
  | .box e x => K (.pointer (some ⟨w.heap.size, 0, none⟩)) (w.alloc (.cells (ρ x).cells e))
  | .buildSlice t len parts => mslit P t len (parts.toList.map fun p => (p.1, ρ p.2)) w K
  | .makeMap _ r => match r with | none => K (.map (some w.heap.size)) (w.alloc (.map #[] 0)) | some _ => False
  | .makeSlice t l c => runV P o.type (Instr.makeSlice t (ρ l) (ρ c)) w K
  | .store t a x =>
    match ρ a with
    | .pointer (some ad) => bif szB P t (ρ x).cells.size then storesK ad (ρ x).cells.toList 0 w (fun w' => K undef w') else False
    | _ => False
  | .convert s d x => runV P o.type (convert s d (ρ x)) w K
  | .mapUpdate t m k x => runU P (Instr.mapUpdate t (ρ m) (ρ k) (ρ x)) w K
  | .mapEntry t m k =>
    (match P.underlying t with
    | some (.map _ e) => (shOf P e).ex fun v => ∃ (n : Int) (w' : World), (Instr.mapEntry t (ρ m) (ρ k)).run P w = .ok (.tuple #[v, .int .i64 n]) w' ∧ K (.tuple #[v, .int .i64 n]) w'
    | _ => False)
  | .entryStore t m s x => runU P (Instr.entryStore t (ρ m) (ρ s) (ρ x)) w K
  | .range t x => runV P o.type (Instr.range t (ρ x)) w K
  | .next it isString => runV P o.type (Instr.next (ρ it) isString o.type) w K
  | .call c =>
    match c.callee with
    | .value f =>
      (match ρ f with
      | .func (.func k) first cap => callK P k (first.toList ++ c.args.toList.map ρ ++ cap.toList) o.type w K
      | _ => False)
    | .builtin .append => runV P o.type (Builtin.append_ c.argTypes o.type (c.args.toList.map ρ).toArray) w K
    | .builtin .copy => runV P o.type (Builtin.copy_ c.argTypes o.type (c.args.toList.map ρ).toArray) w K
    | .builtin .delete => runV P o.type (Builtin.delete_ c.argTypes o.type (c.args.toList.map ρ).toArray) w K
    | .builtin .clear => runV P o.type (Builtin.clear_ c.argTypes o.type (c.args.toList.map ρ).toArray) w K
    | _ => False
  | _ => False

def isRd (op : Op) : Bool :=
  match op with
  | .move _ | .assign _ | .pick .. | .nilCheck _ | .binOp .. | .unOp .. | .extract .. | .fieldAddr .. | .field .. | .indexAddr .. | .index .. | .slice ..
  | .makeFunc .. | .makeInterface .. | .build .. | .load .. | .lookup .. | .typeAssert .. => true
  | .convert s d _ => (match P.underlying s, P.underlying d with | some (.slice _), some (.slice _) => false | some .string, some (.slice _) => false | _, _ => true)
  | .call c => (match c.callee with | .builtin .len => true | .builtin .cap => true | .builtin .max => true | .builtin .min => true | _ => false)
  | _ => false

def mop (o : Oper) (w : World) (K : RW) : Prop :=
  bif isRd P o.op then mrd P ρ o w (fun v _ => K v w) else meff P ρ o w K
end

section
variable {P : Program} {ρ : Operand → Value}

def OpOk (P : Program) (s : Sem Next) (w : World) (K : RW) : Prop :=
  match s.run P w with
  | .ok (.value v) w' => K v w'
  | .ok .skip w' => K undef w'
  | .ok (.enter k args) w' => Calls P k args w' fun e w'' => ∃ v, e = .returned v ∧ K v w''
  | _ => False

theorem OpOk.mono {s : Sem Next} {w : World} {K K' : RW} (h : OpOk P s w K) (hk : ∀ v w', K v w' → K' v w') : OpOk P s w K' := by
  unfold OpOk at *
  split at h
  · exact hk _ _ h
  · exact hk _ _ h
  · exact h.mono fun e w'' ⟨v, he, h⟩ => ⟨v, he, hk _ _ h⟩
  · exact h.elim

theorem OpOk.of_good {s : Sem Next} {w : World} {K : RW} (h : Good P s w (fun v _ => K v w)) : OpOk P s w K := by
  obtain ⟨v, χ, h1, h2, h3⟩ := h
  unfold OpOk
  rw [h2 w h1]
  exact h3
theorem OpOk.of_run {s : Sem Value} {w w' : World} {v : Value} {K : RW} (h : s.run P w = .ok v w') (hK : K v w') : OpOk P (do pure (Next.value (← s))) w K := by
  unfold OpOk
  simp [h, hK]
theorem OpOk.of_runU {s : Sem Unit} {w w' : World} {K : RW} (h : s.run P w = .ok () w') (hK : K undef w') : OpOk P (do s; pure Next.skip) w K := by
  unfold OpOk
  simp [h, hK]
theorem OpOk.of_runV {ty : TypeId} {s : Sem Value} {w : World} {K : RW} (h : runV P ty s w K) : OpOk P (do pure (Next.value (← s))) w K := by
  obtain ⟨v, w', h1, h2⟩ := Q1m h
  exact .of_run h1 h2

theorem Q2v {a : Addr} : ∀ {vs : List Value} {i : Nat} {w : World} {K : World → Prop}, storesK a vs i w K → ∃ w', (storeCells a vs i).run P w = .ok () w' ∧ K w'
  | [], i, w, K, h => ⟨w, by simp [storeCells], h⟩
  | v :: r, i, w, K, h => by
    obtain ⟨⟨⟨u, hu⟩, hf⟩, h⟩ := h
    cases hv : v.oneCell'
    · simp [hv] at h
    · simp only [hv, cond_true] at h
      obtain ⟨w', h1, h2⟩ := Q2v h
      exact ⟨w', by simp [storeCells, run_store _ _ _ _ _ hv, hu, hf, h1], h2⟩

theorem Q1y {k : Nat} {args : Array Value} (h : enters P k = true) (w : World) : (callFunc k args).run P w = .ok (.enter k args) w := by
  unfold enters at h
  split at h
  · rename_i fn hfn
    simp only [Bool.and_eq_true, Bool.not_eq_true'] at h
    obtain ⟨h1, h2⟩ := h
    obtain ⟨b, hb⟩ := Option.isSome_iff_exists.1 h1
    simp only [callFunc, Sem.run_bind, run_program, Result.andThen_ok, hfn, h2, hb]
    simp
  · cases h

theorem Q4E {t : TypeId} {len : Nat} {parts : Array (Nat × Value)} {w : World} {K : RW} (h : mslit P t len parts.toList w K) :
    ∃ v w', (Instr.buildSlice t len parts).run P w = .ok v w' ∧ K v w' := by
  unfold mslit at h
  split at h
  · rename_i e hu
    split at h
    · rename_i i hi
      split at h
      · rename_i z hz
        cases hb : Nat.ble (len * i.size) (2 ^ 24)
        · simp [hb] at h
        · simp only [hb, cond_true] at h
          have hle : ¬ (len * i.size > 2 ^ 24) := by have := Nat.le_of_ble_eq_true hb; omega
          split at h
          · rename_i cells hf
            refine ⟨_, _, ?_, h⟩
            by_cases h0 : len * i.size = 0
            · simp only [h0, Nat.beq_refl, cond_true] at hf
              have hr : ∀ f : Nat → Value, Array.map f (Array.range 0) = #[] := fun f => by apply Array.ext'; simp
              simp [Instr.buildSlice, run_underlying' hu, run_sizeOf' hi, h0, hr, hf, newRow]
            · have hb0 : Nat.beq (len * i.size) 0 = false := by
                cases hb : Nat.beq (len * i.size) 0
                · rfl
                · exact absurd (Q0E hb) h0
              simp only [hb0, cond_false] at hf
              simp [Instr.buildSlice, run_underlying' hu, run_sizeOf' hi, h0, hle, zeroValue, run_typeInfo' hi, hz, hf, newRow]
          · exact h.elim
      · exact h.elim
    · exact h.elim
  · exact h.elim

theorem meff_ok {o : Oper} {w : World} {K : RW} (h : meff P ρ o w K) : OpOk P (execOp ρ o) w K := by
  unfold meff at h
  split at h
  · rename_i e ho
    split at h
    · rename_i i hi
      split at h
      · rename_i z hz
        simp only [execOp, ho]
        exact .of_run (by simp [Instr.alloc, zeroValue, run_typeInfo' hi, hz, newVar, newRow]) h
      · exact h.elim
    · exact h.elim
  · rename_i e x ho
    simp only [execOp, ho]
    exact .of_run (by simp [Instr.box, newVar, newRow]) h
  · rename_i t len parts ho
    have h' : mslit P t len ((parts.map fun (i, x) => (i, ρ x)).toList) w K := by simpa using h
    obtain ⟨v, w', h1, h2⟩ := Q4E h'
    simp only [execOp, ho]
    exact .of_run h1 h2
  · rename_i t r ho
    split at h
    · simp only [execOp, ho]
      exact .of_run (by simp [Instr.makeMap]) h
    · exact h.elim
  · rename_i t l c ho
    simp only [execOp, ho]
    exact .of_runV h
  · rename_i t a x ho
    split at h
    · rename_i ad ha
      cases hs : szB P t (ρ x).cells.size
      · simp [hs] at h
      · simp only [hs, cond_true] at h
        obtain ⟨i, hi, hz⟩ := Q2K hs
        obtain ⟨w', h1, h2⟩ := Q2v (P := P) h
        simp only [execOp, ho]
        refine .of_runU (w' := w') ?_ h2
        simp [Instr.storeAt, ha, Instr.sureAddr, storeVar, run_sizeOf' hi, hz, h1]
    · exact h.elim
  · rename_i s d x ho
    simp only [execOp, ho]
    exact .of_runV h
  · rename_i t m k x ho
    obtain ⟨w', h1, h2⟩ := h
    simp only [execOp, ho]
    exact .of_runU h1 h2
  · rename_i t m k ho
    split at h
    · obtain ⟨v, n, w', h1, h2⟩ := Sh.ex_out h
      simp only [execOp, ho]
      exact .of_run h1 h2
    · exact h.elim
  · rename_i t m k x ho
    obtain ⟨w', h1, h2⟩ := h
    simp only [execOp, ho]
    exact .of_runU h1 h2
  · rename_i t x ho
    simp only [execOp, ho]
    exact .of_runV h
  · rename_i it b ho
    simp only [execOp, ho]
    exact .of_runV h
  · rename_i c ho
    have hargs : c.args.map ρ = (c.args.toList.map ρ).toArray := by apply Array.ext'; simp
    split at h
    · rename_i f hf
      split at h
      · rename_i k first cap hk
        unfold callK at h
        cases he : enters P k
        · simp only [he, cond_false] at h
          obtain ⟨v, w', h1, h2⟩ := Q1m h
          have hr : execOp ρ o = callFunc k (first.toList ++ c.args.toList.map ρ ++ cap.toList).toArray := by
            simp only [execOp, ho, resolve, hf, hk, Deferred.ofValue, pure_bind, invoke]
            congr 1
            apply Array.ext'
            simp
          rw [hr]
          unfold OpOk
          unfold Q1M at h1
          simp only [Sem.run_bind] at h1
          generalize (callFunc k (first.toList ++ c.args.toList.map ρ ++ cap.toList).toArray).run P w = q at *
          cases q with
          | ok n w1 =>
            simp only [Result.andThen_ok] at h1
            cases n <;> simp only [Sem.run_pure, Result.ok.injEq] at h1
            case value u =>
              obtain ⟨rfl, rfl⟩ := h1
              exact h2
            all_goals (first | (cases h1; done) | (simp [stuck] at h1; done))
          | halt x w1 => simp [Result.andThen] at h1
        · simp only [he, cond_true] at h
          unfold OpOk
          have hr : (execOp ρ o).run P w = .ok (.enter k (first.toList ++ c.args.toList.map ρ ++ cap.toList).toArray) w := by
            simp only [execOp, ho, resolve, hf, hk, Deferred.ofValue, pure_bind, invoke, Sem.run_bind, Sem.run_pure, Result.andThen_ok, Q1y he]
            congr 2
            apply Array.ext'
            simp
          rw [hr]
          refine h.mono fun e w'' hh => ?_
          obtain ⟨v, h1, h2⟩ := Q1m hh
          exact ⟨v, h1, h2⟩
      · exact h.elim
    · rename_i hf
      simp only [execOp, ho, resolve, hf, pure_bind, invoke, builtin, hargs]
      exact .of_runV h
    · rename_i hf
      simp only [execOp, ho, resolve, hf, pure_bind, invoke, builtin, hargs]
      exact .of_runV h
    · rename_i hf
      simp only [execOp, ho, resolve, hf, pure_bind, invoke, builtin, hargs]
      exact .of_runV h
    · rename_i hf
      simp only [execOp, ho, resolve, hf, pure_bind, invoke, builtin, hargs]
      exact .of_runV h
    · exact h.elim
  · exact h.elim

theorem mop_ok {o : Oper} {w : World} {K : RW} (h : mop P ρ o w K) : OpOk P (execOp ρ o) w K := by
  unfold mop at h
  cases hr : isRd P o.op
  · simp only [hr, cond_false] at h; exact meff_ok h
  · simp only [hr, cond_true] at h; exact .of_good (mrd_ok h)

theorem OpOk.wp {o : Oper} {a : Act} {w : World} {K : Act → World → Prop} {Q : Exit → Act → World → Prop} {K' : RW}
    (h : OpOk P (execOp a.eval o) w K') (hk : ∀ v w', K' v w' → K (a.put o.dst v) w') : o.wp P a w K Q := by
  unfold Oper.wp
  unfold OpOk at h
  generalize (execOp a.eval o).run P w = r at *
  cases r with
  | ok n w' =>
    cases n <;> simp only at h <;> simp only [Oper.upon]
    case value v => exact hk _ _ h
    case skip => exact hk _ _ h
    case enter f args => exact h.mono fun e w'' ⟨v, he, hv⟩ => by subst he; exact hk _ _ hv
    all_goals exact h.elim
  | halt x w' => exact h.elim
end
end Go.Mx
set_option linter.unnecessarySimpa false
namespace Go.Mx

def opnds : Op → List Operand
  | .alloc _ | .ready _ | .waits _ => []
  | .move x | .assign x | .box _ x | .load _ x | .nilCheck x | .unOp _ _ x | .convert _ _ x | .sliceToArrayPointer _ x | .makeInterface _ x
  | .makeChan _ x | .fieldAddr _ x _ | .field _ x _ | .range _ x | .next x _ | .entry x | .typeAssert x _ _ _ | .extract x _ | .panic x | .recv _ x _ => [x]
  | .pick c a b => [c, a, b]
  | .build _ ps | .buildSlice _ _ ps => ps.toList.map (·.2)
  | .store _ a v | .binOp _ _ a v _ | .makeSlice _ a v | .indexAddr _ a v | .index _ a v | .lookup _ a v _ | .mapEntry _ a v | .send a v => [a, v]
  | .makeFunc _ first captured => first.toList ++ captured.toList
  | .makeMap _ r => r.toList
  | .slice _ x l h m => x :: (l.toList ++ h.toList ++ m.toList)
  | .mapUpdate _ m k v | .entryStore _ m k v | .insert _ m k v => [m, k, v]
  | .call c | .go c | .defer c => (match c.callee with | .value f => [f] | .invoke r _ => [r] | .builtin _ => []) ++ c.args.toList
  | .select cs _ => []

theorem Q2O {op : Op} (hs : ∀ cs b, op ≠ .select cs b) {x : Operand} (h : x ∈ op.operands) : x ∈ opnds op := by
  cases op <;> simp only [Op.operands] at h <;> simp only [opnds]
  case select cs b => exact absurd rfl (hs cs b)
  case call c => simp only [Call.operands] at h; cases hc : c.callee <;> simp [hc] at h ⊢ <;> exact h
  case go c => simp only [Call.operands] at h; cases hc : c.callee <;> simp [hc] at h ⊢ <;> exact h
  case defer c => simp only [Call.operands] at h; cases hc : c.callee <;> simp [hc] at h ⊢ <;> exact h
  all_goals (first | (simpa using h) | (simp at h ⊢; done) | (simp [or_assoc] at h ⊢; exact h))

def isSel : Op → Bool | .select .. => true | _ => false
theorem Q1d {op : Op} (h : isSel op = false) : ∀ cs b, op ≠ .select cs b := fun cs b e => by subst e; simp [isSel] at h

def mopF (P : Program) (f : Fs) (o : Oper) (w : World) (K : RW) : Prop :=
  bif known f (opnds o.op) then mop P (rho f) o w K else False
def mrdF (P : Program) (f : Fs) (o : Oper) (w : World) (K : Value → Chi → Prop) : Prop :=
  bif known f (opnds o.op) then mrd P (rho f) o w K else False
def meffF (P : Program) (f : Fs) (o : Oper) (w : World) (K : RW) : Prop :=
  bif known f (opnds o.op) then meff P (rho f) o w K else False

theorem Q1X {D : List Deferred} {n : Nat} {f : Fs} {a : Act} (h : Fr D n f a) {o : Oper} (hk : known f (opnds o.op) = true) (hs : isSel o.op = false) :
    execOp a.eval o = execOp (rho f) o :=
  execOp_congr o (Q1d hs) fun x hx => h.eval (Q40 hk x (Q2O (Q1d hs) hx))

theorem Q2n {P : Program} {ρ : Operand → Value} {o : Oper} {w : World} {K : Value → Chi → Prop} (h : mrd P ρ o w K) : isSel o.op = false := by
  cases ho : o.op <;> simp only [mrd, ho] at h <;> first | exact h.elim | rfl
theorem Q26 {P : Program} {ρ : Operand → Value} {o : Oper} {w : World} {K : RW} (h : meff P ρ o w K) : isSel o.op = false := by
  cases ho : o.op <;> simp only [meff, ho] at h <;> first | exact h.elim | rfl
theorem Q3N {P : Program} {ρ : Operand → Value} {o : Oper} {w : World} {K : RW} (h : mop P ρ o w K) : isSel o.op = false := by
  unfold mop at h
  cases hr : isRd P o.op
  · simp only [hr, cond_false] at h; exact Q26 h
  · simp only [hr, cond_true] at h; exact Q2n h

theorem mopF_ok {D : List Deferred} {P : Program} {n : Nat} {f : Fs} {a : Act} {o : Oper} {w : World} {K : RW} (hf : Fr D n f a) (h : mopF P f o w K) :
    OpOk P (execOp a.eval o) w K := by
  unfold mopF at h
  cases hk : known f (opnds o.op)
  · simp [hk] at h
  · simp only [hk, cond_true] at h
    rw [Q1X hf hk (Q3N h)]
    exact mop_ok h
theorem Q4C {D : List Deferred} {P : Program} {n : Nat} {f : Fs} {a : Act} {o : Oper} {w : World} {K : RW} (hf : Fr D n f a) (h : meffF P f o w K) :
    OpOk P (execOp a.eval o) w K := by
  unfold meffF at h
  cases hk : known f (opnds o.op)
  · simp [hk] at h
  · simp only [hk, cond_true] at h
    rw [Q1X hf hk (Q26 h)]
    exact meff_ok h
theorem mrdF_ok {D : List Deferred} {P : Program} {n : Nat} {f : Fs} {a : Act} {o : Oper} {w : World} {K : Value → Chi → Prop} (hf : Fr D n f a) (h : mrdF P f o w K) :
    Good P (execOp a.eval o) w K := by
  unfold mrdF at h
  cases hk : known f (opnds o.op)
  · simp [hk] at h
  · simp only [hk, cond_true] at h
    rw [Q1X hf hk (Q2n h)]
    exact mrd_ok h

/-! ### guards -/
abbrev Dg := List (Nat × Bool)
def dget : Dg → Nat → Option Bool
  | [], _ => none
  | p :: r, t => bif Nat.beq p.1 t then some p.2 else dget r t
def ddrop (d : Nat) : Dg → Dg
  | [] => []
  | p :: r => bif Nat.beq p.1 d then ddrop d r else p :: ddrop d r
def DgOk (dg : Dg) (f : Fs) : Prop := ∀ s b, dget dg s = some b → get f s = some (.bool b)
theorem Q1K {d s : Nat} {b : Bool} : ∀ {dg : Dg}, dget (ddrop d dg) s = some b → dget dg s = some b ∧ d ≠ s
  | [], h => by simp [ddrop, dget] at h
  | p :: r, h => by
    simp only [ddrop] at h
    cases hp : Nat.beq p.1 d
    · simp only [hp, cond_false, dget] at h
      simp only [dget]
      cases hs : Nat.beq p.1 s
      · simp only [hs, cond_false] at h ⊢; exact Q1K h
      · simp only [hs, cond_true] at h ⊢
        refine ⟨h, fun e => ?_⟩
        subst e; rw [hp] at hs; cases hs
    · simp only [hp, cond_true] at h
      have h' := Q1K h
      simp only [dget]
      have e := Q0E hp
      cases hs : Nat.beq p.1 s
      · simp only [cond_false]; exact h'
      · have := Q0E hs
        exact absurd (e.symm.trans this) h'.2
theorem DgOk.put {dg : Dg} {f : Fs} (h : DgOk dg f) (d : Nat) (v : Value) : DgOk (ddrop d dg) ((d, v) :: f) := by
  intro s b hs
  obtain ⟨h1, h2⟩ := Q1K hs
  simp only [get]
  cases hb : Nat.beq d s
  · simp only [cond_false]; exact h s b h1
  · exact absurd (Q0E hb) h2

def gsplit (lo f : Fs) (dg : Dg) (s : Nat) (Φ : Bool → Dg → Fs → Prop) : Prop :=
  match dget dg s with
  | some b => Φ b dg f
  | none =>
    match get (f ++ lo) s with
    | some (.bool b) => bif b then Φ true ((s, true) :: dg) ((s, .bool true) :: f) else Φ false ((s, false) :: dg) ((s, .bool false) :: f)
    | _ => False
def Q1W : Option Value → Bool
  | some (.tuple ⟨[]⟩) => true
  | _ => false
def gask (ops : List Oper) (lo f : Fs) (dg : Dg) (o : Oper) (Φ : Bool → Dg → Fs → Prop) : Prop :=
  match o.guard with
  | none => Φ true dg f
  | some (j, want) =>
    match (ops[j]?).bind (·.dst) with
    | some s => bif Q1W (get (f ++ lo) s) then Φ false dg f else gsplit lo f dg s fun b dg' f' => Φ (bif b then want else !want) dg' f'
    | none => False

theorem gask_ok {D : List Deferred} {P : Program} {n : Nat} {ops : List Oper} {lo f : Fs} {dg : Dg} {o : Oper} {Φ : Bool → Dg → Fs → Prop} {a : Act}
    (h : gask ops lo f dg o Φ) (hf : Fr D n (f ++ lo) a) (hd : DgOk dg (f ++ lo)) :
    ∃ b dg' f', Region.wanted o (yielded ops.toArray a.tmps) = b ∧ Φ b dg' f' ∧ Fr D n (f' ++ lo) a ∧ DgOk dg' (f' ++ lo) := by
  unfold gask at h
  cases hg : o.guard with
  | none =>
    simp only [hg] at h
    exact ⟨true, dg, f, by simp [Region.wanted, hg], h, hf, hd⟩
  | some p =>
    obtain ⟨j, want⟩ := p
    simp only [hg] at h
    cases hs : (ops[j]?).bind (·.dst) with
    | none => simp only [hs] at h
    | some s =>
      simp only [hs] at h
      have hy : ∀ b, get (f ++ lo) s = some (.bool b) → yielded ops.toArray a.tmps j = some b := fun b hb => by
        have := hf.at_ s _ hb
        simp [yielded, hs, this]
      have hw : ∀ b, get (f ++ lo) s = some (.bool b) → Region.wanted o (yielded ops.toArray a.tmps) = (bif b then want else !want) := fun b hb => by
        simp only [Region.wanted, hg, hy b hb]
        cases b <;> cases want <;> rfl
      by_cases hun : Q1W (get (f ++ lo) s) = true
      · simp only [hun, cond_true] at h
        have hv : get (f ++ lo) s = some undef := by
          cases hg : get (f ++ lo) s with
          | none => rw [hg] at hun; cases hun
          | some v =>
            rw [hg] at hun
            unfold Q1W at hun
            split at hun
            · rename_i heq; rw [heq]; rfl
            · cases hun
        refine ⟨false, dg, f, ?_, h, hf, hd⟩
        have := hf.at_ s _ hv
        simp [Region.wanted, hg, yielded, hs, this, undef]
      have hun' : Q1W (get (f ++ lo) s) = false := by simpa using hun
      simp only [hun', cond_false] at h
      unfold gsplit at h
      cases hdg : dget dg s with
      | some b =>
        simp only [hdg] at h
        exact ⟨_, dg, f, hw b (hd s b hdg), h, hf, hd⟩
      | none =>
        simp only [hdg] at h
        split at h
        · rename_i b hb
          have hput : ∀ c : Bool, get (f ++ lo) s = some (.bool c) → Fr D n (((s, .bool c) :: f) ++ lo) a ∧ DgOk ((s, c) :: dg) (((s, .bool c) :: f) ++ lo) := fun c hc => by
            refine ⟨⟨hf.size, hf.defers, fun t u ht => ?_⟩, fun t u ht => ?_⟩
            · simp only [List.cons_append, get] at ht
              cases hb' : Nat.beq s t
              · simp only [hb', cond_false] at ht; exact hf.at_ t u ht
              · simp only [hb', cond_true, Option.some.injEq] at ht
                have e := Q0E hb'
                subst e; subst ht
                exact hf.at_ _ _ hc
            · simp only [List.cons_append, get]
              simp only [dget] at ht
              cases hb' : Nat.beq s t
              · simp only [hb', cond_false] at ht ⊢; exact hd t u ht
              · simp only [hb', cond_true, Option.some.injEq] at ht ⊢; subst ht; rfl
          cases b
          · simp only [cond_false] at h
            exact ⟨_, _, _, hw false hb, h, hput false hb⟩
          · simp only [cond_true] at h
            exact ⟨_, _, _, hw true hb, h, hput true hb⟩
        · exact h.elim

def putK (N : Nat) (d : Option Nat) (v : Value) (dg : Dg) (f : Fs) (Φ : Dg → Fs → Prop) : Prop :=
  match d with
  | none => Φ dg f
  | some d => bif Nat.blt d N then Φ (ddrop d dg) ((d, v) :: f) else False
theorem putK_ok {D : List Deferred} {N : Nat} {d : Option Nat} {v : Value} {dg : Dg} {lo f : Fs} {Φ : Dg → Fs → Prop} {a : Act} (h : putK N d v dg f Φ) (hf : Fr D N (f ++ lo) a) (hd : DgOk dg (f ++ lo)) :
    ∃ dg' f', Φ dg' f' ∧ Fr D N (f' ++ lo) (a.put d v) ∧ DgOk dg' (f' ++ lo) := by
  cases d with
  | none => exact ⟨dg, f, h, hf, hd⟩
  | some d =>
    simp only [putK] at h
    cases hb : Nat.blt d N
    · simp [hb] at h
    · simp only [hb, cond_true] at h
      exact ⟨_, _, h, hf.put hb v, hd.put d v⟩

def mops (P : Program) (N : Nat) (ops : List Oper) (lo : Fs) : List Oper → Dg → Fs → World → (Fs → World → Prop) → Prop
  | [], _, f, w, K => K f w
  | o :: rest, dg, f, w, K =>
    gask ops lo f dg o fun b dg f =>
      bif b then mopF P (f ++ lo) o w fun v w' => putK N o.dst v dg f fun dg f => mops P N ops lo rest dg f w' K
      else putK N o.dst undef dg f fun dg f => mops P N ops lo rest dg f w K

theorem mops_ok {D : List Deferred} {P : Program} {N : Nat} {ops : List Oper} {lo : Fs} {Q : Exit → Act → World → Prop} {K : Fs → World → Prop}
    (hQ : ∀ f w a, K f w → Fr D N (f ++ lo) a → Q .normal a w) :
    ∀ (l : List Oper) (dg : Dg) (f : Fs) (w : World) (a : Act), mops P N ops lo l dg f w K → Fr D N (f ++ lo) a → DgOk dg (f ++ lo) → wpList P ops.toArray Q l a w
  | [], dg, f, w, a, h, hf, hd => hQ f w a h hf
  | o :: rest, dg, f, w, a, h, hf, hd => by
    simp only [mops] at h
    obtain ⟨b, dg1, f1, hb, h, hf1, hd1⟩ := gask_ok (P := P) h hf hd
    unfold wpList
    cases b
    · rw [hb]
      simp only [cond_false] at h
      obtain ⟨dg2, f2, h, hf2, hd2⟩ := putK_ok h hf1 hd1
      exact mops_ok hQ rest dg2 f2 w _ h hf2 hd2
    · rw [hb]
      simp only [cond_true] at h
      refine .inl ((mopF_ok hf1 h).wp fun v w' h => ?_)
      obtain ⟨dg2, f2, h, hf2, hd2⟩ := putK_ok h hf1 hd1
      exact mops_ok hQ rest dg2 f2 w' _ h hf2 hd2

end Go.Mx
namespace Go.Mx

def memN : List Nat → Nat → Bool
  | [], _ => false
  | p :: r, t => bif Nat.beq p t then true else memN r t
theorem Q3u {l : List Nat} {t : Nat} : memN l t = true ↔ t ∈ l := by
  induction l with
  | nil => simp [memN]
  | cons p r ih =>
    simp only [memN]
    cases hb : Nat.beq p t
    · have : p ≠ t := fun e => by subst e; simp at hb
      simp [ih, Ne.symm this]
    · simp [Q0E hb]
def depsIn (ops : List Oper) (S : List Nat) (j : Nat) : Bool :=
  match ops[j]? with
  | some o => o.after.toList.all fun e => bif Region.binds .any e then memN S e.on else true
  | none => false
def readyL (ops : List Oper) (S : List Nat) : List Nat :=
  (List.range ops.length).filter fun i => bif memN S i then false else depsIn ops S i

abbrev Ent := List Nat × (World → Prop)
def updR (ops : List Oper) (i : Nat) : List Ent → List Ent
  | [] => []
  | e :: r => (bif depsIn ops e.1 i then (i :: e.1, e.2) else e) :: updR ops i r
def updE (ops : List Oper) (i : Nat) : List Ent → List Ent
  | [] => []
  | e :: r => bif depsIn ops e.1 i then (i :: e.1, e.2) :: updE ops i r else updE ops i r
def obl : List Ent → World → Prop
  | [], _ => True
  | e :: r, w => e.2 w ∧ obl r w
def oblK : List Ent → World → Prop → Prop
  | [], _, X => X
  | e :: r, w, X => e.2 w ∧ oblK r w X
theorem Q4u {L : List Ent} {w : World} {X : Prop} (h : oblK L w X) : obl L w ∧ X := by
  induction L with
  | nil => exact ⟨trivial, h⟩
  | cons e r ih => exact ⟨⟨h.1, (ih h.2).1⟩, (ih h.2).2⟩
def addE (S : List Nat) (χ : Chi) (L : List Ent) : List Ent := match χ with | none => L | some c => (S, c) :: L

/-! ### the tree of all orders, with what must stay -/
section
variable (P : Program) (ops : Array Oper) (Q : Exit → Act → World → Prop) (κ : Nat → Bool)

def upd (i : Nat) (L : List Ent) : List Ent := bif κ i then updE ops.toList i L else updR ops.toList i L

def wpL : Nat → Array Bool → List Ent → Act → World → Prop
  | 0, listed, _, a, w => Region.ready .any ops listed = [] ∧ Q .normal a w
  | fuel + 1, listed, L, a, w =>
    (Region.ready .any ops listed = [] → Q .normal a w) ∧
    ∀ i ∈ Region.ready .any ops listed, wpOp P ops Q i (fun a' w' => obl (upd ops κ i L) w' ∧ wpL fuel (listed.setIfInBounds i true) (upd ops κ i L) a' w') a w
end

section
variable {P : Program} {ops : Array Oper} {Q : Exit → Act → World → Prop} {κ : Nat → Bool}

theorem Q2m : ∀ (fuel : Nat) (listed : Array Bool) (L : List Ent) (a : Act) (w : World), wpL P ops Q κ fuel listed L a w → wpAny P .any ops Q fuel listed a w
  | 0, _, _, _, _, h => h
  | fuel + 1, _, L, _, _, h => ⟨h.1, fun i hi => wpOp_mono (fun a' w' h' => Q2m fuel _ _ a' w' h'.2) (h.2 i hi)⟩

inductive Sub : List Ent → List Ent → Prop where
  | nil : Sub [] []
  | keep (e : Ent) {l m : List Ent} : Sub l m → Sub (e :: l) (e :: m)
  | drop (e : Ent) {l m : List Ent} : Sub l m → Sub l (e :: m)
theorem Sub.refl : ∀ l : List Ent, Sub l l
  | [] => .nil
  | e :: r => .keep e (Sub.refl r)
theorem Sub.obl {l m : List Ent} (h : Sub l m) {w : World} (hm : obl m w) : Mx.obl l w := by
  induction h with
  | nil => trivial
  | keep e _ ih => exact ⟨hm.1, ih hm.2⟩
  | drop e _ ih => exact ih hm.2
theorem Sub.updR {l m : List Ent} (h : Sub l m) (o : List Oper) (i : Nat) : Sub (updR o i l) (updR o i m) := by
  induction h with
  | nil => exact .nil
  | keep e _ ih => exact .keep _ ih
  | drop e _ ih => exact .drop _ ih
theorem Sub.updE {l m : List Ent} (h : Sub l m) (o : List Oper) (i : Nat) : Sub (updE o i l) (updE o i m) := by
  induction h with
  | nil => exact .nil
  | keep e _ ih =>
    simp only [Mx.updE]
    cases depsIn o e.1 i
    · exact ih
    · exact .keep _ ih
  | drop e _ ih =>
    simp only [Mx.updE]
    cases depsIn o e.1 i
    · exact ih
    · exact .drop _ ih
theorem Sub.upd {l m : List Ent} (h : Sub l m) (i : Nat) : Sub (upd ops κ i l) (upd ops κ i m) := by
  unfold Mx.upd
  cases κ i
  · exact h.updR _ _
  · exact h.updE _ _
theorem wpL_sub : ∀ (fuel : Nat) (listed : Array Bool) (l m : List Ent) (a : Act) (w : World), Sub l m → wpL P ops Q κ fuel listed m a w → wpL P ops Q κ fuel listed l a w
  | 0, _, _, _, _, _, _, h => h
  | fuel + 1, _, l, m, _, _, hs, h => ⟨h.1, fun i hi => wpOp_mono (fun a' w' h' => ⟨(hs.upd i).obl h'.1, wpL_sub fuel _ _ _ a' w' (hs.upd i) h'.2⟩) (h.2 i hi)⟩

theorem Q1S {o : List Oper} {i : Nat} {L : List Ent} {w : World} (h : obl L w) : obl (updR o i L) w := by
  induction L with
  | nil => trivial
  | cons e r ih =>
    refine ⟨?_, ih h.2⟩
    cases depsIn o e.1 i <;> exact h.1
theorem Q2D {o : List Oper} {i : Nat} {L : List Ent} {w : World} (h : obl L w) : obl (updE o i L) w := by
  induction L with
  | nil => trivial
  | cons e r ih =>
    simp only [updE]
    cases depsIn o e.1 i
    · exact ih h.2
    · exact ⟨h.1, ih h.2⟩
theorem obl_upd {i : Nat} {L : List Ent} {w : World} (h : obl L w) : obl (upd ops κ i L) w := by
  unfold upd
  cases κ i
  · exact Q1S h
  · exact Q2D h

def free1 (o : List Oper) (i j : Nat) : Prop := ∀ oj, o[j]? = some oj → ∀ e ∈ oj.after, Region.binds .any e = true → e.on ≠ i
theorem Q1b {o : List Oper} {i j : Nat} (h : free1 o i j) (S : List Nat) : depsIn o (i :: S) j = depsIn o S j := by
  unfold depsIn
  cases ho : o[j]? with
  | none => rfl
  | some oj =>
    simp only
    rw [Bool.eq_iff_iff, List.all_eq_true, List.all_eq_true]
    refine forall_congr' fun e => forall_congr' fun he => ?_
    cases hb : Region.binds .any e
    · simp
    · have hne := h oj ho e (by simpa using he) hb
      simp only [cond_true, memN]
      have : Nat.beq i e.on = false := by
        cases hq : Nat.beq i e.on
        · rfl
        · exact absurd (Q0E hq).symm hne
      simp [this]

theorem Q1P {o : List Oper} {S T : List Nat} (h : ∀ t, memN S t = memN T t) (j : Nat) : depsIn o S j = depsIn o T j := by
  unfold depsIn
  cases o[j]? with
  | none => rfl
  | some oj => simp only [h]

inductive Same : List Ent → List Ent → Prop where
  | nil : Same [] []
  | cons {S T : List Nat} (χ : World → Prop) (h : ∀ t, memN S t = memN T t) {l m : List Ent} : Same l m → Same ((S, χ) :: l) ((T, χ) :: m)
theorem Same.refl : ∀ l : List Ent, Same l l
  | [] => .nil
  | (S, χ) :: r => .cons χ (fun _ => rfl) (Same.refl r)
theorem Same.obl {l m : List Ent} (h : Same l m) {w : World} (hm : obl m w) : Mx.obl l w := by
  induction h with
  | nil => trivial
  | cons χ _ _ ih => exact ⟨hm.1, ih hm.2⟩
theorem Q1l {S T : List Nat} (h : ∀ t, memN S t = memN T t) (i t : Nat) : memN (i :: S) t = memN (i :: T) t := by simp only [memN, h]
theorem Same.updR {l m : List Ent} (h : Same l m) (o : List Oper) (i : Nat) : Same (updR o i l) (updR o i m) := by
  induction h with
  | nil => exact .nil
  | @cons S T χ h _ _ _ ih =>
    simp only [Mx.updR, Q1P h i]
    cases depsIn o T i
    · exact .cons χ h ih
    · exact .cons χ (Q1l h i) ih
theorem Same.updE {l m : List Ent} (h : Same l m) (o : List Oper) (i : Nat) : Same (updE o i l) (updE o i m) := by
  induction h with
  | nil => exact .nil
  | @cons S T χ h _ _ _ ih =>
    simp only [Mx.updE, Q1P h i]
    cases depsIn o T i
    · exact ih
    · exact .cons χ (Q1l h i) ih
theorem Same.upd {l m : List Ent} (h : Same l m) (i : Nat) : Same (upd ops κ i l) (upd ops κ i m) := by
  unfold Mx.upd
  cases κ i
  · exact h.updR _ _
  · exact h.updE _ _
theorem Q3w : ∀ (fuel : Nat) (listed : Array Bool) (l m : List Ent) (a : Act) (w : World), Same l m → wpL P ops Q κ fuel listed m a w → wpL P ops Q κ fuel listed l a w
  | 0, _, _, _, _, _, _, h => h
  | fuel + 1, _, l, m, _, _, hs, h => ⟨h.1, fun i hi => wpOp_mono (fun a' w' h' => ⟨(hs.upd i).obl h'.1, Q3w fuel _ _ _ a' w' (hs.upd i) h'.2⟩) (h.2 i hi)⟩

theorem Q2M (i j : Nat) (S : List Nat) (t : Nat) : memN (i :: j :: S) t = memN (j :: i :: S) t := by
  simp only [memN]
  cases Nat.beq i t <;> cases Nat.beq j t <;> rfl
theorem Q18 {o : List Oper} {i j : Nat} (h1 : free1 o i j) (h2 : free1 o j i) : ∀ L : List Ent, Same (updR o i (updR o j L)) (updR o j (updR o i L))
  | [] => .nil
  | (S, χ) :: r => by
    simp only [updR]
    cases hj : depsIn o S j <;> cases hi : depsIn o S i <;> simp only [cond_true, cond_false, hi, hj, Q1b h1, Q1b h2]
    · exact .cons χ (fun _ => rfl) (Q18 h1 h2 r)
    · exact .cons χ (fun _ => rfl) (Q18 h1 h2 r)
    · exact .cons χ (fun _ => rfl) (Q18 h1 h2 r)
    · exact .cons χ (Q2M i j S) (Q18 h1 h2 r)
theorem Q17 {o : List Oper} {i j : Nat} (h1 : free1 o i j) (h2 : free1 o j i) : ∀ L : List Ent, Same (updR o i (updE o j L)) (updE o j (updR o i L))
  | [] => .nil
  | (S, χ) :: r => by
    simp only [updR, updE]
    cases hj : depsIn o S j <;> cases hi : depsIn o S i <;> simp only [cond_true, cond_false, hi, hj, Q1b h1, Q1b h2, updR]
    · exact Q17 h1 h2 r
    · exact Q17 h1 h2 r
    · exact .cons χ (fun _ => rfl) (Q17 h1 h2 r)
    · exact .cons χ (Q2M i j S) (Q17 h1 h2 r)
theorem Q3X {i j : Nat} (h1 : free1 ops.toList i j) (h2 : free1 ops.toList j i) (hi : κ i = false) (L : List Ent) :
    Same (upd ops κ i (upd ops κ j L)) (upd ops κ j (upd ops κ i L)) := by
  simp only [upd, hi, cond_false]
  cases κ j
  · exact Q18 h1 h2 L
  · exact Q17 h1 h2 L

theorem Q4e {i : Nat} {oi : Oper} {v : Value} {χ : World → Prop} (hi : ops[i]? = some oi) (hκ : κ i = false)
    (hsel : ∀ (j : Nat) (o : Oper) cs b, ops[j]? = some o → o.op ≠ .select cs b)
    (hQ : ∀ c a w, Q (.panic c) (a.put oi.dst v) w → Q (.panic c) a w) :
    ∀ (fuel : Nat) (listed : Array Bool) (S : List Nat) (L : List Ent) (a : Act) (w : World),
      (∀ t, t < ops.size → listed.getD t false = memN S t) →
      (∀ (j : Nat) (oj : Oper), ops[j]? = some oj → j ≠ i → listed.getD j true = false → (∀ e ∈ oj.after, Region.binds .any e = true → e.on ≠ i) → oi.apart ops oj = true) →
      (∀ (j : Nat) (oj : Oper), ops[j]? = some oj → ∀ e ∈ oj.after, Region.binds .any e = true → e.on < ops.size) →
      i ∈ Region.ready .any ops listed → YieldsIf P ops χ oi v a → χ w → obl L w →
      wpL P ops Q κ fuel (listed.setIfInBounds i true) ((S, χ) :: upd ops κ i L) (a.put oi.dst v) w → wpL P ops Q κ (fuel + 1) listed L a w := by
  intro fuel
  induction fuel with
  | zero =>
    intro listed S L a w hS hfree hon hr hy hχ hL H
    refine ⟨fun h => (by rw [h] at hr; cases hr), fun j hj => ?_⟩
    by_cases hji : j = i
    · subst hji; exact hy.wpOp hi hχ ⟨obl_upd hL, H⟩
    · have := ready_mono hj hji
      rw [H.1] at this
      cases this
  | succ fuel ih =>
    intro listed S L a w hS hfree hon hr hy hχ hL H
    refine ⟨fun h => (by rw [h] at hr; cases hr), fun j hj => ?_⟩
    by_cases hji : j = i
    · subst hji
      exact hy.wpOp hi hχ ⟨obl_upd hL, wpL_sub _ _ _ _ _ _ (.drop _ (Sub.refl _)) H⟩
    · have h1 := H.2 j (ready_mono hj hji)
      obtain ⟨hjun, oj, hoj, hall⟩ := mem_ready.1 hj
      have hnot : ∀ e ∈ oj.after, Region.binds .any e = true → e.on ≠ i := fun e he hb heq => by
        have h1 := hall e he hb
        have h0 := (mem_ready.1 hr).1
        rw [heq] at h1
        rcases Nat.lt_or_ge i listed.size with h' | h'
        · simp [h'] at h0 h1; rw [h0] at h1; cases h1
        · simp [Array.getElem?_eq_none h'] at h1
      have hnot' : ∀ e ∈ oi.after, Region.binds .any e = true → e.on ≠ j := fun e he hb heq => by
        obtain ⟨_, oi', hoi', hall'⟩ := mem_ready.1 hr
        rw [hi] at hoi'
        obtain rfl := Option.some.inj hoi'
        have h1 := hall' e he hb
        rw [heq] at h1
        rcases Nat.lt_or_ge j listed.size with h' | h'
        · simp [h'] at hjun h1; rw [hjun] at h1; cases h1
        · simp [Array.getElem?_eq_none h'] at h1
      have f1 : free1 ops.toList i j := fun o ho e he hb => by
        have : o = oj := by simpa [hoj] using ho.symm
        subst this; exact hnot e he hb
      have f2 : free1 ops.toList j i := fun o ho e he hb => by
        have : o = oi := by simpa [hi] using ho.symm
        subst this; exact hnot' e he hb
      have hdep : depsIn ops.toList S j = true := by
        unfold depsIn
        have : ops.toList[j]? = some oj := by simpa using hoj
        simp only [this]
        rw [List.all_eq_true]
        intro e he
        cases hb : Region.binds .any e
        · rfl
        · have he' : e ∈ oj.after := by simpa using he
          simp only [cond_true]
          rw [← hS e.on (hon j oj hoj e he' hb)]
          exact hall e he' hb
      have h2 := wpOp_putIf hoj (hfree j oj hoj hji hjun hnot) (fun cs b => hsel i oi cs b hi) (fun cs b => hsel j oj cs b hoj) hQ hy h1
      have hfree' : ∀ k ok, ops[k]? = some ok → k ≠ i → (listed.setIfInBounds j true).getD k true = false →
          (∀ e ∈ ok.after, Region.binds .any e = true → e.on ≠ i) → oi.apart ops ok = true := fun k ok hk hki hun hno => by
        refine hfree k ok hk hki ?_ hno
        by_cases hjk : j = k
        · subst hjk; exact hjun
        · rw [getD_set_ne true hjk] at hun; exact hun
      have hjlt : j < listed.size := by
        rcases Nat.lt_or_ge j listed.size with h' | h'
        · exact h'
        · simp [Array.getElem?_eq_none h'] at hjun
      have hS' : ∀ t, t < ops.size → (listed.setIfInBounds j true).getD t false = memN (j :: S) t := fun t ht => by
        simp only [memN]
        by_cases hjt : j = t
        · subst hjt
          simp [hjlt]
        · rw [getD_set_ne false hjt, hS t ht]
          have : Nat.beq j t = false := by
            cases hq : Nat.beq j t
            · rfl
            · exact absurd (Q0E hq) hjt
          simp [this]
      refine wpOp_mono (fun a' w' h3 => ?_) h2
      obtain ⟨hy', hob, hrest⟩ := h3
      -- the entry of i stays
      have hupd : upd ops κ j ((S, χ) :: upd ops κ i L) = (j :: S, χ) :: upd ops κ j (upd ops κ i L) := by
        simp only [upd]
        cases κ j <;> simp [updR, updE, hdep]
      rw [hupd] at hob hrest
      have hsw := Q3X (κ := κ) f1 f2 hκ L
      have hobj : obl (upd ops κ j L) w' := by
        -- what must stay behind j: read off the list behind i and j
        have hh := hob.2
        have hso := hsw.obl hh
        clear hrest hupd hob h1 h2
        revert hso
        simp only [upd, hκ, cond_false]
        generalize (bif κ j then updE ops.toList j L else updR ops.toList j L) = M
        intro hso
        induction M with
        | nil => trivial
        | cons e r ihM =>
          refine ⟨?_, ihM hso.2⟩
          have := hso.1
          cases hd : depsIn ops.toList e.1 i <;> simpa [hd] using this
      refine ⟨hobj, ih (listed.setIfInBounds j true) (j :: S) (upd ops κ j L) a' w' hS' hfree' hon (ready_mono hr (Ne.symm hji)) hy' hob.1 hobj ?_⟩
      rw [Array.setIfInBounds_comm _ _ hji]
      exact Q3w _ _ _ _ _ _ (.cons χ (fun _ => rfl) hsw) hrest
end
end Go.Mx
namespace Go.Mx

def allL : List Nat → (Nat → Prop) → Prop
  | [], _ => True
  | [i], Φ => Φ i
  | i :: j :: r, Φ => Φ i ∧ allL (j :: r) Φ
theorem Q4l {l : List Nat} {Φ : Nat → Prop} (h : allL l Φ) : ∀ i ∈ l, Φ i := by
  induction l with
  | nil => simp
  | cons x r ih =>
    cases r with
    | nil => intro i hi; simp at hi; subst hi; exact h
    | cons y r =>
      intro i hi
      rcases List.mem_cons.1 hi with rfl | hi
      · exact h.1
      · exact ih h.2 i hi

def looks (ops : List Oper) (o : Oper) : List Nat :=
  (opnds o.op).filterMap (fun | .tmp t => some t | _ => none) ++ (match o.guard with | some (g, _) => ((ops[g]?).bind (·.dst)).toList | none => [])
def apartB (ops : List Oper) (x y : Oper) : Bool :=
  (match x.dst with
   | some d => bif memN (looks ops y) d then false else (match y.dst with | some e => !(Nat.beq d e) | none => true)
   | none => true) &&
  (match y.dst with
   | some d => !(memN (looks ops x) d)
   | none => true)
def waits (o : Oper) (i : Nat) : Bool := o.after.toList.any fun e => bif Nat.beq e.on i then Region.binds .any e else false
def rowOk (ops : List Oper) (x : Oper) (i : Nat) : List Oper → Nat → Bool
  | [], _ => true
  | y :: r, j => bif (bif waits y i then true else (bif waits x j then true else (apartB ops x y && apartB ops y x))) then rowOk ops x i r (j + 1) else false
def pairsOk (ops : List Oper) : List Oper → Nat → Bool
  | [], _ => true
  | x :: r, i => bif rowOk ops x i r (i + 1) then pairsOk ops r (i + 1) else false
def regOk (ops : List Oper) : Bool :=
  ops.all (fun o => !(isSel o.op) && o.after.toList.all fun e => Nat.blt e.on ops.length) && pairsOk ops ops 0

theorem Q2x {ops : List Oper} {o : Oper} (hs : isSel o.op = false) {d : Nat} (h : d ∈ o.looksAt ops.toArray) : d ∈ looks ops o := by
  simp only [Oper.looksAt, List.mem_append, List.mem_filterMap] at h
  simp only [looks, List.mem_append, List.mem_filterMap]
  rcases h with ⟨x, hx, hd⟩ | h
  · exact .inl ⟨x, Q2O (Q1d hs) (by simpa using hx), hd⟩
  · refine .inr ?_
    cases hg : o.guard with
    | none => simp [hg] at h
    | some p => obtain ⟨g, b⟩ := p; simpa [hg] using h
theorem Q3s {ops : List Oper} {x y : Oper} (hx : isSel x.op = false) (hy : isSel y.op = false) (h : apartB ops x y = true) : x.apart ops.toArray y = true := by
  simp only [apartB, Bool.and_eq_true] at h
  obtain ⟨h1, h2⟩ := h
  unfold Oper.apart
  rw [Bool.and_eq_true]
  constructor
  · cases hd : x.dst with
    | none => rfl
    | some d =>
      simp only [hd] at h1
      cases hm : memN (looks ops y) d
      · simp only [hm, cond_false] at h1
        have h3 : d ∉ y.looksAt ops.toArray := fun hh => by
          have := Q3u.2 (Q2x hy hh)
          rw [hm] at this; cases this
        have h4 : y.dst ≠ some d := fun e => by
          simp [e] at h1
        simp [h3, h4]
      · simp [hm] at h1
  · cases hd : y.dst with
    | none => rfl
    | some d =>
      simp only [hd] at h2
      have h3 : d ∉ x.looksAt ops.toArray := fun hh => by
        have := Q3u.2 (Q2x hx hh)
        rw [this] at h2; cases h2
      simp [h3]
theorem Q2t {o : Oper} {i : Nat} (h : waits o i = true) : ∃ e ∈ o.after, Region.binds .any e = true ∧ e.on = i := by
  obtain ⟨e, he, hb⟩ := List.any_eq_true.1 h
  cases hq : Nat.beq e.on i
  · simp [hq] at hb
  · simp only [hq, cond_true] at hb
    exact ⟨e, by simpa using he, hb, Q0E hq⟩
theorem Q2B {ops : List Oper} {x : Oper} {i : Nat} : ∀ {l : List Oper} {j : Nat}, rowOk ops x i l j = true → ∀ k y, l[k]? = some y →
    waits y i = true ∨ waits x (j + k) = true ∨ (apartB ops x y = true ∧ apartB ops y x = true)
  | [], _, _, k, y, hk => by simp at hk
  | z :: r, j, h, k, y, hk => by
    simp only [rowOk] at h
    cases hc : (bif waits z i then true else (bif waits x j then true else (apartB ops x z && apartB ops z x)))
    · rw [hc] at h; cases h
    · simp only [hc, cond_true] at h
      cases k with
      | zero =>
        simp at hk; subst hk
        cases h1 : waits z i
        · simp only [h1, cond_false] at hc
          cases h2 : waits x j
          · simp only [h2, cond_false, Bool.and_eq_true] at hc; exact .inr (.inr hc)
          · exact .inr (.inl (by simpa using h2))
        · exact .inl rfl
      | succ k =>
        have := Q2B h k y (by simpa using hk)
        rw [show j + (k + 1) = j + 1 + k by omega]
        exact this
theorem Q1k {ops : List Oper} : ∀ {l : List Oper} {i : Nat}, pairsOk ops l i = true → ∀ k m x y, l[k]? = some x → l[m]? = some y → k < m →
    waits y (i + k) = true ∨ waits x (i + m) = true ∨ (apartB ops x y = true ∧ apartB ops y x = true)
  | [], _, _, k, m, x, y, hk, hm, hlt => by simp at hk
  | z :: r, i, h, k, m, x, y, hk, hm, hlt => by
    simp only [pairsOk] at h
    cases hc : rowOk ops z i r (i + 1)
    · simp [hc] at h
    · simp only [hc, cond_true] at h
      obtain ⟨m, rfl⟩ : ∃ q, m = q + 1 := ⟨m - 1, by omega⟩
      cases k with
      | zero =>
        simp at hk; subst hk
        have := Q2B hc m y (by simpa using hm)
        rw [show i + (m + 1) = i + 1 + m by omega]
        simpa using this
      | succ k =>
        have := Q1k h k m x y (by simpa using hk) (by simpa using hm) (by omega)
        rw [show i + (m + 1) = i + 1 + m by omega, show i + (k + 1) = i + 1 + k by omega]
        exact this
theorem Q2z {ops : List Oper} (h : regOk ops = true) :
    (∀ (i : Nat) (o : Oper), ops[i]? = some o → isSel o.op = false) ∧ (∀ (i : Nat) (o : Oper), ops[i]? = some o → ∀ e ∈ o.after, e.on < ops.length) ∧
    (∀ (i j : Nat) (x y : Oper), ops[i]? = some x → ops[j]? = some y → i ≠ j → waits y i = true ∨ waits x j = true ∨ x.apart ops.toArray y = true) := by
  simp only [regOk, Bool.and_eq_true, List.all_eq_true] at h
  obtain ⟨h1, h2⟩ := h
  have hs : ∀ (i : Nat) (o : Oper), ops[i]? = some o → isSel o.op = false := fun i o hi => by
    have := (h1 o (List.mem_of_getElem? hi)).1
    simpa using this
  refine ⟨hs, fun i o hi e he => ?_, fun i j x y hi hj hne => ?_⟩
  · have := (h1 o (List.mem_of_getElem? hi)).2 e (by simpa using he)
    simpa [Nat.blt_eq] using this
  · rcases Nat.lt_or_gt_of_ne hne with hlt | hlt
    · have := Q1k h2 i j x y hi hj hlt
      simp only [Nat.zero_add] at this
      rcases this with h | h | h
      · exact .inl h
      · exact .inr (.inl h)
      · exact .inr (.inr (Q3s (hs i x hi) (hs j y hj) h.1))
    · have := Q1k h2 j i y x hj hi hlt
      simp only [Nat.zero_add] at this
      rcases this with h | h | h
      · exact .inr (.inl h)
      · exact .inl h
      · exact .inr (.inr (Q3s (hs i x hi) (hs j y hj) h.2))

def firstRd (P : Program) (ops : List Oper) : List Nat → Option Nat
  | [] => none
  | i :: r => match ops[i]? with | some o => bif isRd P o.op then some i else firstRd P ops r | none => firstRd P ops r

def mdraw (P : Program) (N : Nat) (ops : List Oper) (lo : Fs) : Nat → List Nat → List Ent → Dg → Fs → World → (Fs → World → Prop) → Prop
  | 0, S, _, _, f, w, K => match readyL ops S with | [] => K f w | _ :: _ => False
  | fuel + 1, S, L, dg, f, w, K =>
    match readyL ops S with
    | [] => K f w
    | r0 :: rs =>
      match firstRd P ops (r0 :: rs) with
      | some i =>
        (match ops[i]? with
        | some o =>
          gask ops lo f dg o fun b dg f =>
            bif b then mrdF P (f ++ lo) o w fun v χ => putK N o.dst v dg f fun dg f => mdraw P N ops lo fuel (i :: S) (addE S χ (updR ops i L)) dg f w K
            else putK N o.dst undef dg f fun dg f => mdraw P N ops lo fuel (i :: S) (updR ops i L) dg f w K
        | none => False)
      | none =>
        allL (r0 :: rs) fun i =>
          match ops[i]? with
          | some o =>
            gask ops lo f dg o fun b dg f =>
              bif b then meffF P (f ++ lo) o w fun v w' => oblK (updE ops i L) w' (putK N o.dst v dg f fun dg f => mdraw P N ops lo fuel (i :: S) (updE ops i L) dg f w' K)
              else putK N o.dst undef dg f fun dg f => mdraw P N ops lo fuel (i :: S) (updE ops i L) dg f w K
          | none => False

section
variable {P : Program} {ops : Array Oper} {Q : Exit → Act → World → Prop} {κ : Nat → Bool}
inductive Tr : List Ent → List Ent → Prop where
  | nil : Tr [] []
  | keep (e : Ent) {l m : List Ent} : Tr l m → Tr (e :: l) (e :: m)
  | add (S : List Nat) {l m : List Ent} : Tr l m → Tr l ((S, fun _ => True) :: m)
theorem Tr.refl : ∀ l : List Ent, Tr l l
  | [] => .nil
  | e :: r => .keep e (Tr.refl r)
theorem Tr.obl {l m : List Ent} (h : Tr l m) {w : World} (hm : obl l w) : Mx.obl m w := by
  induction h with
  | nil => trivial
  | keep e _ ih => exact ⟨hm.1, ih hm.2⟩
  | add S _ ih => exact ⟨trivial, ih hm⟩
theorem Tr.updR {l m : List Ent} (h : Tr l m) (o : List Oper) (i : Nat) : Tr (updR o i l) (updR o i m) := by
  induction h with
  | nil => exact .nil
  | keep e _ ih => exact .keep _ ih
  | add S _ ih =>
    simp only [Mx.updR]
    cases depsIn o S i
    · exact .add _ ih
    · exact .add _ ih
theorem Tr.updE {l m : List Ent} (h : Tr l m) (o : List Oper) (i : Nat) : Tr (updE o i l) (updE o i m) := by
  induction h with
  | nil => exact .nil
  | keep e _ ih =>
    simp only [Mx.updE]
    cases depsIn o e.1 i
    · exact ih
    · exact .keep _ ih
  | add S _ ih =>
    simp only [Mx.updE]
    cases depsIn o S i
    · exact ih
    · exact .add _ ih
theorem Tr.upd {l m : List Ent} (h : Tr l m) (i : Nat) : Tr (upd ops κ i l) (upd ops κ i m) := by
  unfold Mx.upd
  cases κ i
  · exact h.updR _ _
  · exact h.updE _ _
theorem wpL_tr : ∀ (fuel : Nat) (listed : Array Bool) (l m : List Ent) (a : Act) (w : World), Tr l m → wpL P ops Q κ fuel listed l a w → wpL P ops Q κ fuel listed m a w
  | 0, _, _, _, _, _, _, h => h
  | fuel + 1, _, l, m, _, _, hs, h => ⟨h.1, fun i hi => wpOp_mono (fun a' w' h' => ⟨(hs.upd i).obl h'.1, wpL_tr fuel _ _ _ a' w' (hs.upd i) h'.2⟩) (h.2 i hi)⟩
end

structure Lst (n : Nat) (listed : Array Bool) (S : List Nat) : Prop where
  size : listed.size = n
  at_ : ∀ t, t < n → listed.getD t false = memN S t
theorem Lst.getD_true {n : Nat} {listed : Array Bool} {S : List Nat} (h : Lst n listed S) {t : Nat} (ht : t < n) : listed.getD t true = memN S t := by
  rw [← h.at_ t ht]
  have : t < listed.size := by rw [h.size]; exact ht
  simp [this]
theorem Lst.set {n : Nat} {listed : Array Bool} {S : List Nat} (h : Lst n listed S) {i : Nat} (hi : i < n) : Lst n (listed.setIfInBounds i true) (i :: S) := by
  refine ⟨by simp [h.size], fun t ht => ?_⟩
  simp only [memN]
  by_cases hit : i = t
  · subst hit
    have : i < listed.size := by rw [h.size]; exact hi
    simp [this]
  · rw [getD_set_ne false hit, h.at_ t ht]
    have : Nat.beq i t = false := by
      cases hq : Nat.beq i t
      · rfl
      · exact absurd (Q0E hq) hit
    simp [this]

section
variable {P : Program} {ops : List Oper}

theorem Q3r (hreg : regOk ops = true) {listed : Array Bool} {S : List Nat} (h : Lst ops.length listed S) : Region.ready .any ops.toArray listed = readyL ops S := by
  obtain ⟨_, hon, _⟩ := Q2z hreg
  unfold Region.ready readyL
  simp only [List.size_toArray]
  refine List.filter_congr fun i hi => ?_
  have hlt : i < ops.length := List.mem_range.1 hi
  rw [h.getD_true hlt]
  cases hm : memN S i
  · simp only [Bool.not_false, Bool.true_and, cond_false]
    unfold depsIn
    have ho : ops[i]? = some ops[i] := by simp [hlt]
    rw [ho]
    have ho' : ops.toArray[i]? = some ops[i] := by simp [hlt]
    rw [ho']
    simp only [Option.map_some, Option.getD_some]
    rw [Bool.eq_iff_iff, Array.all_eq_true_iff_forall_mem, List.all_eq_true]
    refine ⟨fun hh e he => ?_, fun hh e he => ?_⟩
    · have he' : e ∈ ops[i].after := by simpa using he
      have := hh e he'
      cases hb : Region.binds .any e
      · rfl
      · simp only [hb, Bool.not_true, Bool.false_or] at this
        rw [h.at_ e.on (hon i _ ho e he')] at this
        exact this
    · have := hh e (by simpa using he)
      cases hb : Region.binds .any e
      · rfl
      · simp only [hb, cond_true] at this
        simp only [Bool.not_true, Bool.false_or]
        rw [h.at_ e.on (hon i _ ho e he)]
        exact this
  · simp

theorem Q1h : ∀ {l : List Nat} {i : Nat}, firstRd P ops l = some i → i ∈ l ∧ ∃ o, ops[i]? = some o ∧ isRd P o.op = true
  | [], _, h => by simp [firstRd] at h
  | j :: r, i, h => by
    simp only [firstRd] at h
    split at h
    · rename_i o ho
      cases hr : isRd P o.op
      · simp only [hr, cond_false] at h
        obtain ⟨h1, h2⟩ := Q1h h
        exact ⟨List.mem_cons_of_mem _ h1, h2⟩
      · simp only [hr, cond_true, Option.some.injEq] at h
        subst h
        exact ⟨List.mem_cons_self, o, ho, hr⟩
    · obtain ⟨h1, h2⟩ := Q1h h
      exact ⟨List.mem_cons_of_mem _ h1, h2⟩
theorem Q1j : ∀ {l : List Nat}, firstRd P ops l = none → ∀ i ∈ l, ∀ o, ops[i]? = some o → isRd P o.op = false
  | [], _, _, hi, _, _ => by simp at hi
  | j :: r, h, i, hi, o, ho => by
    simp only [firstRd] at h
    split at h
    · rename_i o' ho'
      cases hr : isRd P o'.op
      · simp only [hr, cond_false] at h
        rcases List.mem_cons.1 hi with rfl | hi
        · rw [ho'] at ho; obtain rfl := Option.some.inj ho; exact hr
        · exact Q1j h i hi o ho
      · simp [hr] at h
    · rename_i hn
      rcases List.mem_cons.1 hi with rfl | hi
      · rw [hn] at ho; cases ho
      · exact Q1j h i hi o ho

def kap (P : Program) (ops : List Oper) (i : Nat) : Bool := match ops[i]? with | some o => !(isRd P o.op) | none => false

theorem Q1q {D : List Deferred} {N : Nat} {lo : Fs} {Q : Exit → Act → World → Prop} {K : Fs → World → Prop} (hreg : regOk ops = true)
    (hQ : ∀ f w a, K f w → Fr D N (f ++ lo) a → Q .normal a w) (hp : ∀ c a w, ¬ Q (.panic c) a w) :
    ∀ (fuel : Nat) (S : List Nat) (L : List Ent) (dg : Dg) (f : Fs) (w : World) (listed : Array Bool) (a : Act),
      Lst ops.length listed S → obl L w → Fr D N (f ++ lo) a → DgOk dg (f ++ lo) → mdraw P N ops lo fuel S L dg f w K → wpL P ops.toArray Q (kap P ops) fuel listed L a w
  | 0, S, L, dg, f, w, listed, a, hl, hL, hf, hd, h => by
    simp only [mdraw] at h
    split at h
    · rename_i hr
      exact ⟨by rw [Q3r hreg hl, hr], hQ _ _ _ h hf⟩
    · exact h.elim
  | fuel + 1, S, L, dg, f, w, listed, a, hl, hL, hf, hd, h => by
    obtain ⟨hsel, hon, hap⟩ := Q2z hreg
    have hre := Q3r hreg hl
    simp only [mdraw] at h
    split at h
    · rename_i hr
      refine ⟨fun _ => hQ _ _ _ h hf, fun i hi => ?_⟩
      rw [hre, hr] at hi; simp at hi
    · rename_i r0 rs hr
      split at h
      · rename_i i hfi
        obtain ⟨hmem, o, ho, hrd⟩ := Q1h hfi
        simp only [ho] at h
        have hmem' : i ∈ Region.ready .any ops.toArray listed := by rw [hre, hr]; exact hmem
        have hoA : ops.toArray[i]? = some o := by simpa using ho
        have hlt : i < ops.length := (List.getElem?_eq_some_iff.1 ho).1
        have hκ : kap P ops i = false := by simp [kap, ho, hrd]
        have hlS := hl.set hlt
        have hunl : ∀ e ∈ o.after, Region.binds .any e = true → listed.getD e.on false = true := by
          obtain ⟨_, o', ho', hall⟩ := mem_ready.1 hmem'
          rw [hoA] at ho'; obtain rfl := Option.some.inj ho'; exact hall
        have key : ∀ (v : Value) (χ : World → Prop), YieldsIf P ops.toArray χ o v a → χ w →
            wpL P ops.toArray Q (kap P ops) fuel (listed.setIfInBounds i true) ((S, χ) :: upd ops.toArray (kap P ops) i L) (a.put o.dst v) w →
            wpL P ops.toArray Q (kap P ops) (fuel + 1) listed L a w := fun v χ hy hχ H =>
          Q4e hoA hκ (fun j oj cs b hj => Q1d (hsel j oj (by simpa using hj)) cs b) (fun c a' w' hc => absurd hc (hp _ _ _)) fuel listed S L a w
            (fun t ht => hl.at_ t (by simpa using ht))
            (fun j oj hj hji hun hno => by
              have hj' : ops[j]? = some oj := by simpa using hj
              rcases hap i j o oj ho hj' (Ne.symm hji) with h | h | h
              · obtain ⟨e, he, hb, hon'⟩ := Q2t h
                exact absurd hon' (hno e he hb)
              · obtain ⟨e, he, hb, hon'⟩ := Q2t h
                have := hunl e he hb
                rw [hon'] at this
                have hjl : j < listed.size := by rw [hl.size]; exact (List.getElem?_eq_some_iff.1 hj').1
                simp [hjl] at hun this
                rw [hun] at this; cases this
              · exact h)
            (fun j oj hj e he _ => by simpa using hon j oj (by simpa using hj) e he)
            hmem' hy hχ hL H
        have hupd : upd ops.toArray (kap P ops) i L = updR ops i L := by simp [upd, hκ]
        obtain ⟨b, dg1, f1, hb, h, hf1, hd1⟩ := gask_ok (P := P) h hf hd
        cases b
        · simp only [cond_false] at h
          obtain ⟨dg2, f2, h, hf2, hd2⟩ := putK_ok h hf1 hd1
          refine key undef (fun _ => True) (.inr ⟨hb, rfl⟩) trivial ?_
          rw [hupd]
          exact wpL_tr _ _ _ _ _ _ (.add S (Tr.refl _)) (Q1q hreg hQ hp fuel _ _ dg2 f2 w _ _ hlS (Q1S hL) hf2 hd2 h)
        · simp only [cond_true] at h
          obtain ⟨v, χ, h1, h2, h3⟩ := mrdF_ok hf1 h
          obtain ⟨dg2, f2, h, hf2, hd2⟩ := putK_ok h3 hf1 hd1
          refine key v (Chi.at χ) (.inl ⟨hb, fun w' hw' => h2 w' hw'⟩) h1 ?_
          rw [hupd]
          cases χ with
          | none =>
            exact wpL_tr _ _ _ _ _ _ (.add S (Tr.refl _)) (Q1q hreg hQ hp fuel _ _ dg2 f2 w _ _ hlS (Q1S hL) hf2 hd2 h)
          | some c =>
            exact Q1q hreg hQ hp fuel _ _ dg2 f2 w _ _ hlS ⟨h1, Q1S hL⟩ hf2 hd2 h
      · rename_i hfn
        refine ⟨fun h0 => (by rw [hre, hr] at h0; cases h0), fun i hi => ?_⟩
        rw [hre, hr] at hi
        have h := Q4l h i hi
        split at h
        · rename_i o ho
          have hrd := Q1j hfn i hi o ho
          have hκ : kap P ops i = true := by simp [kap, ho, hrd]
          have hupd : upd ops.toArray (kap P ops) i L = updE ops i L := by simp [upd, hκ]
          have hoA : ops.toArray[i]? = some o := by simpa using ho
          have hlt : i < ops.length := (List.getElem?_eq_some_iff.1 ho).1
          have hlS := hl.set hlt
          unfold wpOp
          simp only [hoA]
          rw [hupd]
          obtain ⟨b, dg1, f1, hb, h, hf1, hd1⟩ := gask_ok (P := P) h hf hd
          cases b
          · rw [hb]
            simp only [cond_false] at h
            obtain ⟨dg2, f2, h, hf2, hd2⟩ := putK_ok h hf1 hd1
            exact ⟨Q2D hL, Q1q hreg hQ hp fuel _ _ dg2 f2 w _ _ hlS (Q2D hL) hf2 hd2 h⟩
          · rw [hb]
            simp only [cond_true] at h
            refine .inl ((Q4C hf1 h).wp fun v w' h => ?_)
            obtain ⟨ho1, h⟩ := Q4u h
            obtain ⟨dg2, f2, h, hf2, hd2⟩ := putK_ok h hf1 hd1
            exact ⟨ho1, Q1q hreg hQ hp fuel _ _ dg2 f2 w' _ _ hlS ho1 hf2 hd2 h⟩
        · exact h.elim
end
end Go.Mx
namespace Go.Mx

theorem least (p : Nat → Prop) (h : ∃ m, p m) : ∃ k, p k ∧ ∀ j, p j → k ≤ j := by
  obtain ⟨m, hm⟩ := h
  induction m using Nat.strongRecOn with
  | _ m ih =>
    by_cases h : ∃ j, j < m ∧ p j
    · obtain ⟨j, hj, hp⟩ := h; exact ih j hj hp
    · exact ⟨m, hm, fun j hj => Nat.le_of_not_lt fun hlt => h ⟨j, hlt, hj⟩⟩

theorem Q1x {P : Program} {Q : Exit → Act → World → Prop} {c : Code} (J : Nat → Act → World → Prop) {m : Nat} {a : Act} {w : World} (h0 : J m a w)
    (round : ∀ m a w, J m a w → c.wp P (Exit.then (fun a' w' => ∃ m', m' < m ∧ J m' a' w') Q) a w) : (Code.loop c).wp P Q a w := by
  classical
  let μ : Act → World → Nat := fun a w => if h : ∃ m, J m a w then Classical.choose (least (fun m => J m a w) h) else 0
  have hμ : ∀ a w (h : ∃ m, J m a w), J (μ a w) a w ∧ ∀ j, J j a w → μ a w ≤ j := fun a w h => by
    have hs := Classical.choose_spec (least (fun m => J m a w) h)
    simp only [μ, h, dif_pos]
    exact hs
  refine wp_loop (fun a w => ∃ m, J m a w) μ ⟨m, h0⟩ fun a w hI => ?_
  refine Code.wp_mono (fun e a' w' he => ?_) (round _ a w (hμ a w hI).1)
  cases e <;> try exact he
  obtain ⟨m', hlt, hJ⟩ := he
  exact ⟨⟨m', hJ⟩, Nat.lt_of_le_of_lt ((hμ a' w' ⟨m', hJ⟩).2 m' hJ) hlt⟩

abbrev Hints := List (Nat × List Nat × List (Nat × Sh))
def hget : Hints → Nat → Option (List Nat × List (Nat × Sh))
  | [], _ => none
  | p :: r, t => bif Nat.beq p.1 t then some p.2 else hget r t

abbrev Cont := Fs → World → Prop
structure Kx where
  n : Cont
  r : Cont
  ex : List (Nat × Cont)
def exget : List (Nat × Cont) → Nat → Option Cont
  | [], _ => none
  | p :: r, t => bif Nat.beq p.1 t then some p.2 else exget r t
def exmap (g : Cont → Cont) : List (Nat × Cont) → List (Nat × Cont)
  | [] => []
  | p :: r => (p.1, g p.2) :: exmap g r
theorem Q1A {g : Cont → Cont} : ∀ {l : List (Nat × Cont)} {t : Nat} {k : Cont}, exget (exmap g l) t = some k → ∃ k', exget l t = some k' ∧ k = g k'
  | [], _, _, h => by simp [exmap, exget] at h
  | p :: r, t, k, h => by
    simp only [exmap, exget] at h ⊢
    cases hb : Nat.beq p.1 t
    · simp only [hb, cond_false] at h ⊢; exact Q1A h
    · simp only [hb, cond_true, Option.some.injEq] at h ⊢; exact ⟨p.2, rfl, h.symm⟩

def getAll (f : Fs) : List Nat → Option (List Value)
  | [] => some []
  | t :: r => match get f t with | some v => (match getAll f r with | some vs => some (v :: vs) | none => none) | none => none
def zipF : List Nat → List Value → Fs
  | t :: r, v :: vs => (t, v) :: zipF r vs
  | _, _ => []
theorem Q0Y {f : Fs} : ∀ {l : List Nat} {vs : List Value}, getAll f l = some vs → ∀ t v, get (zipF l vs) t = some v → get f t = some v
  | [], vs, h, t, v, hv => by simp [zipF, get] at hv
  | x :: r, vs, h, t, v, hv => by
    simp only [getAll] at h
    split at h
    · rename_i u hu
      split at h
      · rename_i us hus
        simp only [Option.some.injEq] at h
        subst h
        simp only [zipF, get] at hv
        cases hb : Nat.beq x t
        · simp only [hb, cond_false] at hv; exact Q0Y hus t v hv
        · simp only [hb, cond_true, Option.some.injEq] at hv
          have := Q0E hb
          subst this; subst hv; exact hu
      · cases h
    · cases h
def keepF (g : Fs) : Fs → Fs
  | [] => []
  | p :: r => bif has g p.1 then p :: keepF g r else keepF g r
theorem Q24 {g : Fs} : ∀ {f : Fs} {t : Nat}, get (keepF g f) t = if has g t then get f t else none
  | [], t => by simp [keepF, get]
  | p :: r, t => by
    simp only [keepF]
    cases hb : Nat.beq p.1 t
    · cases hh : has g p.1 <;> simp only [cond_true, cond_false, get, hb] <;> exact Q24
    · have := Q0E hb
      subst this
      cases hh : has g p.1
      · simp only [cond_false]; rw [Q24]; simp [hh]
      · simp [get, hh]
theorem has_get {f : Fs} {t : Nat} (h : has f t = false) : get f t = none := by
  induction f with
  | nil => rfl
  | cons p r ih =>
    simp only [has] at h
    simp only [get]
    cases hb : Nat.beq p.1 t
    · simp only [hb, cond_false] at h ⊢; exact ih h
    · simp [hb] at h
def disjF (g : Fs) : Fs → Bool
  | [] => true
  | p :: r => bif has g p.1 then false else disjF g r
theorem Q1L {g : Fs} : ∀ {f : Fs}, disjF g f = true → ∀ t v, get f t = some v → has g t = false
  | [], _, t, v, h => by simp [get] at h
  | p :: r, hd, t, v, h => by
    simp only [disjF] at hd
    cases hh : has g p.1
    · simp only [hh, cond_false] at hd
      simp only [get] at h
      cases hb : Nat.beq p.1 t
      · simp only [hb, cond_false] at h; exact Q1L hd t v h
      · have := Q0E hb; subst this; exact hh
    · simp [hh] at hd
def subF (g : Fs) : Fs → Bool
  | [] => true
  | p :: r => bif has g p.1 then subF g r else false
theorem Q20 {g : Fs} : ∀ {f : Fs}, subF g f = true → ∀ t v, get f t = some v → has g t = true
  | [], _, t, v, h => by simp [get] at h
  | p :: r, hd, t, v, h => by
    simp only [subF] at hd
    cases hh : has g p.1
    · simp [hh] at hd
    · simp only [hh, cond_true] at hd
      simp only [get] at h
      cases hb : Nat.beq p.1 t
      · simp only [hb, cond_false] at h; exact Q20 hd t v h
      · have := Q0E hb; subst this; exact hh

def mcode (P : Program) (H : Hints) (N : Nat) : Code → Fs → Kx → Fs → World → Prop
  | .skip, _, K, f, w => K.n f w
  | .seq a b, lo, K, f, w => mcode P H N a lo { K with n := fun f w => mcode P H N b lo K f w } f w
  | .cond c x y, lo, K, f, w =>
    match ev (f ++ lo) c with
    | some (.bool b) => bif b then mcode P H N x lo K f w else mcode P H N y lo K f w
    | _ => False
  | .region _ ops draw, lo, K, f, w =>
    match draw with
    | false => mops P N ops.toList lo ops.toList [] f w K.n
    | true => bif regOk ops.toList then mdraw P N ops.toList lo ops.toList.length [] [] [] f w.drew K.n else False
  | .block id (.loop body), lo, K, f, w =>
    match hget H id with
    | none => False
    | some hs =>
      match getAll (f ++ lo) hs.1, getAll (f ++ lo) (hs.2.map (·.1)) with
      | some cv, some vv =>
        bif (subF (zipF hs.1 cv) lo && Q0L (hs.2.map (·.2)) vv) then
          ∃ (I : Nat → List Value → World → Prop) (m : Nat), I m vv w ∧ ∀ (m : Nat) (w : World), salls (hs.2.map (·.2)) fun vs => I m vs w →
            mcode P H N body (zipF hs.1 cv)
              { n := fun f' w' => bif disjF f' (zipF hs.1 cv) then
                      (match getAll f' (hs.2.map (·.1)) with
                       | some vs' => bif Q0L (hs.2.map (·.2)) vs' then ∃ m', m' < m ∧ I m' vs' w' else False
                       | none => False)
                    else False
                r := fun f' w' => K.r (f' ++ keepF f (zipF hs.1 cv)) w'
                ex := (id, fun f' w' => K.n (f' ++ keepF f (zipF hs.1 cv)) w') :: exmap (fun k f' w' => k (f' ++ keepF f (zipF hs.1 cv)) w') K.ex }
              (zipF (hs.2.map (·.1)) vs) w
        else False
      | _, _ => False
  | .block id c, lo, K, f, w => mcode P H N c lo { K with ex := (id, K.n) :: K.ex } f w
  | .exit id, _, K, f, w => match exget K.ex id with | some k => k f w | none => False
  | .ret, _, K, f, w => K.r f w
  | _, _, _, _, _ => False

def post (D : List Deferred) (N : Nat) (lo : Fs) (K : Kx) : Exit → Act → World → Prop
  | .normal, a, w => ∃ f, Fr D N (f ++ lo) a ∧ K.n f w
  | .ret, a, w => ∃ f, Fr D N (f ++ lo) a ∧ K.r f w
  | .exit id, a, w => ∃ f k, exget K.ex id = some k ∧ Fr D N (f ++ lo) a ∧ k f w
  | _, _, _ => False

section
variable {P : Program} {H : Hints} {N : Nat} {D : List Deferred}

theorem Q3v {f : Fs} {t : Nat} (h : has f t = true) : get f t ≠ none := by
  induction f with
  | nil => cases h
  | cons p r ih =>
    simp only [has] at h
    simp only [get]
    cases hb : Nat.beq p.1 t
    · simp only [hb, cond_false] at h ⊢; exact ih h
    · simp

theorem fr_conv {f f' f0 lo : Fs} {a : Act} (hf : Fr D N (f' ++ f0) a)
    (hlo : ∀ t v, get lo t = some v → has f0 t = true) (h0 : ∀ t v, get f0 t = some v → get (f ++ lo) t = some v) : Fr D N ((f' ++ keepF f f0) ++ lo) a := by
  refine ⟨hf.size, hf.defers, fun t v ht => hf.at_ t v ?_⟩
  rw [Q0N, Q0N, Q24] at ht
  rw [Q0N]
  cases h1 : get f' t with
  | some u => simpa [h1] using ht
  | none =>
    simp only [h1, Option.none_or] at ht ⊢
    cases hh : has f t
    · simp only [hh, Bool.false_eq_true, if_false, Option.none_or] at ht
      cases h2 : get f0 t with
      | some u =>
        have := h0 t u h2
        rw [Q0N, has_get hh, Option.none_or, ht] at this
        exact this.symm
      | none => exact absurd h2 (Q3v (hlo t v ht))
    · simp only [hh, if_true] at ht
      cases h2 : get f0 t with
      | some u => simpa [h2] using ht
      | none =>
        simp only [h2, Option.none_or] at ht
        exact absurd h2 (Q3v (hlo t v ht))

theorem Q32 {id : Nat} {c : Code} (h : ∀ b, c ≠ .loop b) (lo : Fs) (K : Kx) (f : Fs) (w : World) :
    mcode P H N (.block id c) lo K f w = mcode P H N c lo { K with ex := (id, K.n) :: K.ex } f w := by
  cases c <;> first | rfl | exact absurd rfl (h _)

theorem Q0W (hm : P.follows .mixedOrders = true) (c : Code) (lo : Fs) (K : Kx) (f : Fs) (w : World) (a : Act)
    (h : mcode P H N c lo K f w) (hf : Fr D N (f ++ lo) a) : c.wp P (post D N lo K) a w := by
  have hp : ∀ (lo : Fs) (K : Kx) c a w, ¬ post D N lo K (.panic c) a w := fun lo K c a w h => h
  match c, h with
  | .skip, h => exact wp_skip ⟨f, hf, h⟩
  | .seq x y, h =>
    refine wp_seq (Code.wp_mono (fun e a' w' he => ?_) (Q0W hm x lo _ f w a h hf))
    cases e <;> try exact he
    obtain ⟨f', hf', h'⟩ := he
    exact Q0W hm y lo K f' w' a' h' hf'
  | .cond c x y, h =>
    simp only [mcode] at h
    split at h
    · rename_i b hb
      have hc : a.eval c = .bool b := by
        have := hf.eval (x := c) (by rw [hb]; rfl)
        rw [this, rho, hb]; rfl
      refine wp_cond_split hc (fun ht => ?_) (fun ht => ?_)
      · subst ht; exact Q0W hm x lo K f w a h hf
      · subst ht; exact Q0W hm y lo K f w a h hf
    · exact h.elim
  | .region id ops draw, h =>
    have hQ : ∀ (f : Fs) (w : World) (a : Act), K.n f w → Fr D N (f ++ lo) a → post D N lo K .normal a w := fun f w a h hf => ⟨f, hf, h⟩
    have hd0 : DgOk [] (f ++ lo) := fun s b hs => by cases hs
    cases draw
    · simp only [mcode] at h
      have := mops_ok hQ ops.toList [] f w a h hf hd0
      exact wp_region_list (by simpa using this)
    · simp only [mcode] at h
      cases hr : regOk ops.toList
      · simp [hr] at h
      · simp only [hr, cond_true] at h
        refine wp_region_any hm (Q2m _ _ [] _ _ (κ := kap P ops.toList) ?_)
        have hl : Lst ops.toList.length (Array.replicate ops.size false) [] := ⟨by simp, fun t ht => by
          have : t < ops.size := by simpa using ht
          simp [memN, this]⟩
        have := Q1q (lo := lo) hr hQ (hp lo K) ops.toList.length [] [] [] f w.drew (Array.replicate ops.size false) a hl trivial hf hd0 h
        simpa using this
  | .block id c, h =>
    by_cases hl : ∃ b, c = .loop b
    · obtain ⟨body, rfl⟩ := hl
      simp only [mcode] at h
      split at h
      · exact h.elim
      · rename_i hs hhs
        split at h
        · rename_i cv vv hcv hvv
          cases hc : (subF (zipF hs.1 cv) lo && Q0L (hs.2.map (·.2)) vv)
          · simp [hc] at h
          · simp only [hc, cond_true] at h
            rw [Bool.and_eq_true] at hc
            obtain ⟨hsub, hfit⟩ := hc
            obtain ⟨I, m, hI, hround⟩ := h
            have hlo : ∀ t v, get lo t = some v → has (zipF hs.1 cv) t = true := Q20 hsub
            have h0 : ∀ t v, get (zipF hs.1 cv) t = some v → get (f ++ lo) t = some v := Q0Y hcv
            refine wp_block (Q1x (fun m a w => ∃ vs, I m vs w ∧ Q0L (hs.2.map (·.2)) vs = true ∧ Fr D N (zipF (hs.2.map (·.1)) vs ++ zipF hs.1 cv) a) (m := m) ⟨vv, hI, hfit, ?_⟩ fun m a w hJ => ?_)
            · refine ⟨hf.size, hf.defers, fun t v ht => hf.at_ t v ?_⟩
              rw [Q0N] at ht
              cases h1 : get (zipF (hs.2.map (·.1)) vv) t with
              | some u => rw [h1] at ht; obtain rfl : u = v := (by simpa using ht); exact Q0Y hvv t u h1
              | none => rw [h1] at ht; exact h0 t v (by simpa using ht)
            · obtain ⟨vs, hIv, hfv, hfr⟩ := hJ
              have hb := Q23 (hround m w) hfv hIv
              refine Code.wp_mono (fun e a' w' he => ?_) (Q0W hm body _ _ _ w a hb hfr)
              cases e with
              | normal =>
                obtain ⟨f', hf', h'⟩ := he
                simp only at h'
                cases hd : disjF f' (zipF hs.1 cv)
                · simp [hd] at h'
                · simp only [hd, cond_true] at h'
                  split at h'
                  · rename_i vs' hvs'
                    cases hft : Q0L (hs.2.map (·.2)) vs'
                    · simp [hft] at h'
                    · simp only [hft, cond_true] at h'
                      obtain ⟨m', hlt, hI'⟩ := h'
                      refine ⟨m', hlt, vs', hI', hft, hf'.size, hf'.defers, fun t v ht => hf'.at_ t v ?_⟩
                      rw [Q0N] at ht
                      rw [Q0N]
                      cases h1 : get (zipF (hs.2.map (·.1)) vs') t with
                      | some u =>
                        rw [h1] at ht
                        obtain rfl : u = v := by simpa using ht
                        rw [Q0Y hvs' t u h1]; rfl
                      | none =>
                        rw [h1] at ht
                        have h2 : get (zipF hs.1 cv) t = some v := by simpa using ht
                        rw [has_get (Q1L hd t v h2), h2]; rfl
                  · exact h'.elim
              | ret =>
                obtain ⟨f', hf', h'⟩ := he
                exact ⟨_, fr_conv hf' hlo h0, h'⟩
              | exit id' =>
                obtain ⟨f', k, hk, hf', h'⟩ := he
                simp only [exget] at hk
                simp only [Exit.then, Exit.inBlock]
                cases hq : Nat.beq id id'
                · simp only [hq, cond_false] at hk
                  have hne : id' ≠ id := fun e => by subst e; simp at hq
                  rw [if_neg hne]
                  obtain ⟨k', hk', rfl⟩ := Q1A hk
                  exact ⟨_, k', hk', fr_conv hf' hlo h0, h'⟩
                · have := Q0E hq
                  subst this
                  simp only [Nat.beq_refl, cond_true, Option.some.injEq] at hk
                  subst hk
                  simp only [if_true]
                  exact ⟨_, fr_conv hf' hlo h0, h'⟩
              | goto l => exact he.elim
              | panic ch => exact he.elim
              | outgrown => exact he.elim
        · exact h.elim
    · rw [Q32 (fun b e => hl ⟨b, e⟩)] at h
      refine wp_block (Code.wp_mono (fun e a' w' he => ?_) (Q0W hm c lo _ f w a h hf))
      cases e with
      | normal => exact he
      | ret => exact he
      | exit id' =>
        obtain ⟨f', k, hk, hf', h'⟩ := he
        simp only [exget] at hk
        simp only [Exit.inBlock]
        cases hq : Nat.beq id id'
        · simp only [hq, cond_false] at hk
          have hne : id' ≠ id := fun e => by subst e; simp at hq
          rw [if_neg hne]
          exact ⟨f', k, hk, hf', h'⟩
        · have := Q0E hq
          subst this
          simp only [Nat.beq_refl, cond_true, Option.some.injEq] at hk
          subst hk
          simp only [if_true]
          exact ⟨f', hf', h'⟩
      | goto l => exact he.elim
      | panic ch => exact he.elim
      | outgrown => exact he.elim
  | .exit id, h =>
    simp only [mcode] at h
    split at h
    · rename_i k hk
      exact wp_exit ⟨f, k, hk, hf, h⟩
    · exact h.elim
  | .ret, h => exact wp_ret ⟨f, hf, h⟩
  | .loop _, h => exact h.elim
  | .rangeFunc .., h => exact h.elim
  | .scope _, h => exact h.elim
  | .label _, h => exact h.elim
  | .goto _, h => exact h.elim
  | .refuse _, h => exact h.elim
termination_by SizeOf.sizeOf c
end

/-! ### functions -/
def wrapR : List Value → Value
  | [v] => v
  | vs => .tuple vs.toArray
def mres (P : Program) (f : Fs) (w : World) : List ResultVar → List Value → (List Value → Prop) → Prop
  | [], acc, Φ => Φ acc
  | .tmp t :: r, acc, Φ => match get f t with | some v => mres P f w r (acc ++ [v]) Φ | none => False
  | .cell t ty :: r, acc, Φ => match get f t with | some (.pointer (some ad)) => mload P ty ad w (fun v _ => mres P f w r (acc ++ [v]) Φ) | _ => False
def argsF : List Value → Nat → Fs
  | [], _ => []
  | v :: r, i => (i, v) :: argsF r (i + 1)
def mfunc (P : Program) (H : Hints) (k : Nat) (args : List Value) (R : RW) (w : World) : Prop :=
  match P.funcs[k]? with
  | some fn =>
    match fn.body with
    | some c =>
      bif Nat.ble args.length fn.ntmps then
        mcode P H fn.ntmps c [] { n := fun f w => mres P f w fn.results.toList [] (fun vs => R (wrapR vs) w), r := fun f w => mres P f w fn.results.toList [] (fun vs => R (wrapR vs) w), ex := [] } (argsF args 0) w
      else False
    | none => False
  | none => False

section
variable {P : Program} {H : Hints}
theorem Q27 : ∀ {l : List Value} {i t : Nat} {v : Value}, get (argsF l i) t = some v → ∃ j, t = i + j ∧ l[j]? = some v
  | [], i, t, v, h => by simp [argsF, get] at h
  | x :: r, i, t, v, h => by
    simp only [argsF, get] at h
    cases hb : Nat.beq i t
    · simp only [hb, cond_false] at h
      obtain ⟨j, rfl, hj⟩ := Q27 h
      exact ⟨j + 1, by omega, by simpa using hj⟩
    · simp only [hb, cond_true, Option.some.injEq] at h
      have := Q0E hb
      exact ⟨0, by omega, by simp [h]⟩

def resG (tmps : Array Value) : ResultVar → Sem Value
  | .tmp t => pure (tmps.getD t undef)
  | .cell b t => do loadVar t (← asAddr (tmps.getD b undef))
theorem Q3O (fn : Func) (tmps : Array Value) : results fn tmps = (do
    let vs ← fn.results.mapM (resG tmps)
    pure (if h : vs.size = 1 then vs[0] else .tuple vs)) := by
  unfold results
  congr 1

theorem mres_ok {D : List Deferred} {n : Nat} {f : Fs} {w : World} {a : Act} (hf : Fr D n f a) : ∀ (l : List ResultVar) (acc : List Value) (Φ : List Value → Prop), mres P f w l acc Φ →
    ∃ vs, (l.mapM (resG a.tmps)).run P w = .ok vs w ∧ Φ (acc ++ vs)
  | [], acc, Φ, h => ⟨[], by simp, by simpa [mres] using h⟩
  | .tmp t :: r, acc, Φ, h => by
    simp only [mres] at h
    split at h
    · rename_i v hv
      obtain ⟨vs, h1, h2⟩ := mres_ok hf r _ Φ h
      have hg : a.tmps[t]? = some v := hf.at_ t v hv
      refine ⟨v :: vs, ?_, by simpa using h2⟩
      rw [List.mapM_cons]
      have hgd : (resG a.tmps (.tmp t)).run P w = .ok v w := by simp [resG, hg]
      simp only [Sem.run_bind, Sem.run_pure, Result.andThen_ok, h1, hgd]
    · exact h.elim
  | .cell t ty :: r, acc, Φ, h => by
    simp only [mres] at h
    split at h
    · rename_i ad hv
      obtain ⟨v, χ, h1, h2, h3⟩ := Q2d h
      obtain ⟨vs, h4, h5⟩ := mres_ok hf r _ Φ h3
      have hg : a.tmps[t]? = some (.pointer (some ad)) := hf.at_ t _ hv
      refine ⟨v :: vs, ?_, by simpa using h5⟩
      rw [List.mapM_cons]
      have hgd : (resG a.tmps (.cell t ty)).run P w = .ok v w := by simp [resG, hg, asAddr, h2 w h1]
      simp only [Sem.run_bind, Sem.run_pure, Result.andThen_ok, hgd, h4]
    · exact h.elim

theorem Q0U {D : List Deferred} {n : Nat} {f : Fs} {w : World} {a : Act} {fn : Func} (hf : Fr D n f a) {R : RW} (h : mres P f w fn.results.toList [] (fun vs => R (wrapR vs) w)) :
    ∃ v, (results fn a.tmps).run P w = .ok v w ∧ R v w := by
  obtain ⟨vs, h1, h2⟩ := mres_ok hf _ _ _ h
  simp only [List.nil_append] at h2
  refine ⟨wrapR vs, ?_, h2⟩
  rw [Q3O]
  have e : fn.results = fn.results.toList.toArray := by simp
  rw [e, List.mapM_toArray]
  simp only [Sem.run_bind, Sem.run_map]
  rw [h1]
  simp only [Result.andThen_ok, Sem.run_pure, List.size_toArray]
  congr 1
  match vs with
  | [] => rfl
  | [v] => rfl
  | x :: y :: r => simp [wrapR]

theorem Q09 (hm : P.follows .mixedOrders = true) {k : Nat} {args : List Value} {R : RW} {w : World} (h : mfunc P H k args R w) :
    Calls P k args.toArray w fun e w' => ∃ v, e = .returned v ∧ R v w' := by
  unfold mfunc at h
  split at h
  · rename_i fn hfn
    split at h
    · rename_i c hc
      cases hle : Nat.ble args.length fn.ntmps
      · simp [hle] at h
      · simp only [hle, cond_true] at h
        have hlen := Nat.le_of_ble_eq_true hle
        refine calls_of_wp hfn hc ?_
        have hfr : Fr [] fn.ntmps (argsF args 0 ++ []) { tmps := args.toArray ++ Array.replicate (fn.ntmps - args.toArray.size) undef, defers := [] } := by
          refine ⟨by simp; omega, rfl, fun t v ht => ?_⟩
          rw [List.append_nil] at ht
          obtain ⟨j, rfl, hj⟩ := Q27 ht
          have hjl := (List.getElem?_eq_some_iff.1 hj).1
          rw [Nat.zero_add, Array.getElem?_append_left (by simpa using hjl)]
          simpa using hj
        refine Code.wp_mono (fun e a w' he => ?_) (Q0W hm c [] _ _ w _ h hfr)
        cases e with
        | normal =>
          obtain ⟨f, hf, h⟩ := he
          rw [List.append_nil] at hf
          obtain ⟨v, h1, h2⟩ := Q0U hf h
          exact ⟨hf.defers, v, h1, v, rfl, h2⟩
        | ret =>
          obtain ⟨f, hf, h⟩ := he
          rw [List.append_nil] at hf
          obtain ⟨v, h1, h2⟩ := Q0U hf h
          exact ⟨hf.defers, v, h1, v, rfl, h2⟩
        | exit id => obtain ⟨f, k, hk, _⟩ := he; cases hk
        | goto l => exact he.elim
        | panic ch => exact he.elim
        | outgrown => exact he.elim
    · exact h.elim
  · exact h.elim
end
def thenW (w : World) (K : World → Prop) : Prop := K w
theorem Q00 {w : World} {K : World → Prop} (h : ∀ w', w' = w → K w') : thenW w K := h w rfl
abbrev blk (n : Nat) : Addr := ⟨n, 0, none⟩
end Go.Mx
set_option linter.unusedSectionVars false
namespace Go.Mx

/-! ### what stays -/
structure Ext (m : Nat → Prop) (w w' : World) : Prop where
  os : w'.os = w.os
  tape : w'.tape = w.tape
  output : w'.output = w.output
  size : w.heap.size ≤ w'.heap.size
  block : ∀ b, b < w.heap.size → ¬ m b → w'.heap[b]? = w.heap[b]?
def no : Nat → Prop := fun _ => False
section
variable {m m' : Nat → Prop} {w w1 w' : World}
theorem Ext.refl (m : Nat → Prop) (w : World) : Ext m w w := ⟨rfl, rfl, rfl, Nat.le_refl _, fun _ _ _ => rfl⟩
theorem Ext.trans (h : Ext m w w1) (k : Ext m w1 w') : Ext m w w' :=
  ⟨k.os.trans h.os, k.tape.trans h.tape, k.output.trans h.output, Nat.le_trans h.size k.size,
    fun b hb hm => (k.block b (Nat.lt_of_lt_of_le hb h.size) hm).trans (h.block b hb hm)⟩
theorem Ext.mono (h : Ext m w w') (hm : ∀ b, m b → b < w.heap.size → m' b) : Ext m' w w' :=
  ⟨h.os, h.tape, h.output, h.size, fun b hb hn => h.block b hb fun h' => hn (hm b h' hb)⟩
theorem Ext.none (h : Ext no w w') : Ext m w w' := h.mono fun _ h => h.elim
theorem Ext.drew (h : Ext m w w1) : Ext m w w1.drew := ⟨h.os, h.tape, h.output, h.size, h.block⟩
theorem Ext.alloc (h : Ext m w w1) (o : Obj) : Ext m w (w1.alloc o) :=
  h.trans ⟨rfl, rfl, rfl, by simp, fun b hb _ => heap_alloc_old w1 o b hb⟩
theorem Q16 (w : World) (a : Addr) (u : Value) (k : Nat) (h : k ≠ a.block) : (w.setCell a u).heap[k]? = w.heap[k]? := by
  simp only [World.setCell, Array.getElem?_modify]
  rw [if_neg (by omega)]
theorem Ext.setCell (h : Ext m w w1) {a : Addr} (ha : m a.block ∨ w.heap.size ≤ a.block) (u : Value) : Ext m w (w1.setCell a u) :=
  ⟨h.os, h.tape, h.output, by simpa using h.size, fun b hb hn => by
    rw [Q16 _ _ _ _ (fun e => by subst e; rcases ha with ha | ha; exact hn ha; omega)]
    exact h.block b hb hn⟩
theorem Ext.of_grown {row : Option Nat} (h : w.grownBy w' row) (hr : ∀ k, row = some k → m k ∨ w.heap.size ≤ k) : Ext m w w' :=
  ⟨h.os, h.tape, h.output, h.size, fun b hb hn => h.block b hb (fun e => by
    rcases hr b e.symm with h' | h'
    · exact hn h'
    · omega)⟩
theorem Ext.then (h : Ext m w w1) (k : Ext m' w1 w') (hm : ∀ b, m' b → m b ∨ w.heap.size ≤ b) : Ext m w w' :=
  ⟨k.os.trans h.os, k.tape.trans h.tape, k.output.trans h.output, Nat.le_trans h.size k.size,
    fun b hb hn => (k.block b (Nat.lt_of_lt_of_le hb h.size) (fun h' => by
      rcases hm b h' with h'' | h''
      · exact hn h''
      · omega)).trans (h.block b hb hn)⟩
theorem Ext.get (h : Ext m w w') {b : Nat} {o : Obj} (hb : w.heap[b]? = some o) (hn : ¬ m b) : w'.heap[b]? = some o :=
  (h.block b (Array.getElem?_eq_some_iff.1 hb).1 hn).trans hb
theorem Ext.cell (h : Ext m w w') {a : Addr} {v : Value} (hc : w.cell? a = some v) (hn : ¬ m a.block) : w'.cell? a = some v :=
  (World.cell?_of_block (h.block a.block (World.block_lt_of_cell? w a hc) hn)).trans hc
end

/-! ### a struct in a block of its own -/
def Blk (w : World) (b : Nat) (t : TypeId) (cs : List Value) : Prop := w.heap[b]? = some (.cells cs.toArray t (0, 0))
section
variable {w w' : World} {b : Nat} {t : TypeId} {cs : List Value}
theorem Blk.cell (h : Blk w b t cs) {i : Nat} {v : Value} (hv : cs[i]? = some v) : w.cell? ⟨b, i, none⟩ = some v := by
  simp only [Blk] at h
  simp [World.cell?, h, hv]
theorem Blk.lt (h : Blk w b t cs) : b < w.heap.size := (Array.getElem?_eq_some_iff.1 h).1
theorem Blk.free (h : Blk w b t cs) (a : Addr) (ha : a.block = b) : w.frozen? a = false := by
  simp only [Blk] at h
  simp [World.frozen?, ha, h]
theorem Blk.can (h : Blk w b t cs) {i : Nat} {v : Value} (hv : cs[i]? = some v) : Q01 w ⟨b, i, none⟩ := ⟨⟨v, h.cell hv⟩, h.free _ rfl⟩
theorem Blk.set (h : Blk w b t cs) (i : Nat) (v : Value) : Blk (w.setCell ⟨b, i, none⟩ v) b t (cs.set i v) := by
  simp only [Blk] at h ⊢
  simp only [World.setCell, Array.getElem?_modify, if_true, h, Option.map_some]
  simp
theorem Blk.set_other (h : Blk w b t cs) {a : Addr} (ha : b ≠ a.block) (v : Value) : Blk (w.setCell a v) b t cs := by
  simp only [Blk] at h ⊢
  rw [Q16 _ _ _ _ ha]; exact h
theorem Blk.ext {m : Nat → Prop} (h : Blk w b t cs) (k : Ext m w w') (hn : ¬ m b) : Blk w' b t cs := k.get h hn
theorem Blk.new (w : World) (t : TypeId) (cs : List Value) : Blk (w.alloc (.cells cs.toArray t)) w.heap.size t cs := heap_alloc_new w _
theorem Blk.drew (h : Blk w b t cs) : Blk w.drew b t cs := h
theorem Blk.alloc (h : Blk w b t cs) (o : Obj) : Blk (w.alloc o) b t cs := by
  simp only [Blk] at h ⊢
  rw [heap_alloc_old w o b (Array.getElem?_eq_some_iff.1 h).1]; exact h
end
theorem add_blk (b i : Nat) : (blk b).add i = ⟨b, i, none⟩ := by unfold Addr.add; split <;> simp_all [blk]
theorem Blk.cella {w : World} {b : Nat} {t : TypeId} {cs : List Value} (h : Blk w b t cs) {i : Nat} {v : Value} (hv : cs[i]? = some v) : w.cell? ((blk b).add i) = some v := by
  rw [add_blk]; exact h.cell hv
theorem Blk.cana {w : World} {b : Nat} {t : TypeId} {cs : List Value} (h : Blk w b t cs) {i : Nat} {v : Value} (hv : cs[i]? = some v) : Q01 w ((blk b).add i) := by
  rw [add_blk]; exact h.can hv
theorem Blk.seta {w : World} {b : Nat} {t : TypeId} {cs : List Value} (h : Blk w b t cs) (i : Nat) (v : Value) : Blk (w.setCell ((blk b).add i) v) b t (cs.set i v) := by
  rw [add_blk]; exact h.set i v
theorem add_zero (a : Addr) : a.add 0 = a := rfl
theorem Q11 (a : Addr) (i : Nat) : (a.add i).block = a.block := by unfold Addr.add; split <;> rfl

theorem info_of {P : Program} {e : TypeId} {z : Value} {size bytes : Nat} (h : (P.info? e).map (fun i => (i.zero, i.size, i.bytes)) = some (some z, size, bytes)) :
    ∃ i, P.info? e = some i ∧ i.zero = some z ∧ i.size = size ∧ i.bytes = bytes := by
  obtain ⟨i, hi, hzz⟩ := Option.map_eq_some_iff.1 h
  simp only [Prod.mk.injEq] at hzz
  exact ⟨i, hi, hzz.1, hzz.2.1, hzz.2.2⟩
/-! ### maps -/
section
variable {κ : Type} [DecidableEq κ]
def idx : List (κ × Value) → κ → Nat → Option (Nat × Value)
  | [], _, _ => none
  | p :: r, x, i => if p.1 = x then some (i, p.2) else idx r x (i + 1)
structure Keys (P : Program) (t : TypeId) (enc : κ → Value) : Prop where
  check : ∀ e x w, (Instr.checkKey e 10000 t (enc x)).run P w = .ok () w
  find : ∀ (x : κ) (es : List MapEntry) (l : List (κ × Value)), es.map (fun e => (e.key, e.val)) = l.map (fun p => (enc p.1, p.2)) → ∀ w,
    (Instr.findKey t (enc x) es).run P w = .ok (idx l x 0) w
  bits : ∀ x, Instr.sameBits 10000 (enc x) (enc x) = true
  
variable {P : Program} {w w' : World} {r : Nat} {enc : κ → Value} {l : List (κ × Value)}
end

def strV (s : List UInt8) : Value := .string ⟨s.toArray⟩
theorem Q3Z (a b : List UInt8) : ((⟨a.toArray⟩ : ByteArray) == ⟨b.toArray⟩) = decide (a = b) := by
  show ByteArray.beq _ _ = _
  rw [Bool.eq_iff_iff]
  simp [ByteArray.beq]
end Go.Mx
namespace Go.Mx

def RowAt (w : World) (a : Option Addr) (cs : List Value) : Prop := ∀ i v, cs[i]? = some v → ∃ ad, a = some ad ∧ w.cell? (ad.add i) = some v
def Out (m : Nat → Prop) (a : Option Addr) : Prop := ∀ ad, a = some ad → ¬ m ad.block
section
variable {w w' : World} {m : Nat → Prop} {a : Option Addr} {cs : List Value}
theorem RowAt.nil (w : World) (a : Option Addr) : RowAt w a [] := fun i v h => by simp at h
theorem RowAt.ext (h : RowAt w a cs) (k : Ext m w w') (ho : Out m a) : RowAt w' a cs := fun i v hv => by
  obtain ⟨ad, ha, hc⟩ := h i v hv
  exact ⟨ad, ha, k.cell hc (by rw [Q11]; exact ho ad ha)⟩
theorem RowAt.ext' (h : RowAt w a cs) (k : Ext m w w') (ho : cs ≠ [] → Out m a) : RowAt w' a cs := fun i v hv => by
  obtain ⟨ad, ha, hc⟩ := h i v hv
  exact ⟨ad, ha, k.cell hc (by rw [Q11]; exact ho (fun e => by subst e; simp at hv) ad ha)⟩
theorem RowAt.lt (h : RowAt w a cs) (h0 : cs ≠ []) {ad : Addr} (ha : a = some ad) : ad.block < w.heap.size := by
  cases cs with
  | nil => exact absurd rfl h0
  | cons v r =>
    obtain ⟨ad', ha', hc⟩ := h 0 v rfl
    rw [ha] at ha'; cases ha'
    exact World.block_lt_of_cell? w _ hc
theorem RowAt.no (h : RowAt w a cs) (k : Ext no w w') : RowAt w' a cs := h.ext k fun _ _ h => h
theorem RowAt.addr (h : RowAt w a cs) (h0 : cs ≠ []) : ∃ ad, a = some ad := by
  cases cs with
  | nil => exact absurd rfl h0
  | cons v r => obtain ⟨ad, ha, _⟩ := h 0 v rfl; exact ⟨ad, ha⟩
theorem RowAt.at_ {ad : Addr} (h : RowAt w (some ad) cs) {i : Nat} {v : Value} (hv : cs[i]? = some v) : w.cell? (ad.add i) = some v := by
  obtain ⟨ad', ha, hc⟩ := h i v hv
  cases ha; exact hc
theorem add_add (a : Addr) (i j : Nat) : (a.add i).add j = a.add (i + j) := by
  unfold Addr.add
  by_cases hi : i = 0
  · simp [hi]
  · by_cases hj : j = 0
    · simp [hi, hj]
    · simp [hi, hj]; omega
theorem RowAt.drop (h : RowAt w a cs) (k c : Nat) (hc : c = k → cs.length ≤ k) : RowAt w (if c = k then a else a.map (·.add k)) (cs.drop k) := fun i v hv => by
  rw [List.getElem?_drop] at hv
  obtain ⟨ad, ha, hcell⟩ := h (k + i) v hv
  have hne : c ≠ k := fun e => by
    have h1 := hc e
    have h2 := (List.getElem?_eq_some_iff.1 hv).1
    omega
  rw [if_neg hne, ha]
  exact ⟨ad.add k, rfl, by rw [add_add]; exact hcell⟩
theorem RowAt.take (h : RowAt w a cs) (k : Nat) : RowAt w a (cs.take k) := fun i v hv => by
  rw [List.getElem?_take] at hv
  split at hv
  · exact h i v hv
  · cases hv
theorem RowAt.of_owns {base e size n : Nat} {v : Value} {xs : List Value} (h : w.ownsRow base e size v n xs) : ∃ a c, v = .slice a n c ∧ RowAt w a xs := by
  rcases h.2 with ⟨hv, hn⟩ | ⟨g, cap, cur, hv, hb, hg, hnc, hcm, hs, ht⟩
  · subst hn
    have : xs = [] := List.eq_nil_of_length_eq_zero (by simpa using h.1)
    subst this
    exact ⟨none, 0, hv, RowAt.nil w none⟩
  · refine ⟨_, cap, hv, fun i u hu => ⟨_, rfl, ?_⟩⟩
    exact h.cells (g := g) (by rw [hv]; rfl) i u hu
theorem RowAt.loads (h : RowAt w a cs) {ad : Addr} (ha : a = some ad) : cellsAt w ad cs 0 := by
  have key : ∀ (r : List Value) (i : Nat), (∀ j v, r[j]? = some v → w.cell? (ad.add (i + j)) = some v) → cellsAt w ad r i := by
    intro r
    induction r with
    | nil => intro i _; trivial
    | cons v r ih =>
      intro i hr
      refine ⟨by simpa using hr 0 v rfl, ih (i + 1) fun j u hu => ?_⟩
      have := hr (j + 1) u (by simpa using hu)
      rw [show i + 1 + j = i + (j + 1) by omega]; exact this
  refine key cs 0 fun j v hv => ?_
  subst ha
  simpa using h.at_ hv
end

/-! ### append -/
theorem Q0Z {P : Program} {w : World} {t ty e : TypeId} {i : TypeInfo} {z : Value} {size bytes : Nat} (ht : P.underlying t = some (.slice e)) (hi : P.info? e = some i) (hz : i.zero = some z)
    (hsize : i.size = size) (hby : i.bytes = bytes) (hzs : z.cells.size = size) (hsz : 0 < size)
    {v : Value} {n : Nat} {xs : List Value} (hown : w.ownsRow 0 e size v n xs)
    {xa : Option Addr} {m c : Nat} {news : List Value} (hl : news.length = m * size) (hnews : RowAt w xa news) (h1 : ∀ u ∈ news, u.oneCell' = true)
    (hbytes : (n + m) * bytes ≤ 140737488355328) (h63 : n + m ≤ 9223372036854775807) :
    ∃ a' c' w', (Builtin.append_ #[t, t] ty #[v, .slice xa m c]).run P w = .ok (.slice a' (n + m) c') w' ∧ w'.ownsRow 0 e size (.slice a' (n + m) c') (n + m) (xs ++ news) ∧ w.grownBy w' v.ownBlock ∧
      ((Value.slice a' (n + m) c').ownBlock = v.ownBlock ∨ (Value.slice a' (n + m) c').ownBlock = some w.heap.size) := by
  cases xa with
  | some a =>
    obtain ⟨v', w', h1, h2, h3, _, h5⟩ := run_append_own_at (P := P) w 0 t ty e i z size bytes ht hi hz hsize hby hzs hsz v n xs hown a m c news hl (fun j u hu => hnews.at_ hu) h1
      (by unfold maxLen; omega) hbytes (Nat.zero_le _)
    obtain ⟨a', c', hv, _⟩ := RowAt.of_owns h2
    subst hv
    exact ⟨a', c', w', h1, h2, h3, h5⟩
  | none =>
    have hn : news = [] := by
      cases news with
      | nil => rfl
      | cons u r => obtain ⟨ad, ha, _⟩ := hnews 0 u rfl; cases ha
    subst hn
    have hm : m = 0 := by
      have h0 : 0 = m * size := by simpa using hl
      rcases Nat.mul_eq_zero.1 h0.symm with h | h <;> omega
    subst hm
    obtain ⟨a', c', hv, _⟩ := RowAt.of_owns hown
    subst hv
    refine ⟨a', c', w, ?_, by simpa using hown, ⟨rfl, rfl, rfl, Nat.le_refl _, fun _ _ _ => rfl⟩, .inl rfl⟩
    have hle : n ≤ c' := by
      rcases hown.2 with ⟨h, h'⟩ | ⟨g, cap, cur, h, _, _, hh, _⟩
      · omega
      · cases h; exact hh
    cases a' with
    | none => simp [Builtin.append_, run_underlying' ht, sizeOf, run_typeInfo' hi, Builtin.lenOf, hle, Builtin.firstCells]
    | some ad => simp [Builtin.append_, run_underlying' ht, sizeOf, run_typeInfo' hi, Builtin.lenOf, hle, Builtin.firstCells, storeCells]

/-! ### bytes -/
def u8V (b : UInt8) : Value := .int .u8 (b.toNat : Int)
def bytesV (bs : List UInt8) : List Value := bs.map u8V
theorem Q0M (bs : List UInt8) : (bytesV bs).length = bs.length := by simp [bytesV]
theorem Q2A (bs : List UInt8) : ∀ u ∈ bytesV bs, u.oneCell' = true := by
  intro u hu
  obtain ⟨b, _, rfl⟩ := List.mem_map.1 hu
  rfl
theorem Q0P {bs : List UInt8} {i : Nat} (h : i < bs.length) : (bytesV bs)[i]? = some (.int .u8 (bs[i].toNat : Int)) := by
  simp [bytesV, h, u8V]

theorem Q3l {P : Program} {w : World} {src dst e : TypeId} (hs : P.underlying src = some (.slice e)) (he : P.underlying e = some (.int .u8)) (hd : P.underlying dst = some .string)
    {a : Option Addr} {c : Nat} {bs : List UInt8} (h : RowAt w a (bytesV bs)) : (convert src dst (.slice a bs.length c)).run P w = .ok (strV bs) w := by
  rw [run_convert_bytes_string w src dst e _ _ c hs he hd]
  cases a with
  | none =>
    have : bs = [] := by
      cases bs with
      | nil => rfl
      | cons b r => obtain ⟨ad, ha, _⟩ := h 0 (u8V b) rfl; cases ha
    subst this
    simp [Conv.bytesToString, strV]
    rfl
  | some ad =>
    have hl : (loadCells ad bs.length).run P w = .ok ((bs.map fun b => (b.toNat : Int)).map (Value.int .u8)).toArray w := by
      have := Q0T (P := P) (bytesV bs) 0 #[] (h.loads rfl)
      rw [Q0M] at this
      simp only [loadCells, this]
      congr 1
      apply Array.ext'
      simp [bytesV, u8V]
    rw [run_bytesToString w ad bs.length c _ hl, foldl_push_bytes]
    have e : (bs.map fun b => (b.toNat : Int)).map (fun n => UInt8.ofNat n.toNat) = bs := by
      rw [List.map_map]
      conv => rhs; rw [← List.map_id bs]
      refine List.map_congr_left fun b _ => ?_
      simp
    rw [e]
    simp [strV, ByteArray.empty, ByteArray.emptyWithCapacity]
    rfl

theorem Q48 {P : Program} {w : World} {t e : TypeId} (hs : P.underlying t = some (.slice e)) (he : P.underlying e = some (.int .u8)) {b n c : Nat} {cs : List Value} (hb : Blk w b e cs) :
    (convert t t (.slice (some ⟨b, 0, none⟩) n c)).run P w = .ok (.slice (some ⟨b, 0, none⟩) n c) (w.freeze ⟨b, cs.length, none⟩ 1) := by
  simp only [Blk] at hb
  have hsh : w.shape? b = some (e, cs.length) := by simp [World.shape?, hb]
  simp [convert, run_underlying' hs, run_underlying' he, markStringish, hsh]
theorem Q37 (w : World) (x a : Addr) (n : Nat) : (w.freeze x n).cell? a = w.cell? a := by
  unfold World.freeze
  split
  · rfl
  · simp only [World.cell?, Array.getElem?_modify]
    by_cases h : x.block = a.block
    · simp only [h, if_true]
      cases w.heap[a.block]? with
      | none => rfl
      | some o => cases o <;> rfl
    · simp [h]
theorem Ext.freeze {m : Nat → Prop} {w w1 : World} (h : Ext m w w1) {x : Addr} (hx : m x.block ∨ w.heap.size ≤ x.block) (n : Nat) : Ext m w (w1.freeze x n) := by
  unfold World.freeze
  split
  · exact h
  · refine ⟨h.os, h.tape, h.output, by simpa using h.size, fun b hb hn => ?_⟩
    have hne : ¬ x.block = b := fun e => by
      subst e
      rcases hx with hx | hx
      · exact hn hx
      · omega
    simp only [Array.getElem?_modify, hne, if_false]
    exact h.block b hb hn
theorem RowAt.freeze {w : World} {a : Option Addr} {cs : List Value} (h : RowAt w a cs) (x : Addr) (n : Nat) : RowAt (w.freeze x n) a cs := fun i v hv => by
  obtain ⟨ad, ha, hc⟩ := h i v hv
  exact ⟨ad, ha, by rw [Q37]; exact hc⟩
theorem RowAt.of_blk {w : World} {b : Nat} {t : TypeId} {cs : List Value} (h : Blk w b t cs) : RowAt w (some ⟨b, 0, none⟩) cs := fun i v hv =>
  ⟨_, rfl, by rw [add_blk]; exact h.cell hv⟩
theorem Q1f {w : World} {b : Nat} {e : TypeId} {size n : Nat} {cs : List Value} (h : Blk w b e cs) (hl : cs.length = n * size) (hn : n ≤ maxLen) : w.ownsRow 0 e size (.slice (some ⟨b, 0, none⟩) n n) n cs :=
  ⟨hl, .inr ⟨b, n, cs.toArray, rfl, Nat.zero_le _, h, Nat.le_refl _, hn, by simpa using hl, by simp [← hl]⟩⟩
/-! ### copies -/
def Fresh (w w' : World) (a : Option Addr) : Prop := ∀ ad, a = some ad → w.heap.size ≤ ad.block ∧ ad.block < w'.heap.size
theorem Q0Q {w1 : World} {base e size n : Nat} {a : Option Addr} {k c : Nat} {xs : List Value} (h : w1.ownsRow base e size (.slice a k c) n xs) :
    n ≤ c ∧ ∀ ad, a = some ad → ad.block < w1.heap.size := by
  rcases h.2 with ⟨hv, hn⟩ | ⟨g, cap, cur, hv, hb, hg, hnc, hcm, hs, ht⟩
  · cases hv; subst hn; exact ⟨Nat.zero_le _, fun ad ha => by cases ha⟩
  · cases hv; exact ⟨hnc, fun ad ha => by cases ha; exact (Array.getElem?_eq_some_iff.1 hg).1⟩
theorem clone_run {P : Program} {w : World} {t ty e : TypeId} {i : TypeInfo} {z : Value} {bytes : Nat} (ht : P.underlying t = some (.slice e)) (hi : P.info? e = some i) (hz : i.zero = some z)
    (hsize : i.size = 1) (hby : i.bytes = bytes) (hzs : z.cells.size = 1) {xa : Option Addr} {m c : Nat} {news : List Value} (hl : news.length = m) (hnews : RowAt w xa news) (h1 : ∀ u ∈ news, u.oneCell' = true)
    (hbytes : m * bytes ≤ 140737488355328) (h63 : m ≤ 9223372036854775807) :
    ∃ a' c' w', (Builtin.append_ #[t, t] ty #[.slice (some (blk w.heap.size)) 0 0, .slice xa m c]).run P (w.alloc (.cells #[] e)) = .ok (.slice a' m c') w' ∧ m ≤ c' ∧ RowAt w' a' news ∧ Ext no w w' ∧ Fresh w w' a' := by
  have hlt : ∀ ad, xa = some ad → news ≠ [] → ad.block < w.heap.size := fun ad ha hn => by
    cases hc : news with
    | nil => exact absurd hc hn
    | cons u r =>
      obtain ⟨ad', h', hcell⟩ := hnews 0 u (by rw [hc]; rfl)
      have : w.cell? ad = some u := by rw [ha] at h'; cases h'; exact hcell
      exact World.block_lt_of_cell? w _ this
  have e1 : Ext no w (w.alloc (.cells #[] e)) := (Ext.refl _ _).alloc _
  have hown : (w.alloc (.cells #[] e)).ownsRow 0 e 1 (.slice (some (blk w.heap.size)) 0 0) 0 [] := Q1f (Blk.new w e []) rfl (Nat.zero_le _)
  obtain ⟨a', c', w', hr, ho, hg, hb⟩ := Q0Z (ty := ty) ht hi hz hsize hby hzs (Nat.zero_lt_one) hown (xa := xa) (m := m) (c := c) (by simpa using hl) (hnews.ext e1 (fun _ _ h => h)) h1 (by simpa using hbytes) (by simpa using h63)
  rw [Nat.zero_add] at hr ho hb
  rw [List.nil_append] at ho
  obtain ⟨a2, c2, hv, hrow⟩ := RowAt.of_owns ho
  cases hv
  refine ⟨a', c', w', hr, (Q0Q ho).1, hrow, ?_, fun ad ha => ⟨?_, (Q0Q ho).2 ad ha⟩⟩
  · exact e1.then (m' := fun b => b = w.heap.size) (Ext.of_grown hg fun k hk => by left; simpa [Value.ownBlock, blk, eq_comm] using hk) (fun b hb => .inr (by omega))
  · subst ha
    rcases hb with h | h <;> simp only [Value.ownBlock, Option.some.injEq, blk] at h <;> have h2 : (w.alloc (.cells #[] e)).heap.size = w.heap.size + 1 := (by simp) <;> omega
theorem RowAt.none_nil {w : World} {cs : List Value} (h : RowAt w none cs) : cs = [] := by
  cases cs with
  | nil => rfl
  | cons u r => obtain ⟨ad, ha, _⟩ := h 0 u rfl; cases ha

theorem Q3P {P : Program} {w : World} {t ty e : TypeId} {i : TypeInfo} {z : Value} {bytes : Nat} (ht : P.underlying t = some (.slice e)) (hi : P.info? e = some i) (hz : i.zero = some z)
    (hsize : i.size = 1) (hby : i.bytes = bytes) (hzs : z.cells.size = 1) {xa : Option Addr} {m c : Nat} {news : List Value} (hl : news.length = m) (hnews : RowAt w xa news) (h1 : ∀ u ∈ news, u.oneCell' = true)
    (hbytes : m * bytes ≤ 140737488355328) (h63 : m ≤ 9223372036854775807) :
    ∃ a' c' w', (Builtin.append_ #[t, t] ty #[.slice (some (blk w.heap.size)) 0 0, .slice xa m c]).run P (w.alloc (.cells #[] e)) = .ok (.slice a' m c') w' ∧ m ≤ c' ∧ w'.ownsRow 0 e 1 (.slice a' m c') m news ∧ RowAt w' a' news ∧ Ext no w w' ∧ Fresh w w' a' := by
  have e1 : Ext no w (w.alloc (.cells #[] e)) := (Ext.refl _ _).alloc _
  have hown : (w.alloc (.cells #[] e)).ownsRow 0 e 1 (.slice (some (blk w.heap.size)) 0 0) 0 [] := Q1f (Blk.new w e []) rfl (Nat.zero_le _)
  obtain ⟨a', c', w', hr, ho, hg, hb⟩ := Q0Z (ty := ty) ht hi hz hsize hby hzs (Nat.zero_lt_one) hown (xa := xa) (m := m) (c := c) (by simpa using hl) (hnews.ext e1 (fun _ _ h => h)) h1 (by simpa using hbytes) (by simpa using h63)
  rw [Nat.zero_add] at hr ho hb
  rw [List.nil_append] at ho
  obtain ⟨a2, c2, hv, hrow⟩ := RowAt.of_owns ho
  cases hv
  refine ⟨a', c', w', hr, (Q0Q ho).1, ho, hrow, ?_, fun ad ha => ⟨?_, (Q0Q ho).2 ad ha⟩⟩
  · exact e1.then (m' := fun b => b = w.heap.size) (Ext.of_grown hg fun k hk => by left; simpa [Value.ownBlock, blk, eq_comm] using hk) (fun b hb => .inr (by omega))
  · subst ha
    rcases hb with h | h <;> simp only [Value.ownBlock, Option.some.injEq, blk] at h <;> have h2 : (w.alloc (.cells #[] e)).heap.size = w.heap.size + 1 := (by simp) <;> omega
end Go.Mx
namespace Go.Mx
open Go.RowKit

structure Opens (P : Program) (t : TypeId) (Q : World → List Value → Prop) : Prop where
  on : ∀ {H : Type} (enc : TypeId × Value → H) (W : World) (base : Nat) (sp : Nat → Bool) (held : Bool) (n : Nat) (cs : List Value) (x : DataW H × List MemPlace), DataW.trod enc P W base sp held n t cs = some x → Q W cs
section
variable {P : Program} {t e : TypeId}
theorem Q3W {k : IntKind} (ht : P.underlying t = some (.int k)) : Opens P t fun _ cs => ∃ n, cs = [.int k n] ∧ (Lit.int k n).wf = true := .mk fun enc W base sp held n cs x h => by
  obtain ⟨n, h1, _, h2⟩ := DataW.trod_int ht h
  exact ⟨n, h1, h2⟩
theorem Q1D {W : World} {a : Addr} {size : Nat} : ∀ (rows : List (List Value)) (k : Nat), (∀ j r, rows[j]? = some r → r.length = size ∧ RowAt W (some (a.add ((k + j) * size))) r) → RowAt W (some (a.add (k * size))) rows.flatten
  | [], k, _ => RowAt.nil _ _
  | r :: rs, k, h => fun i v hv => by
    obtain ⟨hl, hr⟩ := h 0 r rfl
    have ih := Q1D rs (k + 1) fun j r' hj => by
      have := h (j + 1) r' (by simpa using hj)
      rwa [show k + (j + 1) = k + 1 + j by omega] at this
    rw [List.flatten_cons] at hv
    by_cases hi : i < r.length
    · rw [List.getElem?_append_left hi] at hv
      exact hr i v hv
    · rw [List.getElem?_append_right (by omega)] at hv
      refine ⟨_, rfl, ?_⟩
      have := ih.at_ hv
      rw [add_add] at this ⊢
      rwa [show (k + 1) * size + (i - r.length) = k * size + i by rw [Nat.add_mul, hl]; omega] at this
theorem Q2i {W : World} {base n : Nat} {a : Addr} {cs : List Value} (h : W.cells? base a n = some cs) : cs.length = n ∧ RowAt W (some a) cs := by
  obtain ⟨h1, h2, h3⟩ := World.cells?_some h
  refine ⟨h2, fun i v hv => ⟨a, rfl, ?_⟩⟩
  have hi := (List.getElem?_eq_some_iff.1 hv).1
  rw [h3 i (by omega), hv]
theorem Q2c {size : Nat} {Q : World → List Value → Prop} (ht : P.underlying t = some (.slice e)) (hs : P.cellsOf e = size) (he : Opens P e Q) :
    Opens P t fun W cs => ∃ (a : Option Addr) (l c : Nat) (rows : List (List Value)), cs = [.slice a l c] ∧ l ≤ c ∧ c ≤ maxLen ∧ rows.length = l ∧ RowAt W a rows.flatten ∧ (∀ r ∈ rows, r.length = size ∧ Q W r) := .mk fun enc W base sp held n cs x h => by
  rcases DataW.trod_slice ht h with ⟨h1, _⟩ | ⟨a, len, cap, elems, rest, m, _, h1, _, _, h2, h3, h4, h5, _⟩
  · exact ⟨none, 0, 0, [], h1, Nat.le_refl _, Nat.zero_le _, rfl, RowAt.nil _ _, by simp⟩
  · rw [hs] at h5
    have key : ∀ i, i < len → ∃ r, W.cells? base (a.add (i * size)) size = some r ∧ Q W r := fun i hi => by
      have := h5 i hi
      rw [List.getElem?_eq_getElem (by omega)] at this
      obtain ⟨r, hr, hq⟩ := Option.bind_eq_some_iff.1 this
      exact ⟨r, hr, he.on enc W base sp held m r _ hq⟩
    have hrow : ∀ j, ((List.range len).map fun i => (W.cells? base (a.add (i * size)) size).getD [])[j]? = if j < len then some ((W.cells? base (a.add (j * size)) size).getD []) else none := fun j => by
      rw [List.getElem?_map]
      by_cases hj : j < len
      · rw [List.getElem?_range hj]; simp [hj]
      · rw [List.getElem?_eq_none (by simpa using hj)]; simp [hj]
    refine ⟨some a, len, cap, (List.range len).map fun i => (W.cells? base (a.add (i * size)) size).getD [], h1, h2, h3, by simp, ?_, ?_⟩
    · have := Q1D (W := W) (a := a) (size := size) ((List.range len).map fun i => (W.cells? base (a.add (i * size)) size).getD []) 0 fun j r hj => by
        rw [hrow] at hj
        split at hj
        · obtain ⟨r', hr, _⟩ := key j ‹_›
          rw [hr] at hj
          cases hj
          rw [Nat.zero_add]
          exact Q2i hr
        · cases hj
      rwa [Nat.zero_mul] at this
    · intro r hr
      obtain ⟨j, hj, rfl⟩ := List.mem_map.1 hr
      obtain ⟨r', hr', hq⟩ := key j (List.mem_range.1 hj)
      rw [hr']
      exact ⟨(Q2i hr').1, hq⟩
theorem Opens.mono {Q Q' : World → List Value → Prop} (h : Opens P t Q) (k : ∀ W cs, Q W cs → Q' W cs) : Opens P t Q' := .mk fun enc W base sp held n cs x hx => k _ _ (h.on enc W base sp held n cs x hx)
theorem Q36 {rows : List (List Value)} {α : Type} (f : α → Value) (h : ∀ r ∈ rows, ∃ x, r = [f x]) : ∃ xs : List α, rows.flatten = xs.map f ∧ xs.length = rows.length := by
  induction rows with
  | nil => exact ⟨[], rfl, rfl⟩
  | cons r rs ih =>
    obtain ⟨x, hx⟩ := h r List.mem_cons_self
    obtain ⟨xs, h1, h2⟩ := ih fun r hr => h r (List.mem_cons_of_mem _ hr)
    exact ⟨x :: xs, by rw [List.flatten_cons, hx, h1]; rfl, by simp [h2]⟩
theorem rows_of {rows : List (List Value)} {α : Type} (f : α → List Value) (G : α → Prop) (h : ∀ r ∈ rows, ∃ x, r = f x ∧ G x) : ∃ xs : List α, rows = xs.map f ∧ ∀ x ∈ xs, G x := by
  induction rows with
  | nil => exact ⟨[], rfl, by simp⟩
  | cons r rs ih =>
    obtain ⟨x, hx, hg⟩ := h r List.mem_cons_self
    obtain ⟨xs, h1, h2⟩ := ih fun r hr => h r (List.mem_cons_of_mem _ hr)
    exact ⟨x :: xs, by rw [hx, h1]; rfl, fun y hy => by rcases List.mem_cons.1 hy with rfl | hy; exact hg; exact h2 y hy⟩
theorem wf_u8 {n : Int} (h : (Lit.int .u8 n).wf = true) : 0 ≤ n ∧ n < 256 := by
  simp [Lit.wf, IntKind.min, IntKind.max, IntKind.signed, IntKind.bits] at h; omega
def BytesQ (W : World) (cs : List Value) : Prop := ∃ (a : Option Addr) (c : Nat) (bs : List UInt8), cs = [.slice a bs.length c] ∧ bs.length ≤ c ∧ c ≤ maxLen ∧ RowAt W a (bytesV bs)
theorem Q3b (ht : P.underlying t = some (.slice e)) (hs : P.cellsOf e = 1) (he : P.underlying e = some (.int .u8)) : Opens P t BytesQ :=
  (Q2c ht hs (Q3W he)).mono fun W cs ⟨a, l, c, rows, h1, h2, h3, h4, h5, h6⟩ => by
    obtain ⟨xs, h7, h8⟩ := Q36 (rows := rows) u8V fun r hr => by
      obtain ⟨n, hn, hw⟩ := (h6 r hr).2
      have := wf_u8 hw
      exact ⟨UInt8.ofNat n.toNat, by rw [hn, u8V]; congr 2; simp; omega⟩
    rw [h7] at h5
    subst h4
    exact ⟨a, c, xs, by rw [h8]; exact h1, by omega, h3, h5⟩
end
structure BS where
  a : Option Addr
  c : Nat
  bs : List UInt8
def BS.v (x : BS) : Value := .slice x.a x.bs.length x.c
theorem Ext.below {w w' : World} (h : Ext no w w') : Below w.heap.size w w' := ⟨h.os, h.tape, h.output, h.size, fun k hk => h.block k hk id⟩
end Go.Mx
namespace Go.Mx

section
variable {P : Program} {t : TypeId} {u0 u1 : TypeDesc}
end

/-! ### an entry, and its value behind it -/
section
variable {κ : Type} [DecidableEq κ] {P : Program} {w w' : World} {r : Nat} {enc : κ → Value} {l : List (κ × Value)}
end
end Go.Mx
namespace Go.Mx
theorem w64 {n : Int} (h0 : -9223372036854775808 ≤ n) (h1 : n < 9223372036854775808) : IntKind.i64.wrap n = n := by rw [IntKind.wrap_i64]; omega
theorem wu64 {n : Int} (h0 : 0 ≤ n) (h1 : n < 18446744073709551616) : IntKind.u64.wrap n = n := by rw [IntKind.wrap_u64]; omega
theorem wu8 {n : Int} (h0 : 0 ≤ n) (h1 : n < 256) : IntKind.u8.wrap n = n := by rw [IntKind.wrap_u8]; omega

/-! ### a number in eight bytes -/
theorem u8_lt (c : UInt8) : c.toNat < 256 := UInt8.toNat_lt c
end Go.Mx
namespace Go.Mx
def numF : Nat → Nat → List UInt8
  | 0, _ => []
  | k + 1, n => if n < 128 then [UInt8.ofNat n] else UInt8.ofNat (n % 128 + 128) :: numF k (n / 128)
def numL (n : Nat) : List UInt8 := numF 10 n
def widthF : Nat → List UInt8 → Nat
  | _, [] => 0
  | i, c :: r => if i = 9 ∧ c.toNat ≠ 1 then 0 else if c.toNat < 128 then (if c.toNat = 0 ∧ 0 < i then 0 else i + 1) else widthF (i + 1) r
def valW : List UInt8 → Nat
  | [] => 0
  | c :: r => c.toNat % 128 + 128 * valW r
def rdNum (bs : List UInt8) : Option (Nat × List UInt8) := if widthF 0 bs = 0 then none else some (valW (bs.take (widthF 0 bs)), bs.drop (widthF 0 bs))
theorem Q0R {n : Nat} (h : n < 256) : (UInt8.ofNat n).toNat = n := by simp; omega
theorem Q4p : ∀ k n, 0 < k → 0 < (numF k n).length
  | k + 1, n, _ => by
    simp only [numF]
    split <;> simp
theorem numF_le : ∀ k n, (numF k n).length ≤ k
  | 0, n => Nat.le_refl _
  | k + 1, n => by
    simp only [numF]
    have := numF_le k (n / 128)
    split <;> simp <;> omega
theorem Q3o : ∀ k n, n < 128 ^ k → valW (numF k n) = n
  | 0, n, h => by simp at h; subst h; rfl
  | k + 1, n, h => by
    simp only [numF]
    by_cases hn : n < 128
    · rw [if_pos hn]
      simp only [valW]
      rw [Q0R (by omega)]; omega
    · rw [if_neg hn]
      simp only [valW]
      rw [Q0R (by omega), Q3o k (n / 128) (by rw [Nat.pow_succ] at h; omega)]
      omega
theorem Q2S : ∀ (k i n : Nat) (rest : List UInt8), k + i = 10 → 0 < k → n < 2 ^ (64 - 7 * i) → (0 < i → 0 < n) → widthF i (numF k n ++ rest) = i + (numF k n).length
  | 0, i, n, rest, h, h0, _, _ => absurd h0 (by omega)
  | k + 1, i, n, rest, h, _, hn, hp => by
    simp only [numF]
    by_cases h1 : n < 128
    · rw [if_pos h1]
      simp only [List.cons_append, List.nil_append, widthF]
      rw [Q0R (by omega)]
      have hi9 : ¬ (i = 9 ∧ n ≠ 1) := fun ⟨e, e2⟩ => by
        subst e
        have := hp (by omega)
        have : n < 2 := by simpa using hn
        omega
      rw [if_neg hi9, if_pos h1, if_neg (fun ⟨e, e2⟩ => by have := hp e2; omega)]
      rfl
    · rw [if_neg h1]
      simp only [List.cons_append, widthF]
      rw [Q0R (by omega)]
      have hi9 : i ≠ 9 := fun e => by
        subst e
        have : n < 2 := by simpa using hn
        omega
      rw [if_neg (fun h => hi9 h.1), if_neg (by omega)]
      have hb : n / 128 < 2 ^ (64 - 7 * (i + 1)) := by
        rw [Nat.div_lt_iff_lt_mul (by decide)]
        have : 2 ^ (64 - 7 * i) = 2 ^ (64 - 7 * (i + 1)) * 128 := by
          rw [show (128 : Nat) = 2 ^ 7 from rfl, ← Nat.pow_add]
          congr 1; omega
        omega
      rw [Q2S k (i + 1) (n / 128) rest (by omega) (by omega) hb (fun _ => by omega)]
      simp; omega
theorem rd_num {n : Nat} (h : n < 18446744073709551616) (rest : List UInt8) : rdNum (numL n ++ rest) = some (n, rest) := by
  have hw := Q2S 10 0 n rest rfl (by decide) h (fun h => absurd h (by omega))
  rw [Nat.zero_add] at hw
  unfold rdNum numL
  rw [hw, if_neg (by have := Q4p 10 n (by decide); omega), List.take_left' rfl, List.drop_left' rfl, Q3o 10 n (by omega)]
theorem Q1n : ∀ (bs : List UInt8) (i : Nat), i ≤ 9 → widthF i bs ≠ 0 → i < widthF i bs ∧ widthF i bs - i ≤ bs.length ∧ numF (10 - i) (valW (bs.take (widthF i bs - i))) = bs.take (widthF i bs - i) ∧ valW (bs.take (widthF i bs - i)) < 2 ^ (64 - 7 * i) ∧ (0 < i → 0 < valW (bs.take (widthF i bs - i)))
  | [], i, hi, h => absurd rfl h
  | c :: r, i, hi, h => by
    have hc := u8_lt c
    simp only [widthF] at h ⊢
    by_cases h9 : i = 9 ∧ c.toNat ≠ 1
    · rw [if_pos h9] at h; exact absurd rfl h
    rw [if_neg h9] at h ⊢
    by_cases h1 : c.toNat < 128
    · rw [if_pos h1] at h ⊢
      by_cases h2 : c.toNat = 0 ∧ 0 < i
      · rw [if_pos h2] at h; exact absurd rfl h
      rw [if_neg h2]
      rw [show i + 1 - i = 1 by omega, List.take_succ_cons, List.take_zero]
      have hv : valW [c] = c.toNat := by simp only [valW]; omega
      rw [hv]
      refine ⟨by omega, by simp, ?_, ?_, fun hp => Nat.pos_of_ne_zero fun e => h2 ⟨e, hp⟩⟩
      · obtain ⟨k, hk⟩ : ∃ k, 10 - i = k + 1 := ⟨9 - i, by omega⟩
        rw [hk]
        simp only [numF]
        rw [if_pos h1]
        congr 1
        apply UInt8.toNat_inj.1
        rw [Q0R (by omega)]
      · by_cases e9 : i = 9
        · subst e9
          have : c.toNat = 1 := Decidable.byContradiction fun e => h9 ⟨rfl, e⟩
          rw [this]; decide
        · have : 2 ^ 7 ≤ 2 ^ (64 - 7 * i) := Nat.pow_le_pow_right (by decide) (by omega)
          omega
    · rw [if_neg h1] at h ⊢
      have hi9 : i ≠ 9 := fun e => h9 ⟨e, by omega⟩
      obtain ⟨q1, q2, q3, q4, q5⟩ := Q1n r (i + 1) (by omega) h
      have q5 := q5 (by omega)
      generalize hw : widthF (i + 1) r = w at *
      obtain ⟨m, hm⟩ : ∃ m, w - i = m + 1 := ⟨w - (i + 1), by omega⟩
      have hm' : w - (i + 1) = m := by omega
      rw [hm'] at q2 q3 q4 q5
      rw [hm, List.take_succ_cons]
      simp only [valW, List.length_cons]
      generalize valW (r.take m) = V at *
      have hp : 2 ^ (64 - 7 * i) = 2 ^ (64 - 7 * (i + 1)) * 128 := by
        rw [show (128 : Nat) = 2 ^ 7 from rfl, ← Nat.pow_add]
        congr 1; omega
      refine ⟨by omega, by omega, ?_, by omega, fun _ => by omega⟩
      obtain ⟨k, hk⟩ : ∃ k, 10 - i = k + 1 := ⟨9 - i, by omega⟩
      rw [hk]
      simp only [numF]
      rw [if_neg (by omega), show (c.toNat % 128 + 128 * V) / 128 = V by omega, show (c.toNat % 128 + 128 * V) % 128 + 128 = c.toNat by omega, show k = 10 - (i + 1) by omega, q3]
      congr 1
      apply UInt8.toNat_inj.1
      rw [Q0R hc]
theorem rd_back {bs r : List UInt8} {n : Nat} (h : rdNum bs = some (n, r)) : bs = numL n ++ r ∧ n < 18446744073709551616 := by
  unfold rdNum at h
  by_cases h0 : widthF 0 bs = 0
  · rw [if_pos h0] at h; cases h
  rw [if_neg h0] at h
  simp only [Option.some.injEq, Prod.mk.injEq] at h
  obtain ⟨q1, q2, q3, q4, _⟩ := Q1n bs 0 (by omega) h0
  simp only [Nat.sub_zero] at q2 q3 q4
  obtain ⟨h1, h2⟩ := h
  rw [h1] at q3 q4
  refine ⟨?_, by simpa using q4⟩
  unfold numL
  rw [q3, ← h2, List.take_append_drop]

theorem or128 (n : Nat) : IntKind.u8.wrap ((BitVec.ofInt (IntKind.bits .u8) (IntKind.u8.wrap (n : Int)) ||| BitVec.ofInt (IntKind.bits .u8) 128).toNat : Int) = ((UInt8.ofNat (n % 128 + 128)).toNat : Int) := by
  have key : ∀ m : Fin 256, (m.val ||| 128) = m.val % 128 + 128 := by decide +kernel
  have kk : (n % 256 ||| 128) = n % 256 % 128 + 128 := key ⟨n % 256, by omega⟩
  have h1 : IntKind.u8.wrap (n : Int) = ((n % 256 : Nat) : Int) := by rw [IntKind.wrap_u8]; omega
  rw [h1, show IntKind.bits .u8 = 8 from rfl, BitVec.toNat_or, BitVec.ofInt_natCast, BitVec.toNat_ofNat, show (BitVec.ofInt 8 128).toNat = 128 from rfl, Nat.mod_eq_of_lt (by omega), kk, Q0R (by omega), wu8 (by omega) (by omega)]
  omega
theorem and127 {x : Nat} (hx : x < 256) : IntKind.u8.wrap ((BitVec.ofInt (IntKind.bits .u8) (x : Int) &&& BitVec.ofInt (IntKind.bits .u8) 127).toNat : Int) = ((x % 128 : Nat) : Int) := by
  rw [show IntKind.bits .u8 = 8 from rfl, BitVec.toNat_and, BitVec.ofInt_natCast, BitVec.toNat_ofNat, show (BitVec.ofInt 8 127).toNat = 127 from rfl, Nat.mod_eq_of_lt (by omega), show (127 : Nat) = 2 ^ 7 - 1 from rfl, Nat.and_two_pow_sub_one_eq_mod, wu8 (by omega) (by omega)]
theorem Q4A {n x i : Nat} (hn : n < 128 ^ i) (hx : x * 128 ^ i < 18446744073709551616) (hn2 : n + x * 128 ^ i < 18446744073709551616) (hi : i ≤ 9) :
    IntKind.u64.wrap ((BitVec.ofInt (IntKind.bits .u64) (n : Int) ||| BitVec.ofInt (IntKind.bits .u64) (IntKind.u64.wrap ((x : Int) * 2 ^ (min (7 * i) (IntKind.bits .u64))))).toNat : Int) = ((n + x * 128 ^ i : Nat) : Int) := by
  have hp : (128 : Nat) ^ i = 2 ^ (7 * i) := by rw [show (128 : Nat) = 2 ^ 7 from rfl, ← Nat.pow_mul]
  rw [hp] at hn hx hn2 ⊢
  have e1 : IntKind.u64.wrap ((x : Int) * 2 ^ (min (7 * i) (IntKind.bits .u64))) = ((x * 2 ^ (7 * i) : Nat) : Int) := by
    rw [show min (7 * i) (IntKind.bits .u64) = 7 * i by rw [show IntKind.bits .u64 = 64 from rfl]; omega]
    have : (x : Int) * 2 ^ (7 * i) = ((x * 2 ^ (7 * i) : Nat) : Int) := by rw [Int.natCast_mul, Int.natCast_pow]; rfl
    rw [this, wu64 (by omega) (by omega)]
  rw [e1, show IntKind.bits .u64 = 64 from rfl, BitVec.toNat_or, BitVec.ofInt_natCast, BitVec.ofInt_natCast, BitVec.toNat_ofNat, BitVec.toNat_ofNat, Nat.mod_eq_of_lt (by omega), Nat.mod_eq_of_lt (by omega)]
  have h2 := Nat.shiftLeft_add_eq_or_of_lt (i := 7 * i) (b := n) hn x
  rw [Nat.shiftLeft_eq] at h2
  rw [Nat.or_comm, ← h2, wu64 (by omega) (by omega)]
  omega
theorem Q2X : ∀ (l : List UInt8) (c : UInt8), valW (l ++ [c]) = valW l + c.toNat % 128 * 128 ^ l.length
  | [], c => by simp [valW]
  | a :: r, c => by
    simp only [List.cons_append, valW, Q2X r c, List.length_cons, Nat.pow_succ]
    rw [Nat.mul_add, ← Nat.mul_assoc 128, Nat.mul_comm 128 (c.toNat % 128), Nat.mul_assoc (c.toNat % 128), Nat.mul_comm 128 (128 ^ r.length)]
    omega
theorem valW_lt : ∀ (l : List UInt8), valW l < 128 ^ l.length
  | [] => by simp [valW]
  | a :: r => by
    have := valW_lt r
    simp only [valW, List.length_cons, Nat.pow_succ]
    omega
theorem Q1w : ∀ (l r : List UInt8), valW l ≤ valW (l ++ r)
  | [], r => Nat.zero_le _
  | a :: l, r => by
    have := Q1w l r
    simp only [List.cons_append, valW]
    omega
end Go.Mx
set_option maxRecDepth 20000
namespace Go.Proofs.Ytoempemllkebkaa.W
open Go Go.Mx Go.Proofs
theorem follows : Try.prog.follows .mixedOrders = true := by kernel_rfl
def wClone.M (a4 : Option Addr) (a5 a6 : Nat) (R : RW) (w : World) : Prop :=
 bif Option.isNone a4 then (
 R (.slice none 0 0) w) else (
 thenW (w.alloc (.cells #[] 5)) fun a7 =>
 ∃ (a0 : Option Addr) (a3 a1 : Nat) (a2 : World), (Builtin.append_ #[25, 25] 25 #[.slice (some (blk w.heap.size)) 0 0, .slice a4 a5 a6]).run Try.prog a7 = .ok (.slice a0 a3 a1) a2 ∧
 R (.slice a0 a3 a1) a2)

theorem wClone.ok (a1 : Option Addr) (a0 a2 : Nat) {R : RW} {w : World} (h : wClone.M a1 a0 a2 R w) : Calls Try.prog 57 #[.slice a1 a0 a2] w fun e w' => ∃ v, e = .returned v ∧ R v w' :=
  Q09 follows (H := []) (args := [.slice a1 a0 a2]) (cast (by kernel_rfl) h)

def wNum.M (aj : Option Addr) (al ai : Nat) (n2 : Int) (R : RW) (w : World) : Prop :=
 Calls Try.prog 57 #[.slice aj al ai] w fun am ak => ∃ (a5 : Option Addr) (a3 a4 : Nat), am = .returned (.slice a5 a3 a4) ∧
 ∃ (I0 : Nat → List Value → World → Prop) (m8 : Nat), I0 m8 [.int .u64 n2, .slice a5 a3 a4] ak ∧ ∀ (m9 : Nat) (a6 : World) (n6 : Int) (a2 : Option Addr) (a0 a1 : Nat), I0 m9 [.int .u64 n6, .slice a2 a0 a1] a6 →
 bif decide (n6 ≥ 128) then (
 thenW (a6.alloc (.cells #[.int .u8 (IntKind.u8.wrap ((BitVec.ofInt (IntKind.bits .u8) (IntKind.u8.wrap n6) ||| BitVec.ofInt (IntKind.bits .u8) 128).toNat))] 5)) fun af =>
 ∃ (ac : Option Addr) (a9 ad : Nat) (a8 : World), (Builtin.append_ #[25, 25] 25 #[.slice a2 a0 a1, .slice (some (blk a6.heap.size)) 1 1]).run Try.prog af = .ok (.slice ac a9 ad) a8 ∧
 0 ≤ (7 : Int) ∧
 ∃ ah, ah < m9 ∧ I0 ah [.int .u64 (Int.fdiv n6 (2 ^ (min (Int.toNat 7) (IntKind.bits .u64)))), .slice ac a9 ad] a8) else (
 thenW (a6.alloc (.cells #[.int .u8 (IntKind.u8.wrap n6)] 5)) fun ag =>
 ∃ (a7 : Option Addr) (ae aa : Nat) (ab : World), (Builtin.append_ #[25, 25] 25 #[.slice a2 a0 a1, .slice (some (blk a6.heap.size)) 1 1]).run Try.prog ag = .ok (.slice a7 ae aa) ab ∧
 R (.slice a7 ae aa) ab)

theorem wNum.ok (a0 : Option Addr) (a1 a2 : Nat) (n2 : Int) {R : RW} {w : World} (h : wNum.M a0 a1 a2 n2 R w) : Calls Try.prog 26 #[.slice a0 a1 a2, .int .u64 n2] w fun e w' => ∃ v, e = .returned v ∧ R v w' :=
  Q09 follows (H := [(0, [], [(1, (.one (.int .u64))), (5, (.one .slice))])]) (args := [.slice a0 a1 a2, .int .u64 n2]) (cast (by kernel_rfl) h)

def wRead.M (a1 : Option Addr) (a2 a3 : Nat) (R : RW) (w : World) : Prop :=
 thenW (w.alloc (.cells #[.slice a1 a2 a3, .int .i64 0] 100)) fun a0 =>
 R (.pointer (some (blk w.heap.size))) a0

theorem wRead.ok (a0 : Option Addr) (a1 a2 : Nat) {R : RW} {w : World} (h : wRead.M a0 a1 a2 R w) : Calls Try.prog 33 #[.slice a0 a1 a2] w fun e w' => ∃ v, e = .returned v ∧ R v w' :=
  Q09 follows (H := []) (args := [.slice a0 a1 a2]) (cast (by kernel_rfl) h)

def wOk.M (r1 : Option Addr) (R : RW) (w : World) : Prop :=
 bif !(Option.isNone r1) then (
 r1.elim False fun a2 =>
 ∃ (k3 : Int), w.cell? (a2.add 1) = some (.int .i64 k3) ∧
 R (.bool (k3 == 0)) w) else (
 R (.bool false) w)

theorem wOk.ok (r1 : Option Addr) {R : RW} {w : World} (h : wOk.M r1 R w) : Calls Try.prog 72 #[.pointer r1] w fun e w' => ∃ v, e = .returned v ∧ R v w' :=
  Q09 follows (H := []) (args := [.pointer r1]) (cast (by kernel_rfl) h)

def wFail.M (r1 : Option Addr) (k2 : Int) (R : RW) (w : World) : Prop :=
 r1.elim False fun a3 =>
 Q01 w ((a3.add 0).add 0) ∧
 thenW (w.setCell ((a3.add 0).add 0) (.slice none 0 0)) fun a0 =>
 r1.elim False fun a5 =>
 Q01 a0 ((a5.add 1).add 0) ∧
 thenW (a0.setCell ((a5.add 1).add 0) (.int .i64 k2)) fun a1 =>
 R (.tuple #[]) a1

theorem wFail.ok (r1 : Option Addr) (k2 : Int) {R : RW} {w : World} (h : wFail.M r1 k2 R w) : Calls Try.prog 74 #[.pointer r1, .int .i64 k2] w fun e w' => ∃ v, e = .returned v ∧ R v w' :=
  Q09 follows (H := []) (args := [.pointer r1, .int .i64 k2]) (cast (by kernel_rfl) h)

def wWidth.M (r1 : Option Addr) (R : RW) (w : World) : Prop :=
 r1.elim False fun a2 =>
 ∃ (a3 : Option Addr) (a1 a6 : Nat), w.cell? (a2.add 0) = some (.slice a3 a1 a6) ∧
 ∃ (I0 : Nat → List Value → World → Prop) (m5 : Nat), I0 m5 [.int .i64 0] w ∧ ∀ (m6 : Nat) (a0 : World) (t4 : Int), I0 m6 [.int .i64 t4] a0 →
 bif decide (t4 < (a1 : Int)) then (
 a3.elim False fun a8 =>
 0 ≤ (t4 : Int) ∧ (t4 : Int) < (a1 : Int) ∧
 ∃ (x9 : Int), a0.cell? (a8.add (Int.toNat t4 * 1)) = some (.int .u8 x9) ∧
 bif t4 == 9 then (
 bif x9 != 1 then (
 R (.int .i64 0) a0) else (
 bif decide (x9 < 128) then (
 bif x9 == 0 then (
 bif decide (t4 > 0) then (
 R (.int .i64 0) a0) else (
 R (.int .i64 (IntKind.i64.wrap (t4 + 1))) a0)) else (
 R (.int .i64 (IntKind.i64.wrap (t4 + 1))) a0)) else (
 ∃ a4, a4 < m6 ∧ I0 a4 [.int .i64 (IntKind.i64.wrap (t4 + 1))] a0))) else (
 bif decide (x9 < 128) then (
 bif x9 == 0 then (
 bif decide (t4 > 0) then (
 R (.int .i64 0) a0) else (
 R (.int .i64 (IntKind.i64.wrap (t4 + 1))) a0)) else (
 R (.int .i64 (IntKind.i64.wrap (t4 + 1))) a0)) else (
 ∃ a5, a5 < m6 ∧ I0 a5 [.int .i64 (IntKind.i64.wrap (t4 + 1))] a0))) else (
 R (.int .i64 0) a0)

theorem wWidth.ok (r1 : Option Addr) {R : RW} {w : World} (h : wWidth.M r1 R w) : Calls Try.prog 87 #[.pointer r1] w fun e w' => ∃ v, e = .returned v ∧ R v w' :=
  Q09 follows (H := [(0, [8, 9], [(10, (.one (.int .i64)))])]) (args := [.pointer r1]) (cast (by kernel_rfl) h)

def wRNum.M (r1 : Option Addr) (R : RW) (w : World) : Prop :=
 Calls Try.prog 72 #[.pointer r1] w fun ak ab => ∃ (ad : Bool), ak = .returned (.bool ad) ∧
 bif !ad then (
 R (.int .u64 0) ab) else (
 Calls Try.prog 87 #[.pointer r1] ab fun ap ae => ∃ (a0 : Int), ap = .returned (.int .i64 a0) ∧
 bif a0 == 0 then (
 Calls Try.prog 74 #[.pointer r1, .int .i64 4] ae fun an aj => an = .returned (.tuple #[]) ∧
 R (.int .u64 0) aj) else (
 ∃ (I0 : Nat → List Value → World → Prop) (ai : Nat), I0 ai [.int .u64 0, .int .i64 0] ae ∧ ∀ (ac : Nat) (a1 : World) (aa a2 : Int), I0 ac [.int .u64 aa, .int .i64 a2] a1 →
 bif decide (a2 < a0) then (
 r1.elim False fun ao =>
 ∃ (a7 : Option Addr) (a6 a9 : Nat), a1.cell? (ao.add 0) = some (.slice a7 a6 a9) ∧
 a7.elim False fun al =>
 0 ≤ (a2 : Int) ∧ (a2 : Int) < (a6 : Int) ∧
 ∃ (af : Int), a1.cell? (al.add (Int.toNat a2 * 1)) = some (.int .u8 af) ∧
 0 ≤ ((IntKind.i64.wrap ((7 : Int) * a2)) : Int) ∧
 ∃ ag, ag < ac ∧ I0 ag [.int .u64 (IntKind.u64.wrap ((BitVec.ofInt (IntKind.bits .u64) aa ||| BitVec.ofInt (IntKind.bits .u64) (IntKind.u64.wrap ((IntKind.u64.wrap (IntKind.u8.wrap ((BitVec.ofInt (IntKind.bits .u8) af &&& BitVec.ofInt (IntKind.bits .u8) 127).toNat))) * 2 ^ (min (Int.toNat (IntKind.i64.wrap ((7 : Int) * a2))) (IntKind.bits .u64))))).toNat)), .int .i64 (IntKind.i64.wrap (a2 + 1))] a1) else (
 r1.elim False fun am =>
 ∃ (a5 : Option Addr) (a3 a4 : Nat), a1.cell? (am.add 0) = some (.slice a5 a3 a4) ∧
 (0 : Int) ≤ (a0 : Int) ∧ (a0 : Int) ≤ (a3 : Int) ∧
 r1.elim False fun ah =>
 Q01 a1 ((ah.add 0).add 0) ∧
 thenW (a1.setCell ((ah.add 0).add 0) (.slice (if a4 = Int.toNat a0 then a5 else Option.map (fun z : Addr => z.add ((Int.toNat a0) * 1)) a5) (a3 - (Int.toNat a0)) (a4 - (Int.toNat a0)))) fun a8 =>
 R (.int .u64 aa) a8)))

theorem wRNum.ok (r1 : Option Addr) {R : RW} {w : World} (h : wRNum.M r1 R w) : Calls Try.prog 71 #[.pointer r1] w fun e w' => ∃ v, e = .returned v ∧ R v w' :=
  Q09 follows (H := [(0, [0, 3, 14], [(2, (.one (.int .u64))), (15, (.one (.int .i64)))])]) (args := [.pointer r1]) (cast (by kernel_rfl) h)

def wCount.M (r1 : Option Addr) (a2 : Int) (R : RW) (w : World) : Prop :=
 Calls Try.prog 71 #[.pointer r1] w fun ac af => ∃ (a0 : Int), ac = .returned (.int .u64 a0) ∧
 Calls Try.prog 72 #[.pointer r1] af fun ad a9 => ∃ (ab : Bool), ad = .returned (.bool ab) ∧
 bif !ab then (
 R (.int .i64 0) a9) else (
 bif decide (a2 < 0) then (
 Calls Try.prog 74 #[.pointer r1, .int .i64 3] a9 fun ae a7 => ae = .returned (.tuple #[]) ∧
 R (.int .i64 0) a7) else (
 Calls Try.prog 73 #[.int .u64 a0] a9 fun a6 a3 => ∃ (a1 : Int), a6 = .returned (.int .i64 a1) ∧
 bif decide (a1 > 62) then (
 Calls Try.prog 74 #[.pointer r1, .int .i64 3] a3 fun a5 aa => a5 = .returned (.tuple #[]) ∧
 R (.int .i64 0) aa) else (
 bif decide ((IntKind.i64.wrap a0) > a2) then (
 Calls Try.prog 74 #[.pointer r1, .int .i64 3] a3 fun a8 a4 => a8 = .returned (.tuple #[]) ∧
 R (.int .i64 0) a4) else (
 R (.int .i64 (IntKind.i64.wrap a0)) a3))))

theorem wCount.ok (r1 : Option Addr) (a0 : Int) {R : RW} {w : World} (h : wCount.M r1 a0 R w) : Calls Try.prog 54 #[.pointer r1, .int .i64 a0] w fun e w' => ∃ v, e = .returned v ∧ R v w' :=
  Q09 follows (H := []) (args := [.pointer r1, .int .i64 a0]) (cast (by kernel_rfl) h)

def wDone.M (r1 : Option Addr) (R : RW) (w : World) : Prop :=
 bif Option.isNone r1 then (
 R (.int .i64 4) w) else (
 Calls Try.prog 72 #[.pointer r1] w fun a6 a0 => ∃ (a1 : Bool), a6 = .returned (.bool a1) ∧
 bif a1 then (
 r1.elim False fun a5 =>
 ∃ (a8 : Option Addr) (a3 a4 : Nat), a0.cell? (a5.add 0) = some (.slice a8 a3 a4) ∧
 bif decide ((a3 : Int) > 0) then (
 R (.int .i64 4) a0) else (
 r1.elim False fun a7 =>
 ∃ (k8 : Int), a0.cell? (a7.add 1) = some (.int .i64 k8) ∧
 R (.int .i64 k8) a0)) else (
 r1.elim False fun a9 =>
 ∃ (a2 : Int), a0.cell? (a9.add 1) = some (.int .i64 a2) ∧
 R (.int .i64 a2) a0))

theorem wDone.ok (r1 : Option Addr) {R : RW} {w : World} (h : wDone.M r1 R w) : Calls Try.prog 56 #[.pointer r1] w fun e w' => ∃ v, e = .returned v ∧ R v w' :=
  Q09 follows (H := []) (args := [.pointer r1]) (cast (by kernel_rfl) h)

theorem infU8 : (Try.prog.info? 5).map (fun i => (i.zero, i.size, i.bytes)) = some (some (.int .u8 0), 1, 1) := by kernel_rfl
def GivesW (v : Value) (Q : World → Prop) (e : Ending) (w' : World) : Prop := e = .returned v ∧ Q w'

structure OwnB (N : Nat) (w : World) (a : Option Addr) (c : Nat) (bs : List UInt8) : Prop where
  own : w.ownsRow 0 5 1 (.slice a bs.length c) bs.length (bytesV bs)
  fr : ∀ ad, a = some ad → N ≤ ad.block ∧ ad.block < w.heap.size
section
variable {w w' : World} {a : Option Addr} {c N : Nat} {bs : List UInt8}
theorem OwnB.row (h : OwnB N w a c bs) : RowAt w a (bytesV bs) := by
  obtain ⟨_, _, hv, hr⟩ := RowAt.of_owns h.own
  cases hv; exact hr
theorem OwnB.le (h : OwnB N w a c bs) : bs.length ≤ c := (Q0Q h.own).1
theorem OwnB.ext {m : Nat → Prop} (h : OwnB N w a c bs) (k : Ext m w w') (hm : ∀ ad, a = some ad → ¬ m ad.block) : OwnB N w' a c bs := by
  refine ⟨⟨h.own.1, ?_⟩, fun ad ha => ⟨(h.fr ad ha).1, Nat.lt_of_lt_of_le (h.fr ad ha).2 k.size⟩⟩
  rcases h.own.2 with h2 | ⟨g, cap, cur, hv, hb, hg, hr⟩
  · exact .inl h2
  · have ha : a = some ⟨g, 0, none⟩ := by cases hv; rfl
    exact .inr ⟨g, cap, cur, hv, hb, k.get hg (hm _ ha), hr⟩
theorem OwnB.no (h : OwnB N w a c bs) (k : Ext no w w') : OwnB N w' a c bs := h.ext k fun _ _ h => h
theorem OwnB.nil (N : Nat) (w : World) : OwnB N w none 0 [] := ⟨⟨by simp [bytesV], .inl ⟨rfl, rfl⟩⟩, fun ad ha => by cases ha⟩
theorem OwnB.append {t ty : TypeId} (ht : Try.prog.underlying t = some (.slice 5)) (h : OwnB N w a c bs) (hN : N ≤ w.heap.size) {xa : Option Addr} {xc : Nat} {xs : List UInt8} (hx : RowAt w xa (bytesV xs)) (hl : bs.length + xs.length ≤ 100000000) :
    ∃ a' c' w', (Builtin.append_ #[t, t] ty #[.slice a bs.length c, .slice xa xs.length xc]).run Try.prog w = .ok (.slice a' (bs ++ xs).length c') w' ∧ OwnB N w' a' c' (bs ++ xs) ∧ Ext (fun b => N ≤ b) w w' := by
  obtain ⟨i, hi, hz, hs, hb⟩ := info_of infU8
  obtain ⟨a', c', w', hr, ho, hg, hbk⟩ := Q0Z (ty := ty) ht hi hz hs hb rfl (by decide) h.own (xa := xa) (m := xs.length) (c := xc) (by rw [Q0M]; omega) hx (Q2A xs) (by omega) (by omega)
  have hrow : ∀ q, (Value.slice a bs.length c).ownBlock = some q → N ≤ q := fun q hq => by
    cases a with
    | none => simp [Value.ownBlock] at hq
    | some ad => simp only [Value.ownBlock, Option.some.injEq] at hq; subst hq; exact (h.fr ad rfl).1
  refine ⟨a', c', w', by rw [List.length_append]; exact hr, ⟨by rw [List.length_append, show bytesV (bs ++ xs) = bytesV bs ++ bytesV xs by simp [bytesV]]; exact ho, fun ad ha => ⟨?_, (Q0Q ho).2 ad ha⟩⟩, Ext.of_grown hg fun q hq => .inl (hrow q hq)⟩
  subst ha
  rcases hbk with hq | hq
  · exact hrow _ hq.symm
  · simp only [Value.ownBlock, Option.some.injEq] at hq; omega
theorem clone_spec (h : RowAt w a (bytesV bs)) (hl : bs.length ≤ 1000000) :
    Calls Try.prog 57 #[.slice a bs.length c] w (fun e w' => ∃ a' c', e = .returned (.slice a' bs.length c') ∧ OwnB w.heap.size w' a' c' bs ∧ Ext no w w') := by
  refine (wClone.ok a bs.length c (R := fun v w' => ∃ a' c', v = (.slice a' bs.length c') ∧ OwnB w.heap.size w' a' c' bs ∧ Ext no w w') ?_).mono fun e w' ⟨v, he, a', c', hv, hw⟩ => ⟨a', c', by rw [he, hv], hw⟩
  unfold wClone.M
  cases a with
  | none =>
    have : bs = [] := by simpa [bytesV] using h.none_nil
    subst this
    exact ⟨none, 0, rfl, OwnB.nil _ _, Ext.refl _ _⟩
  | some ad =>
    rw [Option.isNone_some, cond_false]
    refine Q00 fun w2 hw2 => ?_
    subst hw2
    obtain ⟨i, hi, hz, hs, hb⟩ := info_of infU8
    obtain ⟨a', c', w', hr, h1, h2, h3, h4, h5⟩ := Q3P (c := c) (m := bs.length) (ty := 25) Try.underlying25 hi hz hs hb rfl (Q0M bs) h (Q2A bs) (by omega) (by omega)
    exact ⟨a', bs.length, c', w', hr, a', c', rfl, ⟨h2, h5⟩, h4⟩
theorem Num_spec (h : RowAt w a (bytesV bs)) (hl : bs.length ≤ 1000000) {n : Nat} (hn : n < 18446744073709551616) :
    Calls Try.prog 26 #[.slice a bs.length c, .int .u64 n] w (fun e w' => ∃ a' c', e = .returned (.slice a' (bs ++ numL n).length c') ∧ OwnB w.heap.size w' a' c' (bs ++ numL n) ∧ Ext no w w') := by
  refine (wNum.ok _ _ _ _ (R := fun v w' => ∃ a' c', v = (.slice a' (bs ++ numL n).length c') ∧ OwnB w.heap.size w' a' c' (bs ++ numL n) ∧ Ext no w w') ?_).mono fun e w' ⟨v, he, a', c', hv, hw⟩ => ⟨a', c', by rw [he, hv], hw⟩
  unfold wNum.M
  refine (clone_spec h hl).mono fun e w5 ⟨a5, c5, he, ho5, hx5⟩ => ⟨a5, _, c5, he, ?_⟩
  refine ⟨fun k vs w1 => ∃ (m : Nat) (l : List UInt8) (a1 : Option Addr) (c1 : Nat), vs = [.int .u64 m, .slice a1 l.length c1] ∧ m < 128 ^ k ∧ m < 18446744073709551616 ∧ 0 < k ∧ k ≤ 10 ∧ l ++ numF k m = bs ++ numL n ∧ l.length + k ≤ bs.length + 10 ∧ OwnB w.heap.size w1 a1 c1 l ∧ Ext no w w1, 10,
    ⟨n, bs, a5, c5, rfl, by omega, hn, by decide, by decide, rfl, by omega, ho5, hx5⟩, ?_⟩
  rintro k w1 m0 a0 n0 c0 ⟨m, l, a1, c1, hvs, hm, hm64, hk0, hk10, hl2, hlen, ho, hx⟩
  simp only [List.cons.injEq, Value.int.injEq, Value.slice.injEq, true_and, and_true] at hvs
  obtain ⟨rfl, rfl, rfl, rfl⟩ := hvs
  obtain ⟨k, rfl⟩ : ∃ q, k = q + 1 := ⟨k - 1, by omega⟩
  simp only [numF] at hl2
  by_cases h1 : m < 128
  · rw [show decide ((m : Int) ≥ 128) = false by simp; omega, cond_false]
    rw [if_pos h1] at hl2
    refine Q00 fun w15 h15 => ?_
    have e15 : Ext no w1 w15 := by subst h15; exact (Ext.refl _ _).alloc _
    have hv : IntKind.u8.wrap (m : Int) = ((UInt8.ofNat m).toNat : Int) := by rw [wu8 (by omega) (by omega), Q0R (by omega)]
    have hb15 : Blk w15 w1.heap.size 5 (bytesV [UInt8.ofNat m]) := by subst h15; rw [hv]; exact Blk.new _ _ _
    obtain ⟨a', c', w17, hr, ho17, hx17⟩ := (ho.no e15).append (t := 25) (ty := 25) Try.underlying25 (Nat.le_trans hx.size e15.size) (xc := 1) (RowAt.of_blk hb15) (by simp; omega)
    refine ⟨a', _, c', w17, hr, a', c', by rw [hl2], by rw [← hl2]; exact ho17, (hx.trans e15).then hx17 fun b hb => .inr hb⟩
  · rw [show decide ((m : Int) ≥ 128) = true by simp; omega, cond_true]
    rw [if_neg h1] at hl2
    refine Q00 fun w15 h15 => ?_
    have e15 : Ext no w1 w15 := by subst h15; exact (Ext.refl _ _).alloc _
    have hb15 : Blk w15 w1.heap.size 5 (bytesV [UInt8.ofNat (m % 128 + 128)]) := by subst h15; rw [or128]; exact Blk.new _ _ _
    obtain ⟨a', c', w17, hr, ho17, hx17⟩ := (ho.no e15).append (t := 25) (ty := 25) Try.underlying25 (Nat.le_trans hx.size e15.size) (xc := 1) (RowAt.of_blk hb15) (by simp; omega)
    have hdiv : Int.fdiv (m : Int) (2 ^ (min (Int.toNat 7) (IntKind.bits .u64))) = ((m / 128 : Nat) : Int) := by
      rw [show min (Int.toNat 7) (IntKind.bits .u64) = 7 from rfl, Int.fdiv_eq_ediv_of_nonneg _ (by decide)]; omega
    have hkk : 0 < k := Nat.pos_of_ne_zero fun e => by subst e; simp at hm; omega
    refine ⟨a', _, c', w17, hr, by decide, k, by omega, m / 128, l ++ [UInt8.ofNat (m % 128 + 128)], a', c', by rw [hdiv], by rw [Nat.pow_succ] at hm; omega, by omega, hkk, by omega, by rw [← hl2]; simp, by simp; omega, ho17, (hx.trans e15).then hx17 fun b hb => .inr hb⟩

/-! ### a reader -/
def Rd (w : World) (p : Nat) (bs : List UInt8) (k : Int) : Prop :=
  ∃ a c, Blk w p 100 [.slice a bs.length c, .int .i64 k] ∧ bs.length ≤ c ∧ RowAt w a (bytesV bs) ∧ (bytesV bs ≠ [] → ∀ ad, a = some ad → ad.block < p)
theorem Rd.ext {m : Nat → Prop} {p : Nat} {k : Int} (h : Rd w p bs k) (e : Ext m w w') (hm : ∀ b, b < w.heap.size → ¬ m b) : Rd w' p bs k := by
  obtain ⟨a, c, h1, h2, h3, h4⟩ := h
  exact ⟨a, c, h1.ext e (hm _ h1.lt), h2, h3.ext' e (fun h0 ad ha hb => hm _ (h3.lt h0 ha) hb), h4⟩
theorem Rd.no {p : Nat} {k : Int} (h : Rd w p bs k) (e : Ext no w w') : Rd w' p bs k := h.ext e fun _ _ h => h
theorem Rd.up {m : Nat → Prop} {p : Nat} {k : Int} (h : Rd w p bs k) (e : Ext m w w') (hm : ∀ b, m b → p < b) : Rd w' p bs k := by
  obtain ⟨a, c, h1, h2, h3, h4⟩ := h
  exact ⟨a, c, h1.ext e (fun h => by have := hm _ h; omega), h2, h3.ext' e (fun h0 ad ha hb => by have := hm _ hb; have := h4 h0 ad ha; omega), h4⟩
theorem Rd.lt {p : Nat} {k : Int} (h : Rd w p bs k) : p < w.heap.size := by obtain ⟨a, c, h1, _⟩ := h; exact h1.lt
theorem Read_spec (h : RowAt w a (bytesV bs)) (hc : bs.length ≤ c) :
    Calls Try.prog 33 #[.slice a bs.length c] w (fun e w' => ∃ p, e = .returned (.pointer (some (blk p))) ∧ Rd w' p bs 0 ∧ w.heap.size ≤ p ∧ Ext no w w') := by
  refine (wRead.ok _ _ _ (R := fun v w' => ∃ p, v = (.pointer (some (blk p))) ∧ Rd w' p bs 0 ∧ w.heap.size ≤ p ∧ Ext no w w') ?_).mono fun e w' ⟨v, he, p, hv, hw⟩ => ⟨p, by rw [he, hv], hw⟩
  unfold wRead.M
  refine Q00 fun w2 h2 => ?_
  have e2 : Ext no w w2 := by subst h2; exact (Ext.refl _ _).alloc _
  have hb : Blk w2 w.heap.size 100 [.slice a bs.length c, .int .i64 0] := by subst h2; exact Blk.new _ _ _
  exact ⟨_, rfl, ⟨a, c, hb, hc, h.no e2, fun h0 ad ha => h.lt h0 ha⟩, Nat.le_refl _, e2⟩
variable {p : Nat} {k : Int}
theorem ok_spec (h : Rd w p bs k) : Calls Try.prog 72 #[.pointer (some (blk p))] w (GivesW (.bool (k == 0)) fun w' => w' = w) := by
  refine (wOk.ok _ (R := fun v w' => v = .bool (k == 0) ∧ w' = w) ?_).mono fun e w' ⟨v, he, hv, hw⟩ => ⟨by rw [he, hv], hw⟩
  unfold wOk.M
  obtain ⟨a, c, h1, _⟩ := h
  exact ⟨_, h1.cella (i := 1) rfl, rfl, rfl⟩
theorem fail_spec (h : Rd w p bs k) (j : Int) : Calls Try.prog 74 #[.pointer (some (blk p)), .int .i64 j] w (GivesW (.tuple #[]) fun w' => Rd w' p [] j ∧ Ext (fun b => b = p) w w') := by
  refine (wFail.ok _ _ (R := fun v w' => v = .tuple #[] ∧ Rd w' p [] j ∧ Ext (fun b => b = p) w w') ?_).mono fun e w' ⟨v, he, hv, hw⟩ => ⟨by rw [he, hv], hw⟩
  unfold wFail.M
  obtain ⟨a, c, h1, _⟩ := h
  refine ⟨h1.cana (i := 0) rfl, Q00 fun w4 h4 => ?_⟩
  have hb4 := h1.seta 0 (.slice none 0 0)
  have e4 : Ext (fun b => b = p) w w4 := by subst h4; exact (Ext.refl (fun b => b = p) w).setCell (a := ((blk p).add 0).add 0) (.inl rfl) _
  rw [add_zero] at h4
  rw [← h4] at hb4
  refine ⟨hb4.cana (i := 1) rfl, Q00 fun w6 h6 => ?_⟩
  rw [add_zero] at h6
  have hb6 := hb4.seta 1 (.int .i64 j)
  rw [← h6] at hb6
  have e6 : Ext (fun b => b = p) w4 w6 := by subst h6; exact (Ext.refl (fun b => b = p) w4).setCell (a := (blk p).add 1) (.inl (by rw [add_blk])) _
  exact ⟨rfl, ⟨none, 0, hb6, Nat.le_refl _, RowAt.nil _ _, fun h0 => absurd rfl h0⟩, e4.trans e6⟩
theorem Q3T (h : Rd w p bs k) (hl : bs.length < 1000000) : Calls Try.prog 87 #[.pointer (some (blk p))] w (GivesW (.int .i64 (widthF 0 bs)) fun w' => w' = w) := by
  refine (wWidth.ok _ (R := fun v w' => v = .int .i64 (widthF 0 bs) ∧ w' = w) ?_).mono fun e w' ⟨v, he, hv, hw⟩ => ⟨by rw [he, hv], hw⟩
  unfold wWidth.M
  obtain ⟨a, c, h1, h2, h3, h4⟩ := h
  refine ⟨a, bs.length, c, h1.cella (i := 0) rfl, ?_⟩
  refine ⟨fun j vs w1 => ∃ t : Nat, vs = [.int .i64 t] ∧ j + t = bs.length ∧ widthF t (bs.drop t) = widthF 0 bs ∧ w1 = w, bs.length, ⟨0, rfl, rfl, rfl, rfl⟩, ?_⟩
  rintro j w1 i ⟨t, hi, hk, hf, rfl⟩
  simp only [List.cons.injEq, Value.int.injEq, true_and, and_true] at hi
  subst hi
  cases j with
  | zero =>
    obtain rfl : t = bs.length := by omega
    rw [show decide ((bs.length : Int) < (bs.length : Int)) = false by simp, cond_false]
    rw [List.drop_length] at hf
    exact ⟨by rw [← hf]; rfl, rfl⟩
  | succ j =>
    have ht : t < bs.length := by omega
    rw [show decide ((t : Int) < (bs.length : Int)) = true by simp; omega, cond_true]
    obtain ⟨ad, rfl⟩ := h3.addr (by intro e; rw [bytesV, List.map_eq_nil_iff] at e; subst e; simp at ht)
    rw [List.drop_eq_getElem_cons ht] at hf
    simp only [widthF] at hf
    have hw1 : IntKind.i64.wrap ((t : Int) + 1) = ((t + 1 : Nat) : Int) := by rw [w64 (by omega) (by omega)]; rfl
    refine ⟨by omega, by omega, _, by rw [Int.toNat_natCast, Nat.mul_one]; exact h3.at_ (Q0P ht), ?_⟩
    have hc := u8_lt bs[t]
    rw [hw1]
    -- what is said where the byte is the last one
    have last : ∀ (q : Prop), ¬ (t = 9 ∧ bs[t].toNat ≠ 1) → bif decide ((bs[t].toNat : Int) < 128) then (bif (bs[t].toNat : Int) == 0 then (bif decide ((t : Int) > 0) then (Value.int .i64 0 = .int .i64 (widthF 0 bs) ∧ w1 = w1) else (Value.int .i64 ((t + 1 : Nat) : Int) = .int .i64 (widthF 0 bs) ∧ w1 = w1)) else (Value.int .i64 ((t + 1 : Nat) : Int) = .int .i64 (widthF 0 bs) ∧ w1 = w1)) else
        ∃ m, m < j + 1 ∧ ∃ t_1 : Nat, [Value.int .i64 ((t + 1 : Nat) : Int)] = [.int .i64 t_1] ∧ m + t_1 = bs.length ∧ widthF t_1 (bs.drop t_1) = widthF 0 bs ∧ w1 = w1 := fun _ hn => by
      rw [if_neg hn] at hf
      by_cases c1 : bs[t].toNat < 128
      · rw [if_pos c1] at hf
        rw [decide_eq_true (by omega : (bs[t].toNat : Int) < 128), cond_true]
        by_cases c2 : bs[t].toNat = 0
        · rw [beq_iff_eq.2 (by omega : (bs[t].toNat : Int) = 0), cond_true]
          by_cases c3 : 0 < t
          · rw [if_pos ⟨c2, c3⟩] at hf
            rw [decide_eq_true (by omega : (t : Int) > 0), cond_true]
            exact ⟨by rw [← hf]; rfl, rfl⟩
          · rw [if_neg (fun h => c3 h.2)] at hf
            rw [decide_eq_false (by omega : ¬ (t : Int) > 0), cond_false]
            exact ⟨by rw [← hf], rfl⟩
        · rw [if_neg (fun h => c2 h.1)] at hf
          rw [beq_eq_false_iff_ne.2 (by omega : (bs[t].toNat : Int) ≠ 0), cond_false]
          exact ⟨by rw [← hf], rfl⟩
      · rw [if_neg c1] at hf
        rw [decide_eq_false (by omega : ¬ (bs[t].toNat : Int) < 128), cond_false]
        exact ⟨j, by omega, t + 1, rfl, by omega, hf, rfl⟩
    by_cases c9 : t = 9
    · rw [beq_iff_eq.2 (by omega : (t : Int) = 9), cond_true]
      by_cases c8 : bs[t].toNat = 1
      · rw [show ((bs[t].toNat : Int) != 1) = false by simp; omega, cond_false]
        exact last True fun h => h.2 c8
      · rw [show ((bs[t].toNat : Int) != 1) = true by simp; omega, cond_true]
        rw [if_pos ⟨c9, c8⟩] at hf
        exact ⟨by rw [← hf]; rfl, rfl⟩
    · rw [beq_eq_false_iff_ne.2 (by omega : (t : Int) ≠ 9), cond_false]
      exact last True fun h => c9 h.1
end
end Go.Proofs.Ytoempemllkebkaa.W
namespace Go.Proofs.Ytoempemllkebkaa.W
open Go Go.Mx Go.Proofs
def bLen64.M (x1 : Int) (R : RW) (w : World) : Prop :=
 bif decide (x1 ≥ 4294967296) then (
 0 ≤ (32 : Int) ∧
 bif decide ((Int.fdiv x1 (2 ^ (min (Int.toNat 32) (IntKind.bits .u64)))) ≥ 65536) then (
 0 ≤ (16 : Int) ∧
 bif decide ((Int.fdiv (Int.fdiv x1 (2 ^ (min (Int.toNat 32) (IntKind.bits .u64)))) (2 ^ (min (Int.toNat 16) (IntKind.bits .u64)))) ≥ 256) then (
 0 ≤ (8 : Int) ∧
 0 ≤ ((IntKind.u8.wrap (Int.fdiv (Int.fdiv (Int.fdiv x1 (2 ^ (min (Int.toNat 32) (IntKind.bits .u64)))) (2 ^ (min (Int.toNat 16) (IntKind.bits .u64)))) (2 ^ (min (Int.toNat 8) (IntKind.bits .u64))))) : Int) ∧ ∃ b2, (ByteArray.mk #[0, 1, 2, 2, 3, 3, 3, 3, 4, 4, 4, 4, 4, 4, 4, 4, 5, 5, 5, 5, 5, 5, 5, 5, 5, 5, 5, 5, 5, 5, 5, 5, 6, 6, 6, 6, 6, 6, 6, 6, 6, 6, 6, 6, 6, 6, 6, 6, 6, 6, 6, 6, 6, 6, 6, 6, 6, 6, 6, 6, 6, 6, 6, 6, 7, 7, 7, 7, 7, 7, 7, 7, 7, 7, 7, 7, 7, 7, 7, 7, 7, 7, 7, 7, 7, 7, 7, 7, 7, 7, 7, 7, 7, 7, 7, 7, 7, 7, 7, 7, 7, 7, 7, 7, 7, 7, 7, 7, 7, 7, 7, 7, 7, 7, 7, 7, 7, 7, 7, 7, 7, 7, 7, 7, 7, 7, 7, 7, 8, 8, 8, 8, 8, 8, 8, 8, 8, 8, 8, 8, 8, 8, 8, 8, 8, 8, 8, 8, 8, 8, 8, 8, 8, 8, 8, 8, 8, 8, 8, 8, 8, 8, 8, 8, 8, 8, 8, 8, 8, 8, 8, 8, 8, 8, 8, 8, 8, 8, 8, 8, 8, 8, 8, 8, 8, 8, 8, 8, 8, 8, 8, 8, 8, 8, 8, 8, 8, 8, 8, 8, 8, 8, 8, 8, 8, 8, 8, 8, 8, 8, 8, 8, 8, 8, 8, 8, 8, 8, 8, 8, 8, 8, 8, 8, 8, 8, 8, 8, 8, 8, 8, 8, 8, 8, 8, 8, 8, 8, 8, 8, 8, 8, 8, 8, 8, 8, 8, 8, 8, 8, 8, 8, 8, 8, 8, 8])[Int.toNat (IntKind.u8.wrap (Int.fdiv (Int.fdiv (Int.fdiv x1 (2 ^ (min (Int.toNat 32) (IntKind.bits .u64)))) (2 ^ (min (Int.toNat 16) (IntKind.bits .u64)))) (2 ^ (min (Int.toNat 8) (IntKind.bits .u64)))))]? = some b2 ∧
 R (.int .i64 (IntKind.i64.wrap ((IntKind.i64.wrap ((IntKind.i64.wrap ((32 : Int) + 16)) + 8)) + (IntKind.i64.wrap (b2.toNat : Int))))) w) else (
 0 ≤ ((IntKind.u8.wrap (Int.fdiv (Int.fdiv x1 (2 ^ (min (Int.toNat 32) (IntKind.bits .u64)))) (2 ^ (min (Int.toNat 16) (IntKind.bits .u64))))) : Int) ∧ ∃ b3, (ByteArray.mk #[0, 1, 2, 2, 3, 3, 3, 3, 4, 4, 4, 4, 4, 4, 4, 4, 5, 5, 5, 5, 5, 5, 5, 5, 5, 5, 5, 5, 5, 5, 5, 5, 6, 6, 6, 6, 6, 6, 6, 6, 6, 6, 6, 6, 6, 6, 6, 6, 6, 6, 6, 6, 6, 6, 6, 6, 6, 6, 6, 6, 6, 6, 6, 6, 7, 7, 7, 7, 7, 7, 7, 7, 7, 7, 7, 7, 7, 7, 7, 7, 7, 7, 7, 7, 7, 7, 7, 7, 7, 7, 7, 7, 7, 7, 7, 7, 7, 7, 7, 7, 7, 7, 7, 7, 7, 7, 7, 7, 7, 7, 7, 7, 7, 7, 7, 7, 7, 7, 7, 7, 7, 7, 7, 7, 7, 7, 7, 7, 8, 8, 8, 8, 8, 8, 8, 8, 8, 8, 8, 8, 8, 8, 8, 8, 8, 8, 8, 8, 8, 8, 8, 8, 8, 8, 8, 8, 8, 8, 8, 8, 8, 8, 8, 8, 8, 8, 8, 8, 8, 8, 8, 8, 8, 8, 8, 8, 8, 8, 8, 8, 8, 8, 8, 8, 8, 8, 8, 8, 8, 8, 8, 8, 8, 8, 8, 8, 8, 8, 8, 8, 8, 8, 8, 8, 8, 8, 8, 8, 8, 8, 8, 8, 8, 8, 8, 8, 8, 8, 8, 8, 8, 8, 8, 8, 8, 8, 8, 8, 8, 8, 8, 8, 8, 8, 8, 8, 8, 8, 8, 8, 8, 8, 8, 8, 8, 8, 8, 8, 8, 8, 8, 8, 8, 8, 8, 8])[Int.toNat (IntKind.u8.wrap (Int.fdiv (Int.fdiv x1 (2 ^ (min (Int.toNat 32) (IntKind.bits .u64)))) (2 ^ (min (Int.toNat 16) (IntKind.bits .u64)))))]? = some b3 ∧
 R (.int .i64 (IntKind.i64.wrap ((IntKind.i64.wrap ((32 : Int) + 16)) + (IntKind.i64.wrap (b3.toNat : Int))))) w)) else (
 bif decide ((Int.fdiv x1 (2 ^ (min (Int.toNat 32) (IntKind.bits .u64)))) ≥ 256) then (
 0 ≤ (8 : Int) ∧
 0 ≤ ((IntKind.u8.wrap (Int.fdiv (Int.fdiv x1 (2 ^ (min (Int.toNat 32) (IntKind.bits .u64)))) (2 ^ (min (Int.toNat 8) (IntKind.bits .u64))))) : Int) ∧ ∃ b4, (ByteArray.mk #[0, 1, 2, 2, 3, 3, 3, 3, 4, 4, 4, 4, 4, 4, 4, 4, 5, 5, 5, 5, 5, 5, 5, 5, 5, 5, 5, 5, 5, 5, 5, 5, 6, 6, 6, 6, 6, 6, 6, 6, 6, 6, 6, 6, 6, 6, 6, 6, 6, 6, 6, 6, 6, 6, 6, 6, 6, 6, 6, 6, 6, 6, 6, 6, 7, 7, 7, 7, 7, 7, 7, 7, 7, 7, 7, 7, 7, 7, 7, 7, 7, 7, 7, 7, 7, 7, 7, 7, 7, 7, 7, 7, 7, 7, 7, 7, 7, 7, 7, 7, 7, 7, 7, 7, 7, 7, 7, 7, 7, 7, 7, 7, 7, 7, 7, 7, 7, 7, 7, 7, 7, 7, 7, 7, 7, 7, 7, 7, 8, 8, 8, 8, 8, 8, 8, 8, 8, 8, 8, 8, 8, 8, 8, 8, 8, 8, 8, 8, 8, 8, 8, 8, 8, 8, 8, 8, 8, 8, 8, 8, 8, 8, 8, 8, 8, 8, 8, 8, 8, 8, 8, 8, 8, 8, 8, 8, 8, 8, 8, 8, 8, 8, 8, 8, 8, 8, 8, 8, 8, 8, 8, 8, 8, 8, 8, 8, 8, 8, 8, 8, 8, 8, 8, 8, 8, 8, 8, 8, 8, 8, 8, 8, 8, 8, 8, 8, 8, 8, 8, 8, 8, 8, 8, 8, 8, 8, 8, 8, 8, 8, 8, 8, 8, 8, 8, 8, 8, 8, 8, 8, 8, 8, 8, 8, 8, 8, 8, 8, 8, 8, 8, 8, 8, 8, 8, 8])[Int.toNat (IntKind.u8.wrap (Int.fdiv (Int.fdiv x1 (2 ^ (min (Int.toNat 32) (IntKind.bits .u64)))) (2 ^ (min (Int.toNat 8) (IntKind.bits .u64)))))]? = some b4 ∧
 R (.int .i64 (IntKind.i64.wrap ((IntKind.i64.wrap ((32 : Int) + 8)) + (IntKind.i64.wrap (b4.toNat : Int))))) w) else (
 0 ≤ ((IntKind.u8.wrap (Int.fdiv x1 (2 ^ (min (Int.toNat 32) (IntKind.bits .u64))))) : Int) ∧ ∃ b5, (ByteArray.mk #[0, 1, 2, 2, 3, 3, 3, 3, 4, 4, 4, 4, 4, 4, 4, 4, 5, 5, 5, 5, 5, 5, 5, 5, 5, 5, 5, 5, 5, 5, 5, 5, 6, 6, 6, 6, 6, 6, 6, 6, 6, 6, 6, 6, 6, 6, 6, 6, 6, 6, 6, 6, 6, 6, 6, 6, 6, 6, 6, 6, 6, 6, 6, 6, 7, 7, 7, 7, 7, 7, 7, 7, 7, 7, 7, 7, 7, 7, 7, 7, 7, 7, 7, 7, 7, 7, 7, 7, 7, 7, 7, 7, 7, 7, 7, 7, 7, 7, 7, 7, 7, 7, 7, 7, 7, 7, 7, 7, 7, 7, 7, 7, 7, 7, 7, 7, 7, 7, 7, 7, 7, 7, 7, 7, 7, 7, 7, 7, 8, 8, 8, 8, 8, 8, 8, 8, 8, 8, 8, 8, 8, 8, 8, 8, 8, 8, 8, 8, 8, 8, 8, 8, 8, 8, 8, 8, 8, 8, 8, 8, 8, 8, 8, 8, 8, 8, 8, 8, 8, 8, 8, 8, 8, 8, 8, 8, 8, 8, 8, 8, 8, 8, 8, 8, 8, 8, 8, 8, 8, 8, 8, 8, 8, 8, 8, 8, 8, 8, 8, 8, 8, 8, 8, 8, 8, 8, 8, 8, 8, 8, 8, 8, 8, 8, 8, 8, 8, 8, 8, 8, 8, 8, 8, 8, 8, 8, 8, 8, 8, 8, 8, 8, 8, 8, 8, 8, 8, 8, 8, 8, 8, 8, 8, 8, 8, 8, 8, 8, 8, 8, 8, 8, 8, 8, 8, 8])[Int.toNat (IntKind.u8.wrap (Int.fdiv x1 (2 ^ (min (Int.toNat 32) (IntKind.bits .u64)))))]? = some b5 ∧
 R (.int .i64 (IntKind.i64.wrap ((32 : Int) + (IntKind.i64.wrap (b5.toNat : Int))))) w))) else (
 bif decide (x1 ≥ 65536) then (
 0 ≤ (16 : Int) ∧
 bif decide ((Int.fdiv x1 (2 ^ (min (Int.toNat 16) (IntKind.bits .u64)))) ≥ 256) then (
 0 ≤ (8 : Int) ∧
 0 ≤ ((IntKind.u8.wrap (Int.fdiv (Int.fdiv x1 (2 ^ (min (Int.toNat 16) (IntKind.bits .u64)))) (2 ^ (min (Int.toNat 8) (IntKind.bits .u64))))) : Int) ∧ ∃ b6, (ByteArray.mk #[0, 1, 2, 2, 3, 3, 3, 3, 4, 4, 4, 4, 4, 4, 4, 4, 5, 5, 5, 5, 5, 5, 5, 5, 5, 5, 5, 5, 5, 5, 5, 5, 6, 6, 6, 6, 6, 6, 6, 6, 6, 6, 6, 6, 6, 6, 6, 6, 6, 6, 6, 6, 6, 6, 6, 6, 6, 6, 6, 6, 6, 6, 6, 6, 7, 7, 7, 7, 7, 7, 7, 7, 7, 7, 7, 7, 7, 7, 7, 7, 7, 7, 7, 7, 7, 7, 7, 7, 7, 7, 7, 7, 7, 7, 7, 7, 7, 7, 7, 7, 7, 7, 7, 7, 7, 7, 7, 7, 7, 7, 7, 7, 7, 7, 7, 7, 7, 7, 7, 7, 7, 7, 7, 7, 7, 7, 7, 7, 8, 8, 8, 8, 8, 8, 8, 8, 8, 8, 8, 8, 8, 8, 8, 8, 8, 8, 8, 8, 8, 8, 8, 8, 8, 8, 8, 8, 8, 8, 8, 8, 8, 8, 8, 8, 8, 8, 8, 8, 8, 8, 8, 8, 8, 8, 8, 8, 8, 8, 8, 8, 8, 8, 8, 8, 8, 8, 8, 8, 8, 8, 8, 8, 8, 8, 8, 8, 8, 8, 8, 8, 8, 8, 8, 8, 8, 8, 8, 8, 8, 8, 8, 8, 8, 8, 8, 8, 8, 8, 8, 8, 8, 8, 8, 8, 8, 8, 8, 8, 8, 8, 8, 8, 8, 8, 8, 8, 8, 8, 8, 8, 8, 8, 8, 8, 8, 8, 8, 8, 8, 8, 8, 8, 8, 8, 8, 8])[Int.toNat (IntKind.u8.wrap (Int.fdiv (Int.fdiv x1 (2 ^ (min (Int.toNat 16) (IntKind.bits .u64)))) (2 ^ (min (Int.toNat 8) (IntKind.bits .u64)))))]? = some b6 ∧
 R (.int .i64 (IntKind.i64.wrap ((IntKind.i64.wrap ((IntKind.i64.wrap ((0 : Int) + 16)) + 8)) + (IntKind.i64.wrap (b6.toNat : Int))))) w) else (
 0 ≤ ((IntKind.u8.wrap (Int.fdiv x1 (2 ^ (min (Int.toNat 16) (IntKind.bits .u64))))) : Int) ∧ ∃ b7, (ByteArray.mk #[0, 1, 2, 2, 3, 3, 3, 3, 4, 4, 4, 4, 4, 4, 4, 4, 5, 5, 5, 5, 5, 5, 5, 5, 5, 5, 5, 5, 5, 5, 5, 5, 6, 6, 6, 6, 6, 6, 6, 6, 6, 6, 6, 6, 6, 6, 6, 6, 6, 6, 6, 6, 6, 6, 6, 6, 6, 6, 6, 6, 6, 6, 6, 6, 7, 7, 7, 7, 7, 7, 7, 7, 7, 7, 7, 7, 7, 7, 7, 7, 7, 7, 7, 7, 7, 7, 7, 7, 7, 7, 7, 7, 7, 7, 7, 7, 7, 7, 7, 7, 7, 7, 7, 7, 7, 7, 7, 7, 7, 7, 7, 7, 7, 7, 7, 7, 7, 7, 7, 7, 7, 7, 7, 7, 7, 7, 7, 7, 8, 8, 8, 8, 8, 8, 8, 8, 8, 8, 8, 8, 8, 8, 8, 8, 8, 8, 8, 8, 8, 8, 8, 8, 8, 8, 8, 8, 8, 8, 8, 8, 8, 8, 8, 8, 8, 8, 8, 8, 8, 8, 8, 8, 8, 8, 8, 8, 8, 8, 8, 8, 8, 8, 8, 8, 8, 8, 8, 8, 8, 8, 8, 8, 8, 8, 8, 8, 8, 8, 8, 8, 8, 8, 8, 8, 8, 8, 8, 8, 8, 8, 8, 8, 8, 8, 8, 8, 8, 8, 8, 8, 8, 8, 8, 8, 8, 8, 8, 8, 8, 8, 8, 8, 8, 8, 8, 8, 8, 8, 8, 8, 8, 8, 8, 8, 8, 8, 8, 8, 8, 8, 8, 8, 8, 8, 8, 8])[Int.toNat (IntKind.u8.wrap (Int.fdiv x1 (2 ^ (min (Int.toNat 16) (IntKind.bits .u64)))))]? = some b7 ∧
 R (.int .i64 (IntKind.i64.wrap ((IntKind.i64.wrap ((0 : Int) + 16)) + (IntKind.i64.wrap (b7.toNat : Int))))) w)) else (
 bif decide (x1 ≥ 256) then (
 0 ≤ (8 : Int) ∧
 0 ≤ ((IntKind.u8.wrap (Int.fdiv x1 (2 ^ (min (Int.toNat 8) (IntKind.bits .u64))))) : Int) ∧ ∃ b8, (ByteArray.mk #[0, 1, 2, 2, 3, 3, 3, 3, 4, 4, 4, 4, 4, 4, 4, 4, 5, 5, 5, 5, 5, 5, 5, 5, 5, 5, 5, 5, 5, 5, 5, 5, 6, 6, 6, 6, 6, 6, 6, 6, 6, 6, 6, 6, 6, 6, 6, 6, 6, 6, 6, 6, 6, 6, 6, 6, 6, 6, 6, 6, 6, 6, 6, 6, 7, 7, 7, 7, 7, 7, 7, 7, 7, 7, 7, 7, 7, 7, 7, 7, 7, 7, 7, 7, 7, 7, 7, 7, 7, 7, 7, 7, 7, 7, 7, 7, 7, 7, 7, 7, 7, 7, 7, 7, 7, 7, 7, 7, 7, 7, 7, 7, 7, 7, 7, 7, 7, 7, 7, 7, 7, 7, 7, 7, 7, 7, 7, 7, 8, 8, 8, 8, 8, 8, 8, 8, 8, 8, 8, 8, 8, 8, 8, 8, 8, 8, 8, 8, 8, 8, 8, 8, 8, 8, 8, 8, 8, 8, 8, 8, 8, 8, 8, 8, 8, 8, 8, 8, 8, 8, 8, 8, 8, 8, 8, 8, 8, 8, 8, 8, 8, 8, 8, 8, 8, 8, 8, 8, 8, 8, 8, 8, 8, 8, 8, 8, 8, 8, 8, 8, 8, 8, 8, 8, 8, 8, 8, 8, 8, 8, 8, 8, 8, 8, 8, 8, 8, 8, 8, 8, 8, 8, 8, 8, 8, 8, 8, 8, 8, 8, 8, 8, 8, 8, 8, 8, 8, 8, 8, 8, 8, 8, 8, 8, 8, 8, 8, 8, 8, 8, 8, 8, 8, 8, 8, 8])[Int.toNat (IntKind.u8.wrap (Int.fdiv x1 (2 ^ (min (Int.toNat 8) (IntKind.bits .u64)))))]? = some b8 ∧
 R (.int .i64 (IntKind.i64.wrap ((IntKind.i64.wrap ((0 : Int) + 8)) + (IntKind.i64.wrap (b8.toNat : Int))))) w) else (
 0 ≤ ((IntKind.u8.wrap x1) : Int) ∧ ∃ b9, (ByteArray.mk #[0, 1, 2, 2, 3, 3, 3, 3, 4, 4, 4, 4, 4, 4, 4, 4, 5, 5, 5, 5, 5, 5, 5, 5, 5, 5, 5, 5, 5, 5, 5, 5, 6, 6, 6, 6, 6, 6, 6, 6, 6, 6, 6, 6, 6, 6, 6, 6, 6, 6, 6, 6, 6, 6, 6, 6, 6, 6, 6, 6, 6, 6, 6, 6, 7, 7, 7, 7, 7, 7, 7, 7, 7, 7, 7, 7, 7, 7, 7, 7, 7, 7, 7, 7, 7, 7, 7, 7, 7, 7, 7, 7, 7, 7, 7, 7, 7, 7, 7, 7, 7, 7, 7, 7, 7, 7, 7, 7, 7, 7, 7, 7, 7, 7, 7, 7, 7, 7, 7, 7, 7, 7, 7, 7, 7, 7, 7, 7, 8, 8, 8, 8, 8, 8, 8, 8, 8, 8, 8, 8, 8, 8, 8, 8, 8, 8, 8, 8, 8, 8, 8, 8, 8, 8, 8, 8, 8, 8, 8, 8, 8, 8, 8, 8, 8, 8, 8, 8, 8, 8, 8, 8, 8, 8, 8, 8, 8, 8, 8, 8, 8, 8, 8, 8, 8, 8, 8, 8, 8, 8, 8, 8, 8, 8, 8, 8, 8, 8, 8, 8, 8, 8, 8, 8, 8, 8, 8, 8, 8, 8, 8, 8, 8, 8, 8, 8, 8, 8, 8, 8, 8, 8, 8, 8, 8, 8, 8, 8, 8, 8, 8, 8, 8, 8, 8, 8, 8, 8, 8, 8, 8, 8, 8, 8, 8, 8, 8, 8, 8, 8, 8, 8, 8, 8, 8, 8])[Int.toNat (IntKind.u8.wrap x1)]? = some b9 ∧
 R (.int .i64 (IntKind.i64.wrap ((0 : Int) + (IntKind.i64.wrap (b9.toNat : Int))))) w)))

theorem bLen64.ok (x1 : Int) {R : RW} {w : World} (h : bLen64.M x1 R w) : Calls Try.prog 73 #[.int .u64 x1] w fun e w' => ∃ v, e = .returned v ∧ R v w' :=
  Q09 follows (H := []) (args := [.int .u64 x1]) (cast (by kernel_rfl) h)

def tab8 : ByteArray := ByteArray.mk #[0, 1, 2, 2, 3, 3, 3, 3, 4, 4, 4, 4, 4, 4, 4, 4, 5, 5, 5, 5, 5, 5, 5, 5, 5, 5, 5, 5, 5, 5, 5, 5, 6, 6, 6, 6, 6, 6, 6, 6, 6, 6, 6, 6, 6, 6, 6, 6, 6, 6, 6, 6, 6, 6, 6, 6, 6, 6, 6, 6, 6, 6, 6, 6, 7, 7, 7, 7, 7, 7, 7, 7, 7, 7, 7, 7, 7, 7, 7, 7, 7, 7, 7, 7, 7, 7, 7, 7, 7, 7, 7, 7, 7, 7, 7, 7, 7, 7, 7, 7, 7, 7, 7, 7, 7, 7, 7, 7, 7, 7, 7, 7, 7, 7, 7, 7, 7, 7, 7, 7, 7, 7, 7, 7, 7, 7, 7, 7, 8, 8, 8, 8, 8, 8, 8, 8, 8, 8, 8, 8, 8, 8, 8, 8, 8, 8, 8, 8, 8, 8, 8, 8, 8, 8, 8, 8, 8, 8, 8, 8, 8, 8, 8, 8, 8, 8, 8, 8, 8, 8, 8, 8, 8, 8, 8, 8, 8, 8, 8, 8, 8, 8, 8, 8, 8, 8, 8, 8, 8, 8, 8, 8, 8, 8, 8, 8, 8, 8, 8, 8, 8, 8, 8, 8, 8, 8, 8, 8, 8, 8, 8, 8, 8, 8, 8, 8, 8, 8, 8, 8, 8, 8, 8, 8, 8, 8, 8, 8, 8, 8, 8, 8, 8, 8, 8, 8, 8, 8, 8, 8, 8, 8, 8, 8, 8, 8, 8, 8, 8, 8, 8, 8, 8, 8, 8, 8]
theorem tab8_at {b : Nat} (hb : b < 256) : ∃ v, tab8[b]? = some v ∧ v.toNat ≤ 8 ∧ (6 < v.toNat ↔ 64 ≤ b) := by
  have key : ∀ m : Fin 256, (tab8[m.val]?).isSome = true ∧ ((tab8[m.val]?).getD 0).toNat ≤ 8 ∧ (6 < ((tab8[m.val]?).getD 0).toNat ↔ 64 ≤ m.val) := by decide +kernel
  obtain ⟨k1, k2, k3⟩ := key ⟨b, hb⟩
  simp only at k1 k2 k3
  obtain ⟨v, hv⟩ := Option.isSome_iff_exists.1 k1
  rw [hv] at k2 k3
  exact ⟨v, hv, k2, k3⟩
theorem shr_nat (n k : Nat) (hk : k ≤ 64) : Int.fdiv (n : Int) (2 ^ (min k (IntKind.bits .u64))) = ((n / 2 ^ k : Nat) : Int) := by
  rw [show min k (IntKind.bits .u64) = k by rw [show IntKind.bits .u64 = 64 from rfl]; omega, Int.fdiv_eq_ediv_of_nonneg _ (Int.le_of_lt (Int.pow_pos (by decide))), Int.natCast_ediv, Int.natCast_pow]
  rfl
section
variable {w w' : World} {p : Nat} {bs : List UInt8} {k : Int}
theorem Q3M {n : Nat} (hn : n < 18446744073709551616) : Calls Try.prog 73 #[.int .u64 n] w (fun e w' => ∃ L : Int, e = .returned (.int .i64 L) ∧ (L > 62 ↔ 4611686018427387904 ≤ n) ∧ w' = w) := by
  refine (bLen64.ok _ (R := fun v w' => ∃ L : Int, v = .int .i64 L ∧ (L > 62 ↔ 4611686018427387904 ≤ n) ∧ w' = w) ?_).mono fun e w' ⟨v, he, L, hv, hw⟩ => ⟨L, by rw [he, hv], hw⟩
  unfold bLen64.M
  -- the last step, once the number is below 256
  have last : ∀ (m : Nat) (s : Int), m < 256 → 0 ≤ s → s ≤ 56 → ((s = 56 ∧ m = n / 72057594037927936) ∨ (s ≤ 48 ∧ n < 72057594037927936)) → ∀ x : Int, x = (m : Int) →
      0 ≤ (IntKind.u8.wrap x) ∧ ∃ b, tab8[Int.toNat (IntKind.u8.wrap x)]? = some b ∧ ∃ L : Int, Value.int .i64 (IntKind.i64.wrap (s + IntKind.i64.wrap (b.toNat : Int))) = .int .i64 L ∧ (L > 62 ↔ 4611686018427387904 ≤ n) ∧ True := fun m s hm hs hs2 hcase x hx => by
    subst hx
    rw [wu8 (by omega) (by omega), Int.toNat_natCast]
    obtain ⟨v, h1, h2, h3⟩ := tab8_at hm
    refine ⟨by omega, v, h1, s + v.toNat, ?_, ?_, trivial⟩
    · rw [w64 (n := (v.toNat : Int)) (by omega) (by omega), w64 (by omega) (by omega)]
    · rcases hcase with ⟨rfl, rfl⟩ | ⟨q1, q2⟩
      · constructor
        · intro h; have := h3.1 (by omega); omega
        · intro h; have := h3.2 (by omega); omega
      · constructor
        · intro h; omega
        · intro h; omega
  have h32 := shr_nat n 32 (by decide)
  have h16 := shr_nat n 16 (by decide)
  have h8 := shr_nat n 8 (by decide)
  have e32 : Int.fdiv (n : Int) (2 ^ (min (Int.toNat 32) (IntKind.bits .u64))) = ((n / 4294967296 : Nat) : Int) := h32
  have e16 : Int.fdiv (n : Int) (2 ^ (min (Int.toNat 16) (IntKind.bits .u64))) = ((n / 65536 : Nat) : Int) := h16
  have e8 : Int.fdiv (n : Int) (2 ^ (min (Int.toNat 8) (IntKind.bits .u64))) = ((n / 256 : Nat) : Int) := h8
  have f16 : ∀ m : Nat, Int.fdiv (m : Int) (2 ^ (min (Int.toNat 16) (IntKind.bits .u64))) = ((m / 65536 : Nat) : Int) := fun m => shr_nat m 16 (by decide)
  have f8 : ∀ m : Nat, Int.fdiv (m : Int) (2 ^ (min (Int.toNat 8) (IntKind.bits .u64))) = ((m / 256 : Nat) : Int) := fun m => shr_nat m 8 (by decide)
  rw [e32]
  simp only [f16, f8]
  by_cases c1 : (n : Int) ≥ 4294967296
  · rw [decide_eq_true c1, cond_true]
    refine ⟨by decide, ?_⟩
    by_cases c2 : ((n / 4294967296 : Nat) : Int) ≥ 65536
    · rw [decide_eq_true c2, cond_true]
      refine ⟨by decide, ?_⟩
      by_cases c3 : ((n / 4294967296 / 65536 : Nat) : Int) ≥ 256
      · rw [decide_eq_true c3, cond_true]
        exact ⟨by decide, last (n / 4294967296 / 65536 / 256) _ (by omega) (by decide) (by decide) (.inl ⟨by decide, by omega⟩) _ rfl⟩
      · rw [decide_eq_false c3, cond_false]
        exact last (n / 4294967296 / 65536) _ (by omega) (by decide) (by decide) (.inr ⟨by decide, by omega⟩) _ rfl
    · rw [decide_eq_false c2, cond_false]
      by_cases c3 : ((n / 4294967296 : Nat) : Int) ≥ 256
      · rw [decide_eq_true c3, cond_true]
        exact ⟨by decide, last (n / 4294967296 / 256) _ (by omega) (by decide) (by decide) (.inr ⟨by decide, by omega⟩) _ rfl⟩
      · rw [decide_eq_false c3, cond_false]
        exact last (n / 4294967296) _ (by omega) (by decide) (by decide) (.inr ⟨by decide, by omega⟩) _ rfl
  · rw [decide_eq_false c1, cond_false]
    by_cases c2 : (n : Int) ≥ 65536
    · rw [decide_eq_true c2, cond_true]
      refine ⟨by decide, ?_⟩
      by_cases c3 : ((n / 65536 : Nat) : Int) ≥ 256
      · rw [decide_eq_true c3, cond_true]
        exact ⟨by decide, last (n / 65536 / 256) _ (by omega) (by decide) (by decide) (.inr ⟨by decide, by omega⟩) _ rfl⟩
      · rw [decide_eq_false c3, cond_false]
        exact last (n / 65536) _ (by omega) (by decide) (by decide) (.inr ⟨by decide, by omega⟩) _ rfl
    · rw [decide_eq_false c2, cond_false]
      by_cases c3 : (n : Int) ≥ 256
      · rw [decide_eq_true c3, cond_true]
        exact ⟨by decide, last (n / 256) _ (by omega) (by decide) (by decide) (.inr ⟨by decide, by omega⟩) _ rfl⟩
      · rw [decide_eq_false c3, cond_false]
        exact last n _ (by omega) (by decide) (by decide) (.inr ⟨by decide, by omega⟩) _ rfl

def numR (s : List UInt8 × Int) : Nat × (List UInt8 × Int) :=
  if s.2 = 0 then (match rdNum s.1 with | some (n, r) => (n, (r, 0)) | none => (0, ([], 4))) else (0, s)
theorem numR_lt (s : List UInt8 × Int) : (numR s).1 < 18446744073709551616 := by
  unfold numR
  split
  · cases h : rdNum s.1 with
    | none => exact (by decide : 0 < 18446744073709551616)
    | some q => obtain ⟨n, r⟩ := q; exact (rd_back h).2
  · exact (by decide : 0 < 18446744073709551616)
theorem Q45 {bs r : List UInt8} {n : Nat} (h : rdNum bs = some (n, r)) : r.length ≤ bs.length := by
  obtain ⟨h1, _⟩ := rd_back h
  rw [h1]; simp
theorem numR_len (s : List UInt8 × Int) : (numR s).2.1.length ≤ s.1.length := by
  unfold numR
  split
  · cases h : rdNum s.1 with
    | none => simp
    | some q => obtain ⟨n, r⟩ := q; exact Q45 h
  · exact Nat.le_refl _
theorem RNum_spec (h : Rd w p bs k) (hl : bs.length < 1000000) :
    Calls Try.prog 71 #[.pointer (some (blk p))] w (GivesW (.int .u64 (numR (bs, k)).1) fun w' => Rd w' p (numR (bs, k)).2.1 (numR (bs, k)).2.2 ∧ Ext (fun b => b = p) w w') := by
  refine (wRNum.ok _ (R := fun v w' => v = .int .u64 (numR (bs, k)).1 ∧ Rd w' p (numR (bs, k)).2.1 (numR (bs, k)).2.2 ∧ Ext (fun b => b = p) w w') ?_).mono fun e w' ⟨v, he, hv, hw⟩ => ⟨by rw [he, hv], hw⟩
  unfold wRNum.M
  refine (ok_spec h).mono fun e w4 ⟨he, hw⟩ => ⟨_, he, ?_⟩
  subst hw
  by_cases hk : k = 0
  · subst hk
    rw [show ((0 : Int) == 0) = true from rfl, Bool.not_true, cond_false]
    refine (Q3T h hl).mono fun e w7 ⟨he, hw⟩ => ⟨_, he, ?_⟩
    subst hw
    by_cases hz : widthF 0 bs = 0
    · rw [show ((widthF 0 bs : Int) == 0) = true by rw [beq_iff_eq]; omega, cond_true]
      have hn : numR (bs, 0) = (0, ([], 4)) := by unfold numR rdNum; simp [hz]
      rw [hn]
      exact (fail_spec h 4).mono fun e w9 ⟨he, hr, hx⟩ => ⟨he, rfl, hr, hx⟩
    · rw [show ((widthF 0 bs : Int) == 0) = false by rw [beq_eq_false_iff_ne]; omega, cond_false]
      obtain ⟨q1, q2, q3, q4, _⟩ := Q1n bs 0 (by omega) hz
      simp only [Nat.sub_zero] at q2 q3 q4
      generalize hW : widthF 0 bs = W at *
      have hn : numR (bs, 0) = (valW (bs.take W), (bs.drop W, 0)) := by unfold numR rdNum; simp [hW, hz]
      have hW10 : W ≤ 10 := by
        have h1 := numF_le 10 (valW (bs.take W))
        rw [q3, List.length_take] at h1; omega
      obtain ⟨a, c, h1, h2, h3, h4⟩ := h
      refine ⟨fun j vs w1 => ∃ t : Nat, vs = [.int .u64 (valW (bs.take t)), .int .i64 t] ∧ j + t = W ∧ w1 = w7, W, ⟨0, rfl, rfl, rfl⟩, ?_⟩
      rintro j w1 n0 i ⟨t, hi, hj, rfl⟩
      simp only [List.cons.injEq, Value.int.injEq, true_and, and_true] at hi
      obtain ⟨rfl, rfl⟩ := hi
      cases j with
      | zero =>
        obtain rfl : t = W := by omega
        rw [show decide ((t : Int) < (t : Int)) = false by simp, cond_false]
        refine ⟨a, bs.length, c, h1.cella (i := 0) rfl, by omega, by omega, h1.cana (i := 0) rfl, Q00 fun w23 h23 => ?_⟩
        rw [Int.toNat_natCast, Nat.mul_one, add_zero] at h23
        have hb := h1.seta 0 (.slice (if c = t then a else Option.map (fun z : Addr => z.add t) a) (bs.length - t) (c - t))
        rw [← h23] at hb
        have hx : Ext (fun b => b = p) w1 w23 := by subst h23; exact (Ext.refl (fun b => b = p) w1).setCell (a := (blk p).add 0) (.inl rfl) _
        have hdl : (bs.drop t).length = bs.length - t := List.length_drop
        have hrow := h3.drop t c (fun e => by rw [Q0M]; omega)
        rw [hn]
        refine ⟨rfl, ⟨_, c - t, by rw [hdl]; exact hb, by rw [hdl]; omega, ?_, fun h0 ad ha => ?_⟩, hx⟩
        · rw [show bytesV (bs.drop t) = (bytesV bs).drop t by simp [bytesV]]
          refine hrow.ext' hx fun h0 ad ha hq => ?_
          split at ha
          · have := h4 (fun e => h0 (by rw [e]; simp)) ad ha; omega
          · obtain ⟨b0, hb0, rfl⟩ := Option.map_eq_some_iff.1 ha
            rw [Q11] at hq
            have := h4 (fun e => h0 (by rw [e]; simp)) b0 hb0; omega
        · split at ha
          · exact h4 (fun e => h0 (by rw [bytesV, List.map_drop, show List.map u8V bs = [] from e]; simp)) ad ha
          · obtain ⟨b0, hb0, rfl⟩ := Option.map_eq_some_iff.1 ha
            rw [Q11]; exact h4 (fun e => h0 (by rw [bytesV, List.map_drop, show List.map u8V bs = [] from e]; simp)) b0 hb0
      | succ j =>
        have ht : t < W := by omega
        have htl : t < bs.length := by omega
        rw [show decide ((t : Int) < (W : Int)) = true by simp; omega, cond_true]
        obtain ⟨ad, rfl⟩ := h3.addr (by intro e; rw [bytesV, List.map_eq_nil_iff] at e; subst e; simp at htl)
        have e7 : IntKind.i64.wrap ((7 : Int) * (t : Int)) = ((7 * t : Nat) : Int) := by rw [w64 (by omega) (by omega)]; omega
        have hx := u8_lt bs[t]
        have hvt := valW_lt (bs.take t)
        have htk : (bs.take t).length = t := by simp; omega
        rw [htk] at hvt
        have hsn : bs.take (t + 1) = bs.take t ++ [bs[t]] := by rw [List.take_add_one]; simp [htl]
        have hvs := Q2X (bs.take t) bs[t]
        rw [← hsn, htk] at hvs
        have hle : valW (bs.take (t + 1)) ≤ valW (bs.take W) := by
          have := Q1w (bs.take (t + 1)) ((bs.take W).drop (t + 1))
          rw [show bs.take (t + 1) = (bs.take W).take (t + 1) by rw [List.take_take, Nat.min_eq_left (by omega)], List.take_append_drop] at this
          rw [List.take_take, Nat.min_eq_left (by omega)] at this
          exact this
        refine ⟨_, _, _, h1.cella (i := 0) rfl, by omega, by omega, _, by rw [Int.toNat_natCast, Nat.mul_one]; exact h3.at_ (Q0P htl), by omega, j, by omega, t + 1, ?_, by omega, rfl⟩
        rw [e7, Int.toNat_natCast, and127 hx, wu64 (n := ((bs[t].toNat % 128 : Nat) : Int)) (by omega) (by omega), Q4A hvt (by omega) (by omega) (by omega), ← hvs, w64 (by omega) (by omega)]
        rfl
  · rw [beq_eq_false_iff_ne.2 hk, Bool.not_false, cond_true]
    have hn : numR (bs, k) = (0, (bs, k)) := by unfold numR; rw [if_neg hk]
    rw [hn]
    exact ⟨rfl, h, Ext.refl _ _⟩

def countR (m : Int) (s : List UInt8 × Int) : Nat × (List UInt8 × Int) :=
  if (numR s).2.2 = 0 then (if m < 0 ∨ ((numR s).1 : Int) > m then (0, ([], 3)) else numR s) else (0, (numR s).2)
theorem countR_len (m : Int) (s : List UInt8 × Int) : (countR m s).2.1.length ≤ s.1.length := by
  have := numR_len s
  unfold countR
  split
  · split
    · simp
    · exact this
  · exact this
theorem Count_spec (h : Rd w p bs k) (hl : bs.length < 1000000) {m : Int} (hm : m < 4611686018427387904) :
    Calls Try.prog 54 #[.pointer (some (blk p)), .int .i64 m] w (GivesW (.int .i64 (countR m (bs, k)).1) fun w' => Rd w' p (countR m (bs, k)).2.1 (countR m (bs, k)).2.2 ∧ Ext (fun b => b = p) w w') := by
  refine (wCount.ok _ _ (R := fun v w' => v = .int .i64 (countR m (bs, k)).1 ∧ Rd w' p (countR m (bs, k)).2.1 (countR m (bs, k)).2.2 ∧ Ext (fun b => b = p) w w') ?_).mono fun e w' ⟨v, he, hv, hw⟩ => ⟨by rw [he, hv], hw⟩
  unfold wCount.M
  have hlt := numR_lt (bs, k)
  refine (RNum_spec h hl).mono fun e w5 ⟨he, hr5, hx5⟩ => ⟨_, he, ?_⟩
  refine (ok_spec hr5).mono fun e w8 ⟨he, hw⟩ => ⟨_, he, ?_⟩
  subst hw
  unfold countR
  generalize numR (bs, k) = s at *
  obtain ⟨n, bs', k'⟩ := s
  simp only at *
  by_cases hk : k' = 0
  · subst hk
    rw [if_pos rfl, show ((0 : Int) == 0) = true from rfl, Bool.not_true, cond_false]
    by_cases hm0 : m < 0
    · rw [decide_eq_true hm0, cond_true, if_pos (.inl hm0)]
      exact (fail_spec hr5 3).mono fun e w9 ⟨he, hr, hx⟩ => ⟨he, rfl, hr, hx5.trans hx⟩
    · rw [decide_eq_false hm0, cond_false]
      refine (Q3M hlt).mono fun e w13 ⟨L, he, hL, hw⟩ => ⟨_, he, ?_⟩
      subst hw
      by_cases c1 : L > 62
      · rw [decide_eq_true c1, cond_true, if_pos (.inr (by have := hL.1 c1; omega))]
        exact (fail_spec hr5 3).mono fun e w9 ⟨he, hr, hx⟩ => ⟨he, rfl, hr, hx5.trans hx⟩
      · have hn62 : n < 4611686018427387904 := Decidable.byContradiction fun h => c1 (hL.2 (by omega))
        rw [decide_eq_false c1, cond_false, w64 (n := (n : Int)) (by omega) (by omega)]
        by_cases c2 : (n : Int) > m
        · rw [decide_eq_true c2, cond_true, if_pos (.inr c2)]
          exact (fail_spec hr5 3).mono fun e w9 ⟨he, hr, hx⟩ => ⟨he, rfl, hr, hx5.trans hx⟩
        · rw [decide_eq_false c2, cond_false, if_neg (fun h => h.elim hm0 c2)]
          exact ⟨rfl, hr5, hx5⟩
  · rw [if_neg hk, beq_eq_false_iff_ne.2 hk, Bool.not_false, cond_true]
    exact ⟨rfl, hr5, hx5⟩
def doneR (s : List UInt8 × Int) : Int := if s.2 = 0 then (if s.1.length > 0 then 4 else 0) else s.2
theorem Done_spec (h : Rd w p bs k) : Calls Try.prog 56 #[.pointer (some (blk p))] w (GivesW (.int .i64 (doneR (bs, k))) fun w' => w' = w) := by
  refine (wDone.ok _ (R := fun v w' => v = .int .i64 (doneR (bs, k)) ∧ w' = w) ?_).mono fun e w' ⟨v, he, hv, hw⟩ => ⟨by rw [he, hv], hw⟩
  unfold wDone.M
  rw [Option.isNone_some, cond_false]
  refine (ok_spec h).mono fun e w4 ⟨he, hw⟩ => ⟨_, he, ?_⟩
  subst hw
  obtain ⟨a, c, h1, h2, h3, h4⟩ := h
  unfold doneR
  by_cases hk : k = 0
  · subst hk
    rw [show ((0 : Int) == 0) = true from rfl, cond_true, if_pos rfl]
    refine ⟨_, _, _, h1.cella (i := 0) rfl, ?_⟩
    by_cases hb : bs.length > 0
    · rw [decide_eq_true (by omega : (bs.length : Int) > 0), cond_true, if_pos hb]; exact ⟨rfl, rfl⟩
    · rw [decide_eq_false (by omega : ¬ (bs.length : Int) > 0), cond_false, if_neg hb]
      exact ⟨_, h1.cella (i := 1) rfl, rfl, rfl⟩
  · rw [beq_eq_false_iff_ne.2 hk, cond_false, if_neg hk]
    exact ⟨_, h1.cella (i := 1) rfl, rfl, rfl⟩
end
end Go.Proofs.Ytoempemllkebkaa.W
namespace Go.Proofs.Ytoempemllkebkaa.W
open Go Go.Mx Go.Proofs
def wInt.M (a3 : Option Addr) (a4 a7 : Nat) (n2 : Int) (R : RW) (w : World) : Prop :=
 0 ≤ (1 : Int) ∧
 0 ≤ (63 : Int) ∧
 Calls Try.prog 26 #[.slice a3 a4 a7, .int .u64 (IntKind.u64.wrap ((BitVec.ofInt (IntKind.bits .u64) (IntKind.u64.wrap ((IntKind.u64.wrap n2) * 2 ^ (min (Int.toNat 1) (IntKind.bits .u64)))) ^^^ BitVec.ofInt (IntKind.bits .u64) (IntKind.u64.wrap (Int.fdiv n2 (2 ^ (min (Int.toNat 63) (IntKind.bits .i64)))))).toNat))] w fun a5 a6 => ∃ (a1 : Option Addr) (a2 a0 : Nat), a5 = .returned (.slice a1 a2 a0) ∧
 R (.slice a1 a2 a0) a6

theorem wInt.ok (a0 : Option Addr) (a1 a2 : Nat) (n2 : Int) {R : RW} {w : World} (h : wInt.M a0 a1 a2 n2 R w) : Calls Try.prog 89 #[.slice a0 a1 a2, .int .i64 n2] w fun e w' => ∃ v, e = .returned v ∧ R v w' :=
  Q09 follows (H := []) (args := [.slice a0 a1 a2, .int .i64 n2]) (cast (by kernel_rfl) h)

def wBytes.M (a8 : Option Addr) (a9 ae : Nat) (ab : Option Addr) (a7 ad : Nat) (R : RW) (w : World) : Prop :=
 Calls Try.prog 26 #[.slice a8 a9 ae, .int .u64 (IntKind.u64.wrap (a7 : Int))] w fun aa ac => ∃ (a1 : Option Addr) (a2 a0 : Nat), aa = .returned (.slice a1 a2 a0) ∧
 ∃ (a5 : Option Addr) (a4 a6 : Nat) (a3 : World), (Builtin.append_ #[25, 25] 25 #[.slice a1 a2 a0, .slice ab a7 ad]).run Try.prog ac = .ok (.slice a5 a4 a6) a3 ∧
 R (.slice a5 a4 a6) a3

theorem wBytes.ok (a0 : Option Addr) (a1 a5 : Nat) (a2 : Option Addr) (a3 a4 : Nat) {R : RW} {w : World} (h : wBytes.M a0 a1 a5 a2 a3 a4 R w) : Calls Try.prog 29 #[.slice a0 a1 a5, .slice a2 a3 a4] w fun e w' => ∃ v, e = .returned v ∧ R v w' :=
  Q09 follows (H := []) (args := [.slice a0 a1 a5, .slice a2 a3 a4]) (cast (by kernel_rfl) h)

def wRInt.M (r1 : Option Addr) (R : RW) (w : World) : Prop :=
 Calls Try.prog 71 #[.pointer r1] w fun a1 a2 => ∃ (a0 : Int), a1 = .returned (.int .u64 a0) ∧
 0 ≤ (1 : Int) ∧
 R (.int .i64 (IntKind.i64.wrap ((BitVec.ofInt (IntKind.bits .i64) (IntKind.i64.wrap (Int.fdiv a0 (2 ^ (min (Int.toNat 1) (IntKind.bits .u64))))) ^^^ BitVec.ofInt (IntKind.bits .i64) (IntKind.i64.wrap (0 - (IntKind.i64.wrap (IntKind.u64.wrap ((BitVec.ofInt (IntKind.bits .u64) a0 &&& BitVec.ofInt (IntKind.bits .u64) 1).toNat)))))).toNat))) a2

theorem wRInt.ok (r1 : Option Addr) {R : RW} {w : World} (h : wRInt.M r1 R w) : Calls Try.prog 100 #[.pointer r1] w fun e w' => ∃ v, e = .returned v ∧ R v w' :=
  Q09 follows (H := []) (args := [.pointer r1]) (cast (by kernel_rfl) h)

def zig (n : Int) : Nat := if 0 ≤ n then (2 * n).toNat else (-2 * n - 1).toNat
def unzig (m : Nat) : Int := if m % 2 = 0 then (m / 2 : Nat) else -((m / 2 : Nat) : Int) - 1
theorem unzig_zig (n : Int) : unzig (zig n) = n := by
  unfold unzig zig
  by_cases h : 0 ≤ n
  · rw [if_pos h, if_pos (by omega)]; omega
  · rw [if_neg h, if_neg (by omega)]; omega
theorem Q4y {n : Int} (h0 : -9223372036854775808 ≤ n) (h1 : n < 9223372036854775808) :
    IntKind.u64.wrap ((BitVec.ofInt (IntKind.bits .u64) (IntKind.u64.wrap ((IntKind.u64.wrap n) * 2 ^ (min (Int.toNat 1) (IntKind.bits .u64)))) ^^^ BitVec.ofInt (IntKind.bits .u64) (IntKind.u64.wrap (Int.fdiv n (2 ^ (min (Int.toNat 63) (IntKind.bits .i64)))))).toNat : Int) = ((zig n : Nat) : Int) := by
  rw [show min (Int.toNat 1) (IntKind.bits .u64) = 1 from rfl, show min (Int.toNat 63) (IntKind.bits .i64) = 63 from rfl, show IntKind.bits .u64 = 64 from rfl, Int.fdiv_eq_ediv_of_nonneg _ (by decide)]
  unfold zig
  by_cases h : 0 ≤ n
  · rw [if_pos h, wu64 (n := n) h (by omega), show n / 2 ^ 63 = 0 by omega, wu64 (n := n * 2 ^ 1) (by omega) (by omega), wu64 (n := 0) (by decide) (by decide)]
    obtain ⟨m, rfl⟩ : ∃ m : Nat, n = m := ⟨n.toNat, by omega⟩
    rw [show ((m : Int) * 2 ^ 1) = ((m * 2 : Nat) : Int) by omega, BitVec.ofInt_natCast, show BitVec.ofInt 64 0 = 0#64 from rfl, BitVec.xor_zero, BitVec.toNat_ofNat, Nat.mod_eq_of_lt (by omega), wu64 (by omega) (by omega)]
    omega
  · rw [if_neg h, show n / 2 ^ 63 = -1 by omega]
    have e1 : IntKind.u64.wrap (-1) = ((18446744073709551615 : Nat) : Int) := by rw [IntKind.wrap_u64]; rfl
    have e2 : IntKind.u64.wrap (IntKind.u64.wrap n * 2 ^ 1) = (((18446744073709551616 + 2 * n).toNat : Nat) : Int) := by rw [IntKind.wrap_u64, IntKind.wrap_u64]; omega
    rw [e1, e2, BitVec.ofInt_natCast, BitVec.ofInt_natCast, show BitVec.ofNat 64 18446744073709551615 = BitVec.allOnes 64 from rfl, BitVec.xor_allOnes, BitVec.toNat_not, BitVec.toNat_ofNat, Nat.mod_eq_of_lt (by omega), wu64 (by omega) (by omega)]
    omega
theorem Q3I {m : Nat} (h : m < 18446744073709551616) :
    IntKind.i64.wrap ((BitVec.ofInt (IntKind.bits .i64) (IntKind.i64.wrap (Int.fdiv (m : Int) (2 ^ (min (Int.toNat 1) (IntKind.bits .u64))))) ^^^ BitVec.ofInt (IntKind.bits .i64) (IntKind.i64.wrap (0 - (IntKind.i64.wrap (IntKind.u64.wrap ((BitVec.ofInt (IntKind.bits .u64) (m : Int) &&& BitVec.ofInt (IntKind.bits .u64) 1).toNat)))))).toNat : Int) = unzig m := by
  rw [show min (Int.toNat 1) (IntKind.bits .u64) = 1 from rfl, show IntKind.bits .u64 = 64 from rfl, show IntKind.bits .i64 = 64 from rfl, Int.fdiv_eq_ediv_of_nonneg _ (by decide), BitVec.toNat_and, BitVec.ofInt_natCast, BitVec.toNat_ofNat, Nat.mod_eq_of_lt (by omega), show (BitVec.ofInt 64 1).toNat = 1 from rfl, Nat.and_one_is_mod,
    show ((m : Int) / 2 ^ 1) = ((m / 2 : Nat) : Int) by omega, w64 (n := ((m / 2 : Nat) : Int)) (by omega) (by omega), wu64 (n := ((m % 2 : Nat) : Int)) (by omega) (by omega), w64 (n := ((m % 2 : Nat) : Int)) (by omega) (by omega), w64 (n := 0 - ((m % 2 : Nat) : Int)) (by omega) (by omega)]
  unfold unzig
  by_cases h2 : m % 2 = 0
  · rw [if_pos h2, h2, show (0 : Int) - ((0 : Nat) : Int) = 0 from rfl, show BitVec.ofInt 64 0 = 0#64 from rfl, BitVec.xor_zero, BitVec.ofInt_natCast, BitVec.toNat_ofNat, Nat.mod_eq_of_lt (by omega), w64 (by omega) (by omega)]
  · rw [if_neg h2, show m % 2 = 1 by omega, show (0 : Int) - ((1 : Nat) : Int) = -1 from rfl, show BitVec.ofInt 64 (-1) = BitVec.allOnes 64 from rfl, BitVec.xor_allOnes, BitVec.toNat_not, BitVec.ofInt_natCast, BitVec.toNat_ofNat, Nat.mod_eq_of_lt (by omega), IntKind.wrap_i64]
    omega
theorem zig_lt {n : Int} (h0 : -9223372036854775808 ≤ n) (h1 : n < 9223372036854775808) : zig n < 18446744073709551616 := by
  unfold zig; split <;> omega
section
variable {w w' : World} {a : Option Addr} {c N p : Nat} {bs : List UInt8} {k : Int}
theorem Int_spec (h : RowAt w a (bytesV bs)) (hl : bs.length ≤ 1000000) {n : Int} (h0 : -9223372036854775808 ≤ n) (h1 : n < 9223372036854775808) :
    Calls Try.prog 89 #[.slice a bs.length c, .int .i64 n] w (fun e w' => ∃ a' c', e = .returned (.slice a' (bs ++ numL (zig n)).length c') ∧ OwnB w.heap.size w' a' c' (bs ++ numL (zig n)) ∧ Ext no w w') := by
  refine (wInt.ok _ _ _ _ (R := fun v w' => ∃ a' c', v = (.slice a' (bs ++ numL (zig n)).length c') ∧ OwnB w.heap.size w' a' c' (bs ++ numL (zig n)) ∧ Ext no w w') ?_).mono fun e w' ⟨v, he, a', c', hv, hw⟩ => ⟨a', c', by rw [he, hv], hw⟩
  unfold wInt.M
  refine ⟨by decide, by decide, ?_⟩
  rw [Q4y h0 h1]
  exact (Num_spec h hl (zig_lt h0 h1)).mono fun e w5 ⟨a', c', he, hO, hx⟩ => ⟨a', _, c', he, a', c', rfl, hO, hx⟩
theorem Bytes_spec (h : RowAt w a (bytesV bs)) (hl : bs.length ≤ 1000000) {xa : Option Addr} {xc : Nat} {xs : List UInt8} (hx : RowAt w xa (bytesV xs)) (hxl : xs.length ≤ 1000000) :
    Calls Try.prog 29 #[.slice a bs.length c, .slice xa xs.length xc] w (fun e w' => ∃ a' c', e = .returned (.slice a' (bs ++ numL xs.length ++ xs).length c') ∧ OwnB w.heap.size w' a' c' (bs ++ numL xs.length ++ xs) ∧ Ext no w w') := by
  refine (wBytes.ok _ _ _ _ _ _ (R := fun v w' => ∃ a' c', v = (.slice a' (bs ++ numL xs.length ++ xs).length c') ∧ OwnB w.heap.size w' a' c' (bs ++ numL xs.length ++ xs) ∧ Ext no w w') ?_).mono fun e w' ⟨v, he, a', c', hv, hw⟩ => ⟨a', c', by rw [he, hv], hw⟩
  unfold wBytes.M
  rw [wu64 (n := (xs.length : Int)) (by omega) (by omega)]
  refine (Num_spec h hl (by omega)).mono fun e w5 ⟨a5, c5, he, hO, hx5⟩ => ⟨a5, _, c5, he, ?_⟩
  have hnl : (numL xs.length).length ≤ 10 := numF_le 10 _
  obtain ⟨a', c', w7, hr, hO7, hx7⟩ := hO.append (t := 25) (ty := 25) Try.underlying25 hx5.size (xc := xc) (hx.no hx5) (by rw [List.length_append]; omega)
  exact ⟨a', _, c', w7, hr, a', c', rfl, hO7, hx5.then hx7 fun b hb => .inr hb⟩
def intR (s : List UInt8 × Int) : Int × (List UInt8 × Int) := (unzig (numR s).1, (numR s).2)
theorem RInt_spec (h : Rd w p bs k) (hl : bs.length < 1000000) :
    Calls Try.prog 100 #[.pointer (some (blk p))] w (GivesW (.int .i64 (intR (bs, k)).1) fun w' => Rd w' p (intR (bs, k)).2.1 (intR (bs, k)).2.2 ∧ Ext (fun b => b = p) w w') := by
  refine (wRInt.ok _ (R := fun v w' => v = .int .i64 (intR (bs, k)).1 ∧ Rd w' p (intR (bs, k)).2.1 (intR (bs, k)).2.2 ∧ Ext (fun b => b = p) w w') ?_).mono fun e w' ⟨v, he, hv, hw⟩ => ⟨by rw [he, hv], hw⟩
  unfold wRInt.M
  refine (RNum_spec h hl).mono fun e w4 ⟨he, hr, hx⟩ => ⟨_, he, by decide, ?_⟩
  rw [Q3I (numR_lt _)]
  exact ⟨rfl, hr, hx⟩
end
end Go.Proofs.Ytoempemllkebkaa.W