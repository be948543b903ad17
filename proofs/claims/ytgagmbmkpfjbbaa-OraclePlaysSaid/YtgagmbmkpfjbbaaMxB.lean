/- Operations that only read: what each asks, and the value it yields, in this world and in every world that reads alike. -/
import Derived.Test.YtgagmbmkpfjbbaaMxA
namespace Go.Mx

/-- what must stay as it is so that a reading yields the same again; none: nothing. -/
abbrev Chi := Option (World → Prop)
def Chi.at : Chi → World → Prop
  | none, _ => True
  | some c, w => c w

def aggK (P : Program) (t : TypeId) : Option Bool :=
  match P.underlying t with
  | some (.struct _) => some true
  | some (.array _ _) => some true
  | some _ => some false
  | none => none
def szB (P : Program) (t : TypeId) (n : Nat) : Bool :=
  match P.info? t with
  | some i => Nat.beq i.size n
  | none => false

def cellsAt (w : World) (a : Addr) : List Value → Nat → Prop
  | [], _ => True
  | v :: r, i => w.cell? (a.add i) = some v ∧ cellsAt w a r (i + 1)

section
variable (P : Program) (ρ : Operand → Value)

/-- an integer's operation. -/
def mint (op : BinOp) (k : IntKind) (a b : Int) (K : Value → Prop) : Prop :=
  match op with
  | .add => K (.int k (k.wrap (a + b)))
  | .sub => K (.int k (k.wrap (a - b)))
  | .mul => K (.int k (k.wrap (a * b)))
  | .quo => b ≠ 0 ∧ K (.int k (k.wrap (a.tdiv b)))
  | .rem => b ≠ 0 ∧ K (.int k (a.tmod b))
  | .and => K (.int k (k.wrap (BitVec.ofInt k.bits a &&& BitVec.ofInt k.bits b).toNat))
  | .or => K (.int k (k.wrap (BitVec.ofInt k.bits a ||| BitVec.ofInt k.bits b).toNat))
  | .xor => K (.int k (k.wrap (BitVec.ofInt k.bits a ^^^ BitVec.ofInt k.bits b).toNat))
  | .andNot => K (.int k (k.wrap (BitVec.ofInt k.bits a &&& ~~~(BitVec.ofInt k.bits b)).toNat))
  | .eql => K (.bool (a == b))
  | .neq => K (.bool (a != b))
  | .lss => K (.bool (decide (a < b)))
  | .leq => K (.bool (decide (a ≤ b)))
  | .gtr => K (.bool (decide (a > b)))
  | .geq => K (.bool (decide (a ≥ b)))
  | _ => False

/-- the run, taken as it is: for what has no rule of its own; its result is of a shape. -/
def asV (ty : TypeId) (s : Sem Value) (w : World) (K : Value → Chi → Prop) : Prop :=
  resEx P ty fun v => s.run P w = .ok v w ∧ K v (some fun w' => s.run P w' = .ok v w')

/-- no part of a value is an interface of which '==' may not be asked. -/
def okGuard (t : TypeId) (a b : Value) : Bool :=
  match a, b with
  | .agg _, .agg _ => !(P.eqGuardType P.depth t)
  | .nilIface, .nilIface => false
  | _, _ => true

def mbin (ty : TypeId) (w : World) (op : BinOp) (t : TypeId) (x y : Value) (K : Value → Chi → Prop) : Prop :=
  match op, x, y with
  | .shl, .int k a, .int _ b => 0 ≤ b ∧ K (.int k (k.wrap (a * 2 ^ (min b.toNat k.bits)))) none
  | .shr, .int k a, .int _ b => 0 ≤ b ∧ K (.int k (a.fdiv (2 ^ (min b.toNat k.bits)))) none
  | op, .int k a, .int k' b => bif decide (k = k') then mint op k a b (K · none) else False
  | .eql, .string a, .string b => K (.bool (a.toList == b.toList)) none
  | .neq, .string a, .string b => K (.bool (!(a.toList == b.toList))) none
  | .eql, .bool a, .bool b => match P.underlying t with | some .bool => K (.bool (a == b)) none | _ => False
  | .neq, .bool a, .bool b => match P.underlying t with | some .bool => K (.bool (!(a == b))) none | _ => False
  | .eql, .pointer a, .pointer none => match P.underlying t with | some (.pointer _) => K (.bool a.isNone) none | _ => False
  | .neq, .pointer a, .pointer none => match P.underlying t with | some (.pointer _) => K (.bool (!a.isNone)) none | _ => False
  | .eql, .slice a _ _, .slice none _ _ => match P.underlying t with | some (.slice _) => K (.bool a.isNone) none | _ => False
  | .neq, .slice a _ _, .slice none _ _ => match P.underlying t with | some (.slice _) => K (.bool (!a.isNone)) none | _ => False
  | _, _, _ => bif okGuard P t x y then asV P ty (binOp op t x y) w K else False

/-- an element of a row of functions: by its place. -/
def forksK : List Value → Nat → Int → (Value → Prop) → Prop
  | [], _, _, _ => True
  | c :: r, i, j, K => (j = Int.ofNat i → K c) ∧ forksK r (i + 1) j K
def isFns (cs : Array Value) : Bool := match cs[0]? with | some (Value.func _ _ _) => true | _ => false
theorem forksK_at {K : Value → Prop} : ∀ {l : List Value} {i : Nat} {j : Nat} (_ : forksK l i (Int.ofNat (i + j)) K) (hj : j < l.length), K l[j]
  | [], _, _, _, hj => by simp at hj
  | c :: r, i, 0, h, _ => h.1 rfl
  | c :: r, i, j + 1, h, hj => by
    have := forksK_at (l := r) (i := i + 1) (j := j) (by rw [show i + 1 + j = i + (j + 1) by omega]; exact h.2) (by simpa using hj)
    simpa using this
def mpart (t : TypeId) (cs : Array Value) (off : Nat) (K : Value → Prop) : Prop :=
  match P.info? t with
  | some i =>
    match aggK P t with
    | some true => K (.agg (cs.extract off (off + i.size)))
    | some false => (match cs[off]? with | some v => K v | none => False)
    | none => False
  | none => False

def optInt : Option Operand → (Option Int → Prop) → Prop
  | none, Φ => Φ none
  | some x, Φ => match ρ x with | .int _ n => Φ (some n) | _ => False

/-- low, high, max of a slice expression. -/
def mcut (len cap : Nat) (lo hi mx : Option Int) (K : Nat → Nat → Nat → Prop) : Prop :=
  match lo, hi, mx with
  | none, none, none => K 0 len cap
  | some l, none, none => 0 ≤ l ∧ l ≤ len ∧ K l.toNat len cap
  | none, some h, none => 0 ≤ h ∧ h ≤ cap ∧ K 0 h.toNat cap
  | some l, some h, none => 0 ≤ h ∧ h ≤ cap ∧ 0 ≤ l ∧ l ≤ h ∧ K l.toNat h.toNat cap
  | none, some h, some m => 0 ≤ m ∧ m ≤ cap ∧ 0 ≤ h ∧ h ≤ m ∧ K 0 h.toNat m.toNat
  | some l, some h, some m => 0 ≤ m ∧ m ≤ cap ∧ 0 ≤ h ∧ h ≤ m ∧ 0 ≤ l ∧ l ≤ h ∧ K l.toNat h.toNat m.toNat
  | _, none, some _ => False

def mslice (t : TypeId) (x : Value) (lo hi mx : Option Int) (K : Value → Prop) : Prop :=
  match P.underlying t, x with
  | some (.slice e), .slice a n c =>
    match P.info? e with
    | some i => mcut n c lo hi mx fun l h m => K (.slice (if m = l then a else a.map (·.add (l * i.size))) (h - l) (m - l))
    | none => False
  | some .string, .string s => mcut s.size s.size lo hi none fun l h _ => mx = none ∧ K (.string (s.extract l h))
  | some (.array n e), .pointer (some a) =>
    match P.info? e with
    | some i => mcut n n lo hi mx fun l h m => K (.slice (some (if m = l then a else a.add (l * i.size))) (h - l) (m - l))
    | none => False
  | _, _ => False

def mbuild (t : TypeId) (parts : List (Nat × Value)) (K : Value → Prop) : Prop :=
  match P.info? t, P.underlying t with
  | some i, some (.struct fields) =>
    match i.zero with
    | some z =>
      match Instr.fill (fun j => (fields[j]?).bind fun fl => (P.info? fl.type).map fun u => (fl.offset, u.size)) z.cells parts with
      | some cells => bif fields.all (fun fl => (P.info? fl.type).isSome) then K (.agg cells) else False
      | none => False
    | none => False
  | some i, some (.array _ e) =>
    match i.zero, P.info? e with
    | some z, some u =>
      match Instr.fill (fun j => some (j * u.size, u.size)) z.cells parts with
      | some cells => K (.agg cells)
      | none => False
    | _, _ => False
  | _, _ => False

/-- a builtin that reads. -/
def mcallb (ty : TypeId) (w : World) (b : Builtin) (ts : Array TypeId) (args : List Value) (K : Value → Chi → Prop) : Prop :=
  match b, args with
  | .len, [.slice _ n _] => match (ts[0]?).bind P.underlying with | some (.slice _) => K (.int .i64 n) none | _ => False
  | .len, [.string s] => match (ts[0]?).bind P.underlying with | some .string => K (.int .i64 s.size) none | _ => False
  | .cap, [.slice _ _ c] => match (ts[0]?).bind P.underlying with | some (.slice _) => K (.int .i64 c) none | _ => False
  | .max, [.int k a, .int _ b] => K (.int k (if b > a then b else a)) none
  | .min, [.int k a, .int _ b] => K (.int k (if b < a then b else a)) none
  | .len, args => asV P ty (Builtin.len_ ts ty args.toArray) w K
  | _, _ => False

def mload (t : TypeId) (a : Addr) (w : World) (K : Value → Chi → Prop) : Prop :=
  match shOf P t with
  | .one s => (match aggK P t with
    | some false => s.ex fun v => w.cell? a = some v ∧ K v (some fun w' => w'.cell? a = some v)
    | _ => False)
  | .agg l =>
    (match aggK P t, szB P t l.length with
    | some true, true => exs l fun vs => cellsAt w a vs 0 ∧ K (.agg vs.toArray) (some fun w' => cellsAt w' a vs 0)
    | _, _ => False)
  | .big =>
    (match aggK P t with
    | some true => ∃ cs : Array Value, szB P t cs.size = true ∧ cellsAt w a cs.toList 0 ∧ K (.agg cs) (some fun w' => cellsAt w' a cs.toList 0)
    | _ => False)

/-- an operation that reads alone. -/
def mrd (o : Oper) (w : World) (K : Value → Chi → Prop) : Prop :=
  match o.op with
  | .move x => K (ρ x) none
  | .assign x => K (ρ x) none
  | .pick c a b => match ρ c with | .bool t => K (bif t then ρ a else ρ b) none | _ => False
  | .nilCheck x =>
    match ρ x with
    | .pointer p => p.elim False fun a => K (.pointer (some a)) none
    | .func (.func k) first cap => K (.func (.func k) first cap) none
    | _ => False
  | .binOp op t x y _ => mbin P o.type w op t (ρ x) (ρ y) K
  | .unOp op _ x =>
    match op, ρ x with
    | .not, .bool b => K (.bool (!b)) none
    | .neg, .int k n => K (.int k (k.wrap (0 - n))) none
    | _, _ => False
  | .extract x i => match ρ x with | .tuple vs => (match vs[i]? with | some v => K v none | none => False) | _ => False
  | .fieldAddr s x i =>
    match P.underlying s, ρ x with
    | some (.struct fs), .pointer (some a) =>
      match fs[i]? with
      | some fl => match P.info? fl.type with | some u => (bif Nat.beq u.size 0 then False else K (.pointer (some (a.add fl.offset))) none) | none => False
      | none => False
    | _, _ => False
  | .field s x i =>
    match P.underlying s, ρ x with
    | some (.struct fs), .agg cs => (match fs[i]? with | some fl => mpart P fl.type cs fl.offset (K · none) | none => False)
    | _, _ => False
  | .indexAddr t x i =>
    match P.underlying t, ρ x, ρ i with
    | some (.slice e), .slice p n _, .int _ j =>
      match P.info? e with
      | some u => p.elim False fun a => 0 ≤ j ∧ j < n ∧ K (.pointer (some (a.add (j.toNat * u.size)))) none
      | none => False
    | some (.array n e), .pointer (some a), .int _ j =>
      match P.info? e with
      | some u => 0 ≤ j ∧ j < n ∧ K (.pointer (some (a.add (j.toNat * u.size)))) none
      | none => False
    | _, _, _ => False
  | .index t x i =>
    match P.underlying t, ρ x, ρ i with
    | some .string, .string s, .int _ j => 0 ≤ j ∧ ∃ b, s[j.toNat]? = some b ∧ K (.int .u8 b.toNat) none
    | some (.array n e), .agg cs, .int _ j => match P.info? e with | some u => 0 ≤ j ∧ j < n ∧ (bif isFns cs then (bif Nat.beq u.size 1 && Nat.ble n cs.size then (match aggK P e with | some false => forksK cs.toList 0 j (K · none) | _ => False) else False) else mpart P e cs (j.toNat * u.size) (K · none)) | none => False
    | _, _, _ => False
  | .slice t x lo hi mx => optInt ρ lo fun l => optInt ρ hi fun h => optInt ρ mx fun m => mslice P t (ρ x) l h m (K · none)
  | .makeFunc fn first cap => K (.func fn (first.map ρ) (cap.map ρ)) none
  | .makeInterface t x => match P.underlying t with | some (.interface _) => False | some _ => K (.iface t (ρ x)) none | none => False
  | .build t parts => mbuild P t (parts.toList.map fun p => (p.1, ρ p.2)) (K · none)
  | .convert s d x =>
    match P.underlying s, P.underlying d, ρ x with
    | some _, some (.int k), .int _ n => K (.int k (k.wrap n)) none
    | some _, some .string, .string s => K (.string s) none
    | _, _, _ => asV P o.type (convert s d (ρ x)) w K
  | .load t x => match ρ x with | .pointer (some a) => mload P t a w K | _ => False
  | .call c => match c.callee with | .builtin b => mcallb P o.type w b c.argTypes (c.args.toList.map ρ) K | _ => False
  | .lookup t x i ok => asV P o.type (Instr.lookup t (ρ x) (ρ i) ok) w K
  | .typeAssert x t d ok => asV P o.type (Instr.typeAssert (ρ x) t d ok) w K
  | _ => False
end

/-! ### the rules are the model's -/
section
variable {P : Program} {ρ : Operand → Value}

/-- the shape of every rule below. -/
def Good (P : Program) (s : Sem Next) (w : World) (K : Value → Chi → Prop) : Prop :=
  ∃ (v : Value) (χ : Chi), Chi.at χ w ∧ (∀ w', Chi.at χ w' → s.run P w' = .ok (.value v) w') ∧ K v χ
theorem Good.pure_ {s : Sem Next} {w : World} {K : Value → Chi → Prop} {v : Value} (h : ∀ w', s.run P w' = .ok (.value v) w') (hK : K v none) : Good P s w K :=
  ⟨v, none, trivial, fun w' _ => h w', hK⟩
theorem asV_ok {ty : TypeId} {s : Sem Value} {w : World} {K : Value → Chi → Prop} (h : asV P ty s w K) :
    ∃ (v : Value) (χ : Chi), Chi.at χ w ∧ (∀ w', Chi.at χ w' → s.run P w' = .ok v w') ∧ K v χ := by
  obtain ⟨v, h1, h2⟩ := resEx_out h
  exact ⟨v, some fun w' => s.run P w' = .ok v w', h1, fun _ h => h, h2⟩

theorem cellsAt_loadFrom {w : World} {a : Addr} : ∀ (vs : List Value) (i : Nat) (acc : Array Value), cellsAt w a vs i →
    (loadCellsFrom a i vs.length acc).run P w = .ok (acc ++ vs.toArray) w
  | [], _, acc, _ => by simp [loadCellsFrom]
  | v :: r, i, acc, h => by
    simp only [List.length_cons, loadCellsFrom, Sem.run_bind, run_load, h.1, Result.andThen_ok]
    rw [cellsAt_loadFrom r (i + 1) (acc.push v) h.2]
    have e : acc.push v ++ r.toArray = acc ++ (v :: r).toArray := by
      apply Array.ext'
      simp
    rw [e]

theorem run_underlying' {t : TypeId} {d : TypeDesc} (h : P.underlying t = some d) (w : World) : (underlying t).run P w = .ok d w := by
  simp [underlying, h]
theorem run_typeInfo' {t : TypeId} {i : TypeInfo} (h : P.info? t = some i) (w : World) : (typeInfo t).run P w = .ok i w := by
  simp [typeInfo, h]
theorem run_sizeOf' {t : TypeId} {i : TypeInfo} (h : P.info? t = some i) (w : World) : (sizeOf t).run P w = .ok i.size w := by
  simp [sizeOf, run_typeInfo' h]
theorem run_isAgg' {t : TypeId} {b : Bool} (h : aggK P t = some b) (w : World) : (isAgg t).run P w = .ok b w := by
  unfold aggK at h
  cases hu : P.underlying t with
  | none => simp [hu] at h
  | some d =>
    simp only [hu] at h
    simp only [isAgg, Sem.run_bind, run_underlying' hu, Result.andThen_ok]
    cases d <;> simp at h <;> subst h <;> rfl
theorem szB_some {t : TypeId} {n : Nat} (h : szB P t n = true) : ∃ i, P.info? t = some i ∧ i.size = n := by
  unfold szB at h
  split at h
  · rename_i i hi; exact ⟨i, hi, beq_true h⟩
  · cases h
theorem run_part {t : TypeId} {cs : Array Value} {off : Nat} {K : Value → Prop} (h : mpart P t cs off K) :
    ∃ v, (∀ w, (part t cs off).run P w = .ok v w) ∧ K v := by
  unfold mpart at h
  split at h
  · rename_i i hi
    split at h
    · rename_i hb
      exact ⟨_, fun w => by simp [part, run_isAgg' hb, run_sizeOf' hi], h⟩
    · rename_i hb
      split at h
      · rename_i v hv
        exact ⟨v, fun w => by simp [part, run_isAgg' hb, hv], h⟩
      · exact h.elim
    · exact h.elim
  · exact h.elim
theorem run_loadVar {t : TypeId} {a : Addr} {w : World} {K : Value → Chi → Prop} (h : mload P t a w K) :
    ∃ (v : Value) (χ : Chi), Chi.at χ w ∧ (∀ w', Chi.at χ w' → (loadVar t a).run P w' = .ok v w') ∧ K v χ := by
  unfold mload at h
  split at h
  · split at h
    · rename_i hb
      obtain ⟨v, h1, h2⟩ := CS.ex_out h
      exact ⟨v, some fun w' => w'.cell? a = some v, h1, fun w' h => by
        simp only [Chi.at] at h
        simp [loadVar, run_isAgg' hb, h], h2⟩
    · exact h.elim
  · rename_i l _
    split at h
    · rename_i hb hs
      obtain ⟨vs, hl, h1, h2⟩ := exs_out h
      obtain ⟨i, hi, hz⟩ := szB_some hs
      exact ⟨_, some fun w' => cellsAt w' a vs 0, h1, fun w' h => by
        simp only [Chi.at] at h
        have e := cellsAt_loadFrom (P := P) vs 0 #[] h
        simp [loadVar, run_isAgg' hb, run_sizeOf' hi, loadCells, hz, ← hl, e], h2⟩
    · exact h.elim
  · split at h
    · rename_i hb
      obtain ⟨cs, hs, h1, h2⟩ := h
      obtain ⟨i, hi, hz⟩ := szB_some hs
      exact ⟨_, some fun w' => cellsAt w' a cs.toList 0, h1, fun w' h => by
        simp only [Chi.at] at h
        have e := cellsAt_loadFrom (P := P) cs.toList 0 #[] h
        simp only [Array.length_toList] at e
        simp [loadVar, run_isAgg' hb, run_sizeOf' hi, loadCells, hz, e], h2⟩
    · exact h.elim

end
end Go.Mx
