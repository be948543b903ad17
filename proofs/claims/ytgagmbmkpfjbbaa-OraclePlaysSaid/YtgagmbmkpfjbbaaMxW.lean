/- What the arguments of a row are in memory; a row whose law answers true and turns no old block. -/
import Derived.Test.YtgagmbmkpfjbbaaMxR
import Derived.ProofKit
import Derived.OpenShut
import Derived.ShutString
import Derived.ChangeOld
import Derived.Below
set_option linter.unusedSimpArgs false
set_option linter.unusedVariables false
set_option linter.unnecessarySimpa false
set_option linter.unusedSectionVars false
namespace Go.Mx
open Go.RowKit

/-- what a value of a type is in memory, if it reads. -/
structure Opens (P : Program) (t : TypeId) (Q : World → List Value → Prop) : Prop where
  on : ∀ {H : Type} (enc : TypeId × Value → H) (W : World) (base : Nat) (sp : Nat → Bool) (held : Bool) (n : Nat) (cs : List Value) (x : DataW H × List MemPlace), DataW.trod enc P W base sp held n t cs = some x → Q W cs
section
variable {P : Program} {t e : TypeId}
theorem opens_int {k : IntKind} (ht : P.underlying t = some (.int k)) : Opens P t fun _ cs => ∃ n, cs = [.int k n] ∧ (Lit.int k n).wf = true := .mk fun enc W base sp held n cs x h => by
  obtain ⟨n, h1, _, h2⟩ := DataW.trod_int ht h
  exact ⟨n, h1, h2⟩
theorem opens_bool (ht : P.underlying t = some .bool) : Opens P t fun _ cs => ∃ b, cs = [.bool b] := .mk fun enc W base sp held n cs x h => by
  obtain ⟨b, h1, _⟩ := DataW.trod_bool ht h
  exact ⟨b, h1⟩
theorem opens_string (ht : P.underlying t = some .string) : Opens P t fun _ cs => ∃ s : ByteArray, cs = [.string s] ∧ s.size ≤ maxLen := .mk fun enc W base sp held n cs x h => by
  obtain ⟨b, h1, _, h2⟩ := DataW.trod_string ht h
  exact ⟨b, h1, h2⟩
theorem rowAt_flatten {W : World} {a : Addr} {size : Nat} : ∀ (rows : List (List Value)) (k : Nat), (∀ j r, rows[j]? = some r → r.length = size ∧ RowAt W (some (a.add ((k + j) * size))) r) → RowAt W (some (a.add (k * size))) rows.flatten
  | [], k, _ => RowAt.nil _ _
  | r :: rs, k, h => fun i v hv => by
    obtain ⟨hl, hr⟩ := h 0 r rfl
    have ih := rowAt_flatten rs (k + 1) fun j r' hj => by
      have := h (j + 1) r' (by simpa using hj)
      rwa [show k + (j + 1) = k + 1 + j by omega] at this
    rw [List.flatten_cons] at hv
    by_cases hi : i < r.length
    · rw [List.getElem?_append_left hi] at hv
      exact hr i v hv
    · rw [List.getElem?_append_right (by omega)] at hv
      refine ⟨_, rfl, ?_⟩
      have := ih.at_ hv
      rw [add_add] at this ⊢
      rwa [show (k + 1) * size + (i - r.length) = k * size + i by rw [Nat.add_mul, hl]; omega] at this
theorem rowAt_cells {W : World} {base n : Nat} {a : Addr} {cs : List Value} (h : W.cells? base a n = some cs) : cs.length = n ∧ RowAt W (some a) cs := by
  obtain ⟨h1, h2, h3⟩ := World.cells?_some h
  refine ⟨h2, fun i v hv => ⟨a, rfl, ?_⟩⟩
  have hi := (List.getElem?_eq_some_iff.1 hv).1
  rw [h3 i (by omega), hv]
/-- a slice: its elements, one behind the other. -/
theorem opens_slice {size : Nat} {Q : World → List Value → Prop} (ht : P.underlying t = some (.slice e)) (hs : P.cellsOf e = size) (he : Opens P e Q) :
    Opens P t fun W cs => ∃ (a : Option Addr) (l c : Nat) (rows : List (List Value)), cs = [.slice a l c] ∧ l ≤ c ∧ c ≤ maxLen ∧ rows.length = l ∧ RowAt W a rows.flatten ∧ (∀ r ∈ rows, r.length = size ∧ Q W r) := .mk fun enc W base sp held n cs x h => by
  rcases DataW.trod_slice ht h with ⟨h1, _⟩ | ⟨a, len, cap, elems, rest, m, _, h1, _, _, h2, h3, h4, h5, _⟩
  · exact ⟨none, 0, 0, [], h1, Nat.le_refl _, Nat.zero_le _, rfl, RowAt.nil _ _, by simp⟩
  · rw [hs] at h5
    have key : ∀ i, i < len → ∃ r, W.cells? base (a.add (i * size)) size = some r ∧ Q W r := fun i hi => by
      have := h5 i hi
      rw [List.getElem?_eq_getElem (by omega)] at this
      obtain ⟨r, hr, hq⟩ := Option.bind_eq_some_iff.1 this
      exact ⟨r, hr, he.on enc W base sp held m r _ hq⟩
    have hrow : ∀ j, ((List.range len).map fun i => (W.cells? base (a.add (i * size)) size).getD [])[j]? = if j < len then some ((W.cells? base (a.add (j * size)) size).getD []) else none := fun j => by
      rw [List.getElem?_map]
      by_cases hj : j < len
      · rw [List.getElem?_range hj]; simp [hj]
      · rw [List.getElem?_eq_none (by simpa using hj)]; simp [hj]
    refine ⟨some a, len, cap, (List.range len).map fun i => (W.cells? base (a.add (i * size)) size).getD [], h1, h2, h3, by simp, ?_, ?_⟩
    · have := rowAt_flatten (W := W) (a := a) (size := size) ((List.range len).map fun i => (W.cells? base (a.add (i * size)) size).getD []) 0 fun j r hj => by
        rw [hrow] at hj
        split at hj
        · obtain ⟨r', hr, _⟩ := key j ‹_›
          rw [hr] at hj
          cases hj
          rw [Nat.zero_add]
          exact rowAt_cells hr
        · cases hj
      rwa [Nat.zero_mul] at this
    · intro r hr
      obtain ⟨j, hj, rfl⟩ := List.mem_map.1 hr
      obtain ⟨r', hr', hq⟩ := key j (List.mem_range.1 hj)
      rw [hr']
      exact ⟨(rowAt_cells hr').1, hq⟩
/-- a struct: each of its fields. -/
theorem opens_struct {fs : Array Field} {size : Nat} (ht : P.underlying t = some (.struct fs)) (hs : P.cellsOf t = size) :
    Opens P t fun W cs => cs.length = size ∧ ∀ (i : Nat) (f : Field), fs[i]? = some f → ∀ Q, Opens P f.type Q → Q W ((cs.drop f.offset).take (P.cellsOf f.type)) := .mk fun enc W base sp held n cs x h => by
  obtain ⟨xs, m, _, _, h1, h2, h3⟩ := DataW.trod_struct ht h
  refine ⟨by rw [h1, hs], fun i f hf Q hQ => ?_⟩
  have h4 := h3 i f hf
  have hi := (Array.getElem?_eq_some_iff.1 hf).1
  rw [List.getElem?_eq_getElem (by omega)] at h4
  exact hQ.on enc W base sp held m _ _ h4
theorem Opens.mono {Q Q' : World → List Value → Prop} (h : Opens P t Q) (k : ∀ W cs, Q W cs → Q' W cs) : Opens P t Q' := .mk fun enc W base sp held n cs x hx => k _ _ (h.on enc W base sp held n cs x hx)
theorem flatten_one {rows : List (List Value)} {α : Type} (f : α → Value) (h : ∀ r ∈ rows, ∃ x, r = [f x]) : ∃ xs : List α, rows.flatten = xs.map f ∧ xs.length = rows.length := by
  induction rows with
  | nil => exact ⟨[], rfl, rfl⟩
  | cons r rs ih =>
    obtain ⟨x, hx⟩ := h r List.mem_cons_self
    obtain ⟨xs, h1, h2⟩ := ih fun r hr => h r (List.mem_cons_of_mem _ hr)
    exact ⟨x :: xs, by rw [List.flatten_cons, hx, h1]; rfl, by simp [h2]⟩
theorem rows_of {rows : List (List Value)} {α : Type} (f : α → List Value) (G : α → Prop) (h : ∀ r ∈ rows, ∃ x, r = f x ∧ G x) : ∃ xs : List α, rows = xs.map f ∧ ∀ x ∈ xs, G x := by
  induction rows with
  | nil => exact ⟨[], rfl, by simp⟩
  | cons r rs ih =>
    obtain ⟨x, hx, hg⟩ := h r List.mem_cons_self
    obtain ⟨xs, h1, h2⟩ := ih fun r hr => h r (List.mem_cons_of_mem _ hr)
    exact ⟨x :: xs, by rw [hx, h1]; rfl, fun y hy => by rcases List.mem_cons.1 hy with rfl | hy; exact hg; exact h2 y hy⟩
theorem wf_u8 {n : Int} (h : (Lit.int .u8 n).wf = true) : 0 ≤ n ∧ n < 256 := by
  simp [Lit.wf, IntKind.min, IntKind.max, IntKind.signed, IntKind.bits] at h; omega
theorem wf_u64 {n : Int} (h : (Lit.int .u64 n).wf = true) : 0 ≤ n ∧ n < 18446744073709551616 := by
  simp [Lit.wf, IntKind.min, IntKind.max, IntKind.signed, IntKind.bits] at h; omega
theorem wf_i64 {n : Int} (h : (Lit.int .i64 n).wf = true) : -9223372036854775808 ≤ n ∧ n < 9223372036854775808 := by
  simp [Lit.wf, IntKind.min, IntKind.max, IntKind.signed, IntKind.bits] at h; omega
/-- bytes. -/
def BytesQ (W : World) (cs : List Value) : Prop := ∃ (a : Option Addr) (c : Nat) (bs : List UInt8), cs = [.slice a bs.length c] ∧ bs.length ≤ c ∧ c ≤ maxLen ∧ RowAt W a (bytesV bs)
theorem opens_bytes (ht : P.underlying t = some (.slice e)) (hs : P.cellsOf e = 1) (he : P.underlying e = some (.int .u8)) : Opens P t BytesQ :=
  (opens_slice ht hs (opens_int he)).mono fun W cs ⟨a, l, c, rows, h1, h2, h3, h4, h5, h6⟩ => by
    obtain ⟨xs, h7, h8⟩ := flatten_one (rows := rows) u8V fun r hr => by
      obtain ⟨n, hn, hw⟩ := (h6 r hr).2
      have := wf_u8 hw
      exact ⟨UInt8.ofNat n.toNat, by rw [hn, u8V]; congr 2; simp; omega⟩
    rw [h7] at h5
    subst h4
    exact ⟨a, c, xs, by rw [h8]; exact h1, by omega, h3, h5⟩
/-- whole numbers. -/
def IntsQ (k : IntKind) (W : World) (cs : List Value) : Prop := ∃ (a : Option Addr) (c : Nat) (xs : List Int), cs = [.slice a xs.length c] ∧ xs.length ≤ c ∧ c ≤ maxLen ∧ RowAt W a (xs.map fun n => Value.int k n) ∧ ∀ x ∈ xs, (Lit.int k x).wf = true
theorem opens_ints {k : IntKind} (ht : P.underlying t = some (.slice e)) (hs : P.cellsOf e = 1) (he : P.underlying e = some (.int k)) : Opens P t (IntsQ k) :=
  (opens_slice ht hs (opens_int he)).mono fun W cs ⟨a, l, c, rows, h1, h2, h3, h4, h5, h6⟩ => by
    obtain ⟨xs, h7, h8⟩ := rows_of (rows := rows) (fun n => [Value.int k n]) (fun n => (Lit.int k n).wf = true) fun r hr => (h6 r hr).2
    subst h7
    have : (xs.map fun n => [Value.int k n]).flatten = xs.map fun n => Value.int k n := by
      clear h1 h2 h3 h4 h5 h6 h8
      induction xs with
      | nil => rfl
      | cons x r ih => simp only [List.map_cons, List.flatten_cons, ih]; rfl
    rw [this] at h5
    rw [List.length_map] at h4
    subst h4
    exact ⟨a, c, xs, h1, h2, h3, h5, h8⟩
end
/-- a slice of bytes, as an element. -/
structure BS where
  a : Option Addr
  c : Nat
  bs : List UInt8
def BS.v (x : BS) : Value := .slice x.a x.bs.length x.c
def BS.good (W : World) (x : BS) : Prop := x.bs.length ≤ x.c ∧ RowAt W x.a (bytesV x.bs)
def BytessQ (W : World) (cs : List Value) : Prop := ∃ (a : Option Addr) (c : Nat) (xs : List BS), cs = [.slice a xs.length c] ∧ xs.length ≤ c ∧ c ≤ maxLen ∧ RowAt W a (xs.map BS.v) ∧ ∀ x ∈ xs, x.good W
theorem flatten_ones {α : Type} (f : α → Value) : ∀ xs : List α, (xs.map fun x => [f x]).flatten = xs.map f
  | [] => rfl
  | x :: r => by simp only [List.map_cons, List.flatten_cons, flatten_ones f r]; rfl
theorem opens_bytess {P : Program} {t e u : TypeId} (ht : P.underlying t = some (.slice e)) (hs : P.cellsOf e = 1) (he : P.underlying e = some (.slice u)) (hsu : P.cellsOf u = 1) (hu : P.underlying u = some (.int .u8)) : Opens P t BytessQ :=
  (opens_slice ht hs (opens_bytes he hsu hu)).mono fun W cs ⟨a, l, c, rows, h1, h2, h3, h4, h5, h6⟩ => by
    obtain ⟨xs, h7, h8⟩ := rows_of (rows := rows) (fun x : BS => [x.v]) (fun x => x.good W) fun r hr => by
      obtain ⟨a, c, bs, q1, q2, q3, q4⟩ := (h6 r hr).2
      exact ⟨⟨a, c, bs⟩, q1, q2, q4⟩
    subst h7
    rw [flatten_ones] at h5
    rw [List.length_map] at h4
    subst h4
    exact ⟨a, c, xs, h1, h2, h3, h5, h8⟩
theorem Ext.below {w w' : World} (h : Ext no w w') : Below w.heap.size w w' := ⟨h.os, h.tape, h.output, h.size, fun k hk => h.block k hk id⟩
end Go.Mx
