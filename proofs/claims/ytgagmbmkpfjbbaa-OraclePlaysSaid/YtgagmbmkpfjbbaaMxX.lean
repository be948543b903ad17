/- Structs, and rows of structs, that are handed in; cells of a row of structs. -/
import Derived.Test.YtgagmbmkpfjbbaaMxT
set_option linter.unusedSimpArgs false
set_option linter.unusedVariables false
set_option linter.unusedSectionVars false
namespace Go.Mx
/-- cells, one part behind the other. -/
def SeqQ : List (Nat × (World → List Value → Prop)) → World → List Value → Prop
  | [], _, cs => cs = []
  | q :: r, W, cs => ∃ x y, cs = x ++ y ∧ x.length = q.1 ∧ q.2 W x ∧ SeqQ r W y
def FieldsOk (P : Program) : List Field → Nat → List (Nat × (World → List Value → Prop)) → Nat → Prop
  | [], off, [], size => off = size
  | f :: r, off, q :: s, size => (f.offset = off ∧ P.cellsOf f.type = q.1 ∧ Opens P f.type q.2) ∧ FieldsOk P r (off + q.1) s size
  | _, _, _, _ => False
theorem seq_of {P : Program} {W : World} {cs : List Value} : ∀ {l : List Field} {off : Nat} {qs : List (Nat × (World → List Value → Prop))} {size : Nat}, FieldsOk P l off qs size → cs.length = size →
    (∀ (i : Nat) (f : Field), l[i]? = some f → ∀ Q, Opens P f.type Q → Q W ((cs.drop f.offset).take (P.cellsOf f.type))) → off ≤ cs.length → (∀ q ∈ qs, True) → SeqQ qs W (cs.drop off)
  | [], off, [], size, h, hl, _, _, _ => by
    simp only [FieldsOk] at h
    simp only [SeqQ]
    exact List.drop_eq_nil_of_le (by omega)
  | f :: r, off, q :: s, size, h, hl, hf, hle, _ => by
    obtain ⟨⟨h1, h2, h3⟩, h4⟩ := h
    have h0 := hf 0 f rfl q.2 h3
    rw [h1, h2] at h0
    have hsz : ∀ {l : List Field} {off : Nat} {qs : List (Nat × (World → List Value → Prop))}, FieldsOk P l off qs size → off ≤ size := by
      intro l
      induction l with
      | nil => intro off qs h; cases qs with | nil => exact Nat.le_of_eq h | cons _ _ => exact h.elim
      | cons f r ih => intro off qs h; cases qs with | nil => exact h.elim | cons q s => have := ih h.2; omega
    have hle2 := hsz h4
    refine ⟨(cs.drop off).take q.1, cs.drop (off + q.1), ?_, ?_, h0, ?_⟩
    · rw [← List.drop_drop, List.take_append_drop]
    · rw [List.length_take, List.length_drop]; omega
    · exact seq_of h4 hl (fun i f hi => hf (i + 1) f (by simpa using hi)) (by omega) (fun _ _ => trivial)
  | [], _, _ :: _, _, h, _, _, _, _ => h.elim
  | _ :: _, _, [], _, h, _, _, _, _ => h.elim
/-- a struct: its fields, one behind the other. -/
theorem opens_seq {P : Program} {t : TypeId} {fs : Array Field} {size : Nat} {qs : List (Nat × (World → List Value → Prop))} (ht : P.underlying t = some (.struct fs)) (hs : P.cellsOf t = size) (h : FieldsOk P fs.toList 0 qs size) : Opens P t (SeqQ qs) :=
  (opens_struct ht hs).mono fun W cs ⟨hl, hf⟩ => seq_of (off := 0) h hl (fun i f hi => hf i f (by rw [← Array.getElem?_toList]; exact hi)) (Nat.zero_le _) fun _ _ => trivial
/-- a row of structs. -/
theorem opens_rows {P : Program} {t e : TypeId} {size : Nat} {α : Type} {f : α → List Value} {G : World → α → Prop} (ht : P.underlying t = some (.slice e)) (hs : P.cellsOf e = size) (he : Opens P e fun W cs => ∃ x, cs = f x ∧ G W x) :
    Opens P t fun W cs => ∃ (a : Option Addr) (c : Nat) (l : List α), cs = [.slice a l.length c] ∧ l.length ≤ c ∧ c ≤ maxLen ∧ RowAt W a (l.flatMap f) ∧ ∀ x ∈ l, G W x :=
  (opens_slice (size := size) ht hs he).mono fun W cs ⟨a, l, c, rows, h1, h2, h3, h4, h5, h6⟩ => by
    obtain ⟨xs, h7, h8⟩ := rows_of (rows := rows) f (G W) fun r hr => (h6 r hr).2
    subst h7
    rw [List.length_map] at h4
    subst h4
    exact ⟨a, c, xs, h1, h2, h3, by rw [List.flatMap_def]; exact h5, h8⟩
section
variable {α : Type} {f : α → List Value} {n : Nat} {w : World} {a : Option Addr} {l : List α}
theorem flat_length (hf : ∀ x, (f x).length = n) (l : List α) : (l.flatMap f).length = l.length * n := by
  induction l with
  | nil => simp
  | cons x r ih => rw [List.flatMap_cons, List.length_append, ih, hf, List.length_cons, Nat.succ_mul]; omega
theorem flat_get (hf : ∀ x, (f x).length = n) : ∀ {l : List α} {i : Nat} {x : α}, l[i]? = some x → ∀ j, j < n → (l.flatMap f)[i * n + j]? = (f x)[j]?
  | [], i, x, hi, j, hj => by simp at hi
  | a :: r, 0, x, hi, j, hj => by
    simp only [List.getElem?_cons_zero, Option.some.injEq] at hi
    subst hi
    rw [List.flatMap_cons, Nat.zero_mul, Nat.zero_add, List.getElem?_append_left (by rw [hf]; exact hj)]
  | a :: r, i + 1, x, hi, j, hj => by
    simp only [List.getElem?_cons_succ] at hi
    rw [List.flatMap_cons, List.getElem?_append_right (by rw [hf, Nat.succ_mul]; omega), show (i + 1) * n + j - (f a).length = i * n + j by rw [hf, Nat.succ_mul]; omega]
    exact flat_get hf hi j hj
theorem cellsAt_of {w : World} {ad : Addr} : ∀ {cs : List Value} {i : Nat}, (∀ j v, cs[j]? = some v → w.cell? (ad.add (i + j)) = some v) → cellsAt w ad cs i
  | [], _, _ => trivial
  | v :: r, i, h => ⟨h 0 v rfl, cellsAt_of fun j u hu => by rw [show i + 1 + j = i + (j + 1) by omega]; exact h (j + 1) u hu⟩
/-- a cell of a struct in a row. -/
theorem RowAt.fcell (hf : ∀ x, (f x).length = n) {ad : Addr} (h : RowAt w (some ad) (l.flatMap f)) {i : Nat} {x : α} (hi : l[i]? = some x) (j : Nat) {v : Value} (hv : (f x)[j]? = some v) : w.cell? ((ad.add (i * n)).add j) = some v := by
  rw [add_add]
  have hj : j < n := by rw [← hf x]; exact (List.getElem?_eq_some_iff.1 hv).1
  exact h.at_ ((flat_get hf hi j hj).trans hv)
/-- a struct of a row. -/
theorem RowAt.floads (hf : ∀ x, (f x).length = n) {ad : Addr} (h : RowAt w (some ad) (l.flatMap f)) {i : Nat} {x : α} (hi : l[i]? = some x) : cellsAt w (ad.add (i * n)) (f x) 0 :=
  cellsAt_of fun j v hv => by rw [Nat.zero_add]; exact h.fcell hf hi j hv
theorem RowAt.faddr (hf : ∀ x, (f x).length = n) (hn : 0 < n) (h : RowAt w a (l.flatMap f)) {i : Nat} (hi : i < l.length) : ∃ ad, a = some ad := h.addr fun e => by
  have := flat_length hf l
  rw [e, List.length_nil] at this
  rcases Nat.mul_eq_zero.1 this.symm with h | h <;> omega
end
end Go.Mx
