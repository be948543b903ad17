/- Entries in a row, and where their bytes lie. -/
import Derived.Test.YtlfijjmjmgobhaaEntF
import Derived.Test.YtlfijjmjmgobhaaMxT
set_option linter.unusedVariables false
set_option linter.unusedSimpArgs false
set_option maxRecDepth 20000
namespace Go.Proofs.Ytlfijjmjmgobhaa
open Go Go.Mx Go.Proofs
/-- an entry, and where its bytes lie. -/
structure PE where
  e : Ent
  a : Option Addr
  c : Nat
def PE.C (x : PE) : List Value := entC x.e x.a x.c
def PE.ok (w : World) (o : Own) (x : PE) : Prop := Row w o x.a (bytesV x.e.body) ∧ x.e.body.length ≤ x.c ∧ x.e.fit
def PE.Cs (l : List PE) : List Value := l.flatMap PE.C
theorem PE.len (x : PE) : x.C.length = 8 := rfl
theorem PE.Cs_length (l : List PE) : (PE.Cs l).length = l.length * 8 := by
  induction l with
  | nil => rfl
  | cons x r ih => simp only [PE.Cs, List.flatMap_cons, List.length_append, List.length_cons] at ih ⊢; rw [ih, PE.len]; omega
theorem PE.Cs_get : ∀ {l : List PE} {i : Nat} {x : PE}, l[i]? = some x → ∀ j, j < 8 → (PE.Cs l)[i * 8 + j]? = x.C[j]?
  | [], i, x, hi, j, hj => by simp at hi
  | a :: r, 0, x, hi, j, hj => by
    simp only [List.getElem?_cons_zero, Option.some.injEq] at hi
    subst hi
    simp only [PE.Cs, List.flatMap_cons, Nat.zero_mul, Nat.zero_add]
    rw [List.getElem?_append_left (by rw [PE.len]; omega)]
  | a :: r, i + 1, x, hi, j, hj => by
    simp only [List.getElem?_cons_succ] at hi
    have := PE.Cs_get hi j hj
    simp only [PE.Cs, List.flatMap_cons] at this ⊢
    rw [List.getElem?_append_right (by rw [PE.len]; omega), show (i + 1) * 8 + j - a.C.length = i * 8 + j by rw [PE.len]; omega]
    exact this
theorem PE.Cs_set {l : List PE} {i : Nat} (x : PE) (h : i < l.length) : setAll (PE.Cs l) (i * 8) x.C = PE.Cs (l.set i x) := setAll_flat (f := PE.C) (n := 8) PE.len x h
theorem PE.one (x : PE) : ∀ u ∈ x.C, u.oneCell' = true := fun u hu => by
  simp only [PE.C, entC, List.mem_cons, List.not_mem_nil, or_false] at hu
  rcases hu with rfl | rfl | rfl | rfl | rfl | rfl | rfl | rfl <;> rfl
theorem PE.ok.step {w w' : World} {o o' : Own} {K : Nat → Prop} {x : PE} (h : x.ok w o) (s : Step K w o w' o') : x.ok w' o' := ⟨h.1.step s, h.2⟩
theorem PE.loads {w : World} {la : Option Addr} {ad : Addr} {l : List PE} (hr : RowAt w la (PE.Cs l)) (ha : la = some ad) {i : Nat} {x : PE} (hi : l[i]? = some x) : cellsAt w (ad.add (i * 8)) x.C 0 := by
  subst ha
  have h : ∀ j v, x.C[j]? = some v → w.cell? ((ad.add (i * 8)).add j) = some v := fun j v hv => by
    have hj : j < 8 := by have := (List.getElem?_eq_some_iff.1 hv).1; exact this
    rw [add_add]
    exact hr.at_ ((PE.Cs_get hi j hj).trans hv)
  exact ⟨h 0 _ rfl, h 1 _ rfl, h 2 _ rfl, h 3 _ rfl, h 4 _ rfl, h 5 _ rfl, h 6 _ rfl, h 7 _ rfl, trivial⟩
theorem PE.cell {w : World} {la : Option Addr} {ad : Addr} {l : List PE} (hr : RowAt w la (PE.Cs l)) (ha : la = some ad) {i : Nat} {x : PE} (hi : l[i]? = some x) {j : Nat} {v : Value} (hv : x.C[j]? = some v) : w.cell? ((ad.add (i * 8)).add j) = some v := by
  subst ha
  have hj : j < 8 := by have := (List.getElem?_eq_some_iff.1 hv).1; exact this
  rw [add_add]
  exact hr.at_ ((PE.Cs_get hi j hj).trans hv)
end Go.Proofs.Ytlfijjmjmgobhaa
