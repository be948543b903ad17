/- Entries and a head that are handed in. -/
import Derived.Test.YtlfijjmjmgobhaaEntL
import Derived.Test.YtlfijjmjmgobhaaEntO
set_option linter.unusedVariables false
set_option linter.unusedSimpArgs false
set_option maxRecDepth 20000
namespace Go.Proofs.Ytlfijjmjmgobhaa
open Go Go.Mx Go.Proofs
def EntsQ (W : World) (cs : List Value) : Prop := ∃ (a : Option Addr) (c : Nat) (l : List PE), cs = [.slice a l.length c] ∧ l.length ≤ c ∧ c ≤ maxLen ∧ RowAt W a (PE.Cs l) ∧ ∀ p ∈ l, RowAt W p.a (bytesV p.e.body) ∧ p.e.body.length ≤ p.c ∧ p.e.fit ∧ p.e.wide
theorem opens_entries : Opens Try.prog 39 EntsQ :=
  (opens_slice (size := 8) Try.underlying39 cellsOf_entry opens_entry).mono fun W cs ⟨a, l, c, rows, h1, h2, h3, h4, h5, h6⟩ => by
    obtain ⟨xs, h7, h8⟩ := rows_of (rows := rows) PE.C (fun p => RowAt W p.a (bytesV p.e.body) ∧ p.e.body.length ≤ p.c ∧ p.e.fit ∧ p.e.wide) fun r hr => by
      obtain ⟨e, ea, ec, q1, q2, q3, q4, _, q5⟩ := (h6 r hr).2
      exact ⟨⟨e, ea, ec⟩, q1, q5, q4, q2, q3⟩
    subst h7
    rw [List.length_map] at h4
    subst h4
    exact ⟨a, c, xs, h1, h2, h3, by rw [PE.Cs, List.flatMap_def]; exact h5, h8⟩
def HeadIn (W : World) (cs : List Value) : Prop := ∃ n0 n1 n2, cs = [.int .i64 n0, .int .i64 n1, .int .u64 n2] ∧ (Lit.int .i64 n0).wf = true ∧ (Lit.int .i64 n1).wf = true ∧ (Lit.int .u64 n2).wf = true
theorem opens_headin : Opens Try.prog 53 HeadIn :=
  (opens_struct (size := 3) Try.underlying53 (by kernel_rfl)).mono fun W cs ⟨hl, h⟩ => by
    match cs, hl with
    | [c0, c1, c2], _ =>
      obtain ⟨n0, e0, f0⟩ := h 0 _ rfl _ (opens_int Try.underlying3)
      obtain ⟨n1, e1, f1⟩ := h 1 _ rfl _ (opens_int Try.underlying3)
      obtain ⟨n2, e2, f2⟩ := h 2 _ rfl _ (opens_int Try.underlying23)
      have ci : Try.prog.cellsOf 3 = 1 := by kernel_rfl
      have cu : Try.prog.cellsOf 23 = 1 := by kernel_rfl
      change List.take (Try.prog.cellsOf 3) (List.drop 0 [c0, c1, c2]) = _ at e0
      change List.take (Try.prog.cellsOf 3) (List.drop 1 [c0, c1, c2]) = _ at e1
      change List.take (Try.prog.cellsOf 23) (List.drop 2 [c0, c1, c2]) = _ at e2
      rw [ci] at e0 e1
      rw [cu] at e2
      simp only [List.drop_zero, List.drop_succ_cons, List.take_succ_cons, List.take_zero, List.cons.injEq, and_true] at e0 e1 e2
      subst e0; subst e1; subst e2
      exact ⟨n0, n1, n2, rfl, f0, f1, f2⟩
end Go.Proofs.Ytlfijjmjmgobhaa
