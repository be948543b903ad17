/- An entry that is handed in. -/
import Derived.Test.YtlfijjmjmgobhaaEntA
import Derived.Test.YtlfijjmjmgobhaaMxW
set_option linter.unusedVariables false
set_option linter.unusedSimpArgs false
set_option maxRecDepth 20000
namespace Go.Proofs.Ytlfijjmjmgobhaa
open Go Go.Mx Go.Proofs
/-- numbers that are of their kinds. -/
structure Ent.wide (e : Ent) : Prop where
  w : -9223372036854775808 ≤ e.w ∧ e.w < 9223372036854775808
  i : -9223372036854775808 ≤ e.i ∧ e.i < 9223372036854775808
  t : -9223372036854775808 ≤ e.t ∧ e.t < 9223372036854775808
  tw : -9223372036854775808 ≤ e.tw ∧ e.tw < 9223372036854775808
  ep : -9223372036854775808 ≤ e.ep ∧ e.ep < 9223372036854775808
def EntQ (W : World) (cs : List Value) : Prop := ∃ (e : Ent) (a : Option Addr) (c : Nat), cs = entC e a c ∧ e.fit ∧ e.wide ∧ e.body.length ≤ c ∧ c ≤ maxLen ∧ RowAt W a (bytesV e.body)
theorem list8 {α : Type} : ∀ {l : List α}, l.length = 8 → ∃ a b c d e f g h, l = [a, b, c, d, e, f, g, h]
  | [a, b, c, d, e, f, g, h], _ => ⟨a, b, c, d, e, f, g, h, rfl⟩
theorem cellsOf_entry : Try.prog.cellsOf 28 = 8 := by kernel_rfl
theorem cellsOf_stamp : Try.prog.cellsOf 25 = 2 := by kernel_rfl
theorem opens_entry : Opens Try.prog 28 EntQ := (opens_struct Try.underlying28 cellsOf_entry).mono fun W cs ⟨hl, hf⟩ => by
  obtain ⟨c0, c1, c2, c3, c4, c5, c6, c7, rfl⟩ := list8 hl
  have e0 : ∃ n, (([c0, c1, c2, c3, c4, c5, c6, c7] : List Value).drop 0).take (Try.prog.cellsOf 3) = [.int .i64 n] ∧ _ := hf 0 _ rfl _ (opens_int Try.underlying3)
  have e1 : ∃ n, (([c0, c1, c2, c3, c4, c5, c6, c7] : List Value).drop 1).take (Try.prog.cellsOf 3) = [.int .i64 n] ∧ _ := hf 1 _ rfl _ (opens_int Try.underlying3)
  have e2 : ∃ n, (([c0, c1, c2, c3, c4, c5, c6, c7] : List Value).drop 2).take (Try.prog.cellsOf 23) = [.int .u64 n] ∧ _ := hf 2 _ rfl _ (opens_int Try.underlying23)
  have e3 := hf 3 _ rfl _ (opens_struct Try.underlying25 cellsOf_stamp)
  change (((([c0, c1, c2, c3, c4, c5, c6, c7] : List Value).drop 3).take (Try.prog.cellsOf 25)).length = 2 ∧ _) at e3
  have e4 : ∃ n, (([c0, c1, c2, c3, c4, c5, c6, c7] : List Value).drop 5).take (Try.prog.cellsOf 3) = [.int .i64 n] ∧ _ := hf 4 _ rfl _ (opens_int Try.underlying3)
  have e5 : BytesQ W ((([c0, c1, c2, c3, c4, c5, c6, c7] : List Value).drop 6).take (Try.prog.cellsOf 26)) := hf 5 _ rfl _ (opens_bytes Try.underlying26 (by kernel_rfl) Try.underlying5)
  have e6 : ∃ n, (([c0, c1, c2, c3, c4, c5, c6, c7] : List Value).drop 7).take (Try.prog.cellsOf 23) = [.int .u64 n] ∧ _ := hf 6 _ rfl _ (opens_int Try.underlying23)
  have o1 : Try.prog.cellsOf 3 = 1 := by kernel_rfl
  have o2 : Try.prog.cellsOf 23 = 1 := by kernel_rfl
  have o3 : Try.prog.cellsOf 26 = 1 := by kernel_rfl
  have o4 : Try.prog.cellsOf 2 = 1 := by kernel_rfl
  simp only [o1, o2, o3, cellsOf_stamp, List.drop_zero, List.drop_succ_cons, List.take_succ_cons, List.take_zero] at e0 e1 e2 e4 e5 e6
  obtain ⟨_, hs⟩ := e3
  have s0 : ∃ n, ((((([c0, c1, c2, c3, c4, c5, c6, c7] : List Value).drop 3).take (Try.prog.cellsOf 25)).drop 0).take (Try.prog.cellsOf 2)) = [.int .i64 n] ∧ _ := hs 0 _ rfl _ (opens_int Try.underlying2)
  have s1 : ∃ n, ((((([c0, c1, c2, c3, c4, c5, c6, c7] : List Value).drop 3).take (Try.prog.cellsOf 25)).drop 1).take (Try.prog.cellsOf 3)) = [.int .i64 n] ∧ _ := hs 1 _ rfl _ (opens_int Try.underlying3)
  simp only [o1, o4, cellsOf_stamp, List.drop_zero, List.drop_succ_cons, List.take_succ_cons, List.take_zero] at s0 s1
  obtain ⟨n0, q0, w0⟩ := e0
  obtain ⟨n1, q1, w1⟩ := e1
  obtain ⟨n2, q2, w2⟩ := e2
  obtain ⟨n3, q3, w3⟩ := s0
  obtain ⟨n4, q4, w4⟩ := s1
  obtain ⟨n5, q5, w5⟩ := e4
  obtain ⟨a, c, bs, q6, l1, l2, r⟩ := e5
  obtain ⟨n7, q7, w7⟩ := e6
  simp only [List.cons.injEq, and_true] at q0 q1 q2 q3 q4 q5 q6 q7
  subst q0; subst q1; subst q2; subst q3; subst q4; subst q5; subst q6; subst q7
  exact ⟨⟨n0, n1, n2, n3, n4, n5, bs, n7⟩, a, c, rfl, ⟨(wf_u64 w2).1, (wf_u64 w2).2, (wf_u64 w7).1, (wf_u64 w7).2⟩, ⟨wf_i64 w0, wf_i64 w1, wf_i64 w3, wf_i64 w4, wf_i64 w5⟩, l1, l2, r⟩
theorem ent_of {cs : Array Value} {e : Ent} {a : Option Addr} {c : Nat} (h : cs.toList = entC e a c) : Value.agg cs = entV e a c := by
  have : cs = (entC e a c).toArray := by apply Array.ext'; simp [h]
  rw [this]; rfl
end Go.Proofs.Ytlfijjmjmgobhaa
