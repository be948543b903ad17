/- The reference's oracle, in step with the program's state. -/
import Derived.Test.YtfmdpjhkojbocaaZB
import Derived.ArgAppend
import Derived.Lib.Overlaps
import Derived.Lib.AppendZerosOnto
import Derived.Laws.IdiomCopy
import Derived.Laws.Externs
import Derived.Test.YtfmdpjhkojbocaaZD
import Derived.Test.YtfmdpjhkojbocaaZF
import Derived.Test.YtfmdpjhkojbocaaZC
set_option linter.unusedVariables false
set_option linter.unusedSimpArgs false
set_option maxRecDepth 20000
namespace Go.Proofs.Ytfmdpjhkojbocaa
open Go Go.Mx Go.Proofs
structure Rof (w : World) (o : Own) (j : Nat) (S : OS) (n : Nat) : Prop where
  ex : ∃ d R, ROrc w o j d R ∧ Sim S d R ∧ RFine n d R
  ok : Tags w o
  inv : OInv S
section
variable {w w' : World} {o o' : Own} {j n : Nat} {K : Nat → Prop} {S : OS} {a : Option Addr} {c : Nat} {b : List UInt8}
theorem Rof.step (h : Rof w o j S n) (s : Step K w o w' o') (hj : ¬ K j) : Rof w' o' j S n := by
  obtain ⟨d, R, h1, h2, h3⟩ := h.ex
  exact ⟨⟨d, R, h1.step s hj, h2, h3⟩, s.ok, h.inv⟩
theorem Rof.mono (h : Rof w o j S n) {m : Nat} (hm : n ≤ m) : Rof w o j S m := by
  obtain ⟨d, R, h1, h2, h3⟩ := h.ex
  exact ⟨⟨d, R, h1, h2, h3.draws, Nat.le_trans h3.short hm, h3.bytes⟩, h.ok, h.inv⟩
theorem Rof.lt (h : Rof w o j S n) : j < w.heap.size := by obtain ⟨d, R, h1, _⟩ := h.ex; exact h1.lt
theorem Rof.own (h : Rof w o j S n) : o j = some j := by obtain ⟨d, R, h1, _⟩ := h.ex; exact h1.own
theorem Rof.len (h : Rof w o j S n) : S.used.length ≤ n := by obtain ⟨d, R, h1, h2, h3⟩ := h.ex; rw [h2.us, List.length_map]; exact h3.short
/-- as it is made. -/
theorem Rof.init {w w' : World} {o : Own} {q : Nat} {da : Option Addr} {dc : Nat} {d : List Int} (X : Ext no w w') (hb : Blk w' q 63 [.slice da d.length dc, .slice none 0 0]) (h1 : w.heap.size ≤ q) (h2 : q < w'.heap.size) (ok : Tags w o) (hd : Row w o da (d.map u64V)) (hc : d.length ≤ dc) (hr : ∀ x ∈ d, 0 ≤ x ∧ x < 18446744073709551616) :
    ∃ o', Step no w o w' o' ∧ Rof w' o' q (OS.init d) 0 := by
  obtain ⟨o', s, R⟩ := ROrc.init X hb h1 h2 ok hd hc
  exact ⟨o', s, ⟨_, _, R, Sim.init hr, ⟨hr, Nat.zero_le _, fun r h => by cases h⟩⟩, s.ok, OInv.init hr⟩
theorem Rof.pair (h : Rof w o j S n) (hn : n + 2 < 1000000) :
    Calls Try.prog 18 #[.pointer (some (blk j))] w (Gs (fun i => i = j) w o (.tuple #[u64V (pairOf S).1.1, u64V (pairOf S).1.2]) fun w' o' => Rof w' o' j (pairOf S).2 (n + 2)) := by
  obtain ⟨d, R, h1, h2, h3⟩ := h.ex
  obtain ⟨e1, e2⟩ := pair_sim h2
  refine (rPair_spec h1 (h3.rok h.ok (by omega)) (by have := h3.short; omega)).mono fun x w' ⟨o', he, s, r⟩ => ⟨o', by rw [he, e1]; rfl, s, ⟨_, _, r, e2, h3.pair⟩, s.ok, (pair_inv h.inv).1⟩
theorem Rof.sign (h : Rof w o j S n) (hn : n + 1 < 1000000) (s : Int) (hb : Row w o a (bytesV b)) (hc : b.length ≤ c) (hl : b.length < 1000000) :
    Calls Try.prog 54 #[.pointer (some (blk j)), .int .u64 s, .slice a b.length c] w (Gs (fun i => i = j) w o (.tuple #[.int .u64 (signOf S s b).1.1, .int .i64 (if (signOf S s b).1.2 then 0 else 11)]) fun w' o' => Rof w' o' j (signOf S s b).2 (n + 1)) := by
  obtain ⟨d, R, h1, h2, h3⟩ := h.ex
  obtain ⟨e1, e2⟩ := sign_sim h2 s b
  refine (rSign_spec h1 (h3.rok h.ok (by omega)) s hb hc).mono fun x w' ⟨o', he, st, r⟩ => ⟨o', by rw [he, e1], st, ⟨_, _, r, e2, h3.sign s hl⟩, st.ok, (sign_inv' h.inv s b).1⟩
theorem Rof.verify (h : Rof w o j S n) (hn : n < 1000000) (p x : Int) (hb : Row w o a (bytesV b)) :
    Calls Try.prog 59 #[.pointer (some (blk j)), .int .u64 p, .slice a b.length c, .int .u64 x] w (Ret (.bool (verifyOf S p b x)) fun w' => Ext no w w') := by
  obtain ⟨d, R, h1, h2, h3⟩ := h.ex
  refine (rVerify_spec h1 (h3.rok h.ok hn) p x hb).mono fun x w' ⟨he, X⟩ => ⟨by rw [he, verify_sim h2], X⟩
end
end Go.Proofs.Ytfmdpjhkojbocaa

/- Structs, and rows of structs, that are handed in; cells of a row of structs. -/
set_option linter.unusedSimpArgs false
set_option linter.unusedVariables false
set_option linter.unusedSectionVars false
namespace Go.Mx
/-- cells, one part behind the other. -/
def SeqQ : List (Nat × (World → List Value → Prop)) → World → List Value → Prop
  | [], _, cs => cs = []
  | q :: r, W, cs => ∃ x y, cs = x ++ y ∧ x.length = q.1 ∧ q.2 W x ∧ SeqQ r W y
def FieldsOk (P : Program) : List Field → Nat → List (Nat × (World → List Value → Prop)) → Nat → Prop
  | [], off, [], size => off = size
  | f :: r, off, q :: s, size => (f.offset = off ∧ P.cellsOf f.type = q.1 ∧ Opens P f.type q.2) ∧ FieldsOk P r (off + q.1) s size
  | _, _, _, _ => False
theorem seq_of {P : Program} {W : World} {cs : List Value} : ∀ {l : List Field} {off : Nat} {qs : List (Nat × (World → List Value → Prop))} {size : Nat}, FieldsOk P l off qs size → cs.length = size →
    (∀ (i : Nat) (f : Field), l[i]? = some f → ∀ Q, Opens P f.type Q → Q W ((cs.drop f.offset).take (P.cellsOf f.type))) → off ≤ cs.length → (∀ q ∈ qs, True) → SeqQ qs W (cs.drop off)
  | [], off, [], size, h, hl, _, _, _ => by
    simp only [FieldsOk] at h
    simp only [SeqQ]
    exact List.drop_eq_nil_of_le (by omega)
  | f :: r, off, q :: s, size, h, hl, hf, hle, _ => by
    obtain ⟨⟨h1, h2, h3⟩, h4⟩ := h
    have h0 := hf 0 f rfl q.2 h3
    rw [h1, h2] at h0
    have hsz : ∀ {l : List Field} {off : Nat} {qs : List (Nat × (World → List Value → Prop))}, FieldsOk P l off qs size → off ≤ size := by
      intro l
      induction l with
      | nil => intro off qs h; cases qs with | nil => exact Nat.le_of_eq h | cons _ _ => exact h.elim
      | cons f r ih => intro off qs h; cases qs with | nil => exact h.elim | cons q s => have := ih h.2; omega
    have hle2 := hsz h4
    refine ⟨(cs.drop off).take q.1, cs.drop (off + q.1), ?_, ?_, h0, ?_⟩
    · rw [← List.drop_drop, List.take_append_drop]
    · rw [List.length_take, List.length_drop]; omega
    · exact seq_of h4 hl (fun i f hi => hf (i + 1) f (by simpa using hi)) (by omega) (fun _ _ => trivial)
  | [], _, _ :: _, _, h, _, _, _, _ => h.elim
  | _ :: _, _, [], _, h, _, _, _, _ => h.elim
/-- a struct: its fields, one behind the other. -/
theorem opens_seq {P : Program} {t : TypeId} {fs : Array Field} {size : Nat} {qs : List (Nat × (World → List Value → Prop))} (ht : P.underlying t = some (.struct fs)) (hs : P.cellsOf t = size) (h : FieldsOk P fs.toList 0 qs size) : Opens P t (SeqQ qs) :=
  (opens_struct ht hs).mono fun W cs ⟨hl, hf⟩ => seq_of (off := 0) h hl (fun i f hi => hf i f (by rw [← Array.getElem?_toList]; exact hi)) (Nat.zero_le _) fun _ _ => trivial
section
variable {α : Type} {f : α → List Value} {n : Nat} {w : World} {a : Option Addr} {l : List α}
theorem flat_length (hf : ∀ x, (f x).length = n) (l : List α) : (l.flatMap f).length = l.length * n := by
  induction l with
  | nil => simp
  | cons x r ih => rw [List.flatMap_cons, List.length_append, ih, hf, List.length_cons, Nat.succ_mul]; omega
end
end Go.Mx

/- Rows that grow: of an owner, also cut off; and of a function's own. -/
set_option linter.unusedSimpArgs false
set_option linter.unusedVariables false
set_option linter.unusedSectionVars false
namespace Go.Mx
section
variable {K K1 : Nat → Prop} {w w1 w' w0 : World} {o o1 o' o0 : Own} {p q j k N : Nat} {e : TypeId} {size n c : Nat} {a : Option Addr} {cs : List Value}
/-- a row of a function's own: nothing yet, or in a block that came behind N. -/
def LRow (e size N : Nat) (w : World) (o : Own) (a : Option Addr) (n c : Nat) (cs : List Value) : Prop :=
  (a = none ∧ n = 0 ∧ c = 0 ∧ cs = []) ∨ ∃ k, N ≤ k ∧ k < w.heap.size ∧ Grows e size w o k a n c cs
theorem LRow.nil (e size N : Nat) (w : World) (o : Own) : LRow e size N w o none 0 0 [] := .inl ⟨rfl, rfl, rfl, rfl⟩
theorem LRow.row (h : LRow e size N w o a n c cs) : RowAt w a cs := by
  rcases h with ⟨rfl, rfl, rfl, rfl⟩ | ⟨k, _, _, h⟩
  · exact RowAt.nil _ _
  · exact h.row
theorem LRow.len (h : LRow e size N w o a n c cs) : cs.length = n * size := by
  rcases h with ⟨rfl, rfl, rfl, rfl⟩ | ⟨k, _, _, h⟩
  · simp
  · exact h.own.1
theorem LRow.le (h : LRow e size N w o a n c cs) : n ≤ c := by
  rcases h with ⟨rfl, rfl, rfl, rfl⟩ | ⟨k, _, _, h⟩
  · exact Nat.le_refl _
  · exact (own_fresh h.own).1
theorem LRow.step (h : LRow e size N w o a n c cs) (s : Step K w o w' o') (hk : ∀ k, K k → k < N ∨ w.heap.size ≤ k) : LRow e size N w' o' a n c cs := by
  rcases h with h | ⟨k, h1, h2, h⟩
  · exact .inl h
  · exact .inr ⟨k, h1, Nat.lt_of_lt_of_le h2 s.size, h.step s fun hK => by rcases hk k hK with h | h <;> omega⟩
theorem LRow.push {P : Program} {t ty : TypeId} {i : TypeInfo} {z : Value} {bytes : Nat} (ht : P.underlying t = some (.slice e)) (hi : P.info? e = some i) (hz : i.zero = some z)
    (hsize : i.size = size) (hby : i.bytes = bytes) (hzs : z.cells.size = size) (hsz : 0 < size) (h : LRow e size N w o a n c cs) (ok : Tags w o) (hp : N ≤ p) (hp' : p < w.heap.size)
    {xa : Option Addr} {m xc : Nat} {news : List Value} (hl : news.length = m * size) (hnews : RowAt w xa news) (h1 : ∀ u ∈ news, u.oneCell' = true) (hb : (n + m) * bytes ≤ 140737488355328) (h63 : n + m ≤ 9223372036854775807) :
    ∃ a' c' w' o', (Builtin.append_ #[t, t] ty #[.slice a n c, .slice xa m xc]).run P w = .ok (.slice a' (n + m) c') w' ∧ Step (fun j => N ≤ j) w o w' o' ∧ LRow e size N w' o' a' (n + m) c' (cs ++ news) ∧ Ext (fun b => ∃ ad, a = some ad ∧ b = ad.block) w w' := by
  have key : ∀ k, N ≤ k → k < w.heap.size → Grows e size w o k a n c cs → _ := fun k hk hk' hg => hg.push (ty := ty) ht hi hz hsize hby hzs hsz ok hk' (xc := xc) hl hnews h1 hb h63
  have fin : ∀ k, N ≤ k → k < w.heap.size → Grows e size w o k a n c cs → ∃ a' c' w' o', (Builtin.append_ #[t, t] ty #[.slice a n c, .slice xa m xc]).run P w = .ok (.slice a' (n + m) c') w' ∧ Step (fun j => N ≤ j) w o w' o' ∧ LRow e size N w' o' a' (n + m) c' (cs ++ news) ∧ Ext (fun b => ∃ ad, a = some ad ∧ b = ad.block) w w' := fun k hk hk' hg => by
    obtain ⟨a', c', w', o', r1, r2, r3, r4, _⟩ := key k hk hk' hg
    refine ⟨a', c', w', o', r1, r2.mono fun j hj _ => by omega, .inr ⟨k, hk, Nat.lt_of_lt_of_le hk' r2.size, r3⟩, ⟨r2.ext.os, r2.ext.tape, r2.ext.output, r2.ext.size, fun b hb hn => r4 b hb fun ad ha hb' => hn ⟨ad, ha, hb'⟩⟩⟩
  rcases h with ⟨rfl, rfl, rfl, rfl⟩ | ⟨k, h1, h2, h⟩
  · exact fin p hp hp' (Grows.nil _ _ _ _ _)
  · exact fin k h1 h2 h
/-- at the end: nobody's. -/
theorem LRow.give (h : LRow e size N w1 o1 a n c cs) (s : Step K w0 o0 w1 o1) (hN : w0.heap.size ≤ N) : Row w1 (grow w0 o0) a cs := ⟨h.row, fun h0 ad ha => by
  rcases h with ⟨rfl, _⟩ | ⟨k, h1, h2, h⟩
  · cases ha
  · refine grow_ge ?_
    have ht := h.tg ad ha
    by_cases hb : ad.block < w0.heap.size
    · rw [s.same _ hb] at ht
      have := s.ok0 _ _ hb ht.1
      omega
    · omega⟩
end
end Go.Mx

/- copy onto a row of one's own; append(x, make(..)...) onto a row without room; slices.overlaps of two blocks. -/
set_option linter.unusedSimpArgs false
set_option linter.unusedVariables false
set_option linter.unusedSectionVars false
namespace Go.Mx
open Go
section
variable {P : Program} {w w' : World} {b o sz : Nat} {t e : TypeId} {cur cs : List Value}
/-- a store into a row of a function's own. -/
theorem LRow.set {e : TypeId} {N n c j : Nat} {w : World} {o : Own} {a : Option Addr} {cs : List Value} (h : LRow e sz N w o a n c cs) (ok : Tags w o) (hj : j < cs.length) (v : Value) :
    ∃ ad, a = some ad ∧ canStore w (ad.add j) ∧ (∀ k, o ad.block = some k → N ≤ k) ∧ (o ad.block).isSome = true ∧ ∀ w', w' = w.setCell (ad.add j) v → Step (fun i => N ≤ i) w o w' (grow w o) ∧ LRow e sz N w' (grow w o) a n c (cs.set j v) ∧ Ext (fun b => b = ad.block) w w' := by
  rcases h with ⟨rfl, rfl, rfl, rfl⟩ | ⟨k, h1, h2, h⟩
  · simp at hj
  have hl := h.own.1
  rcases h.own.2 with ⟨hv, h0⟩ | ⟨g, cap, cur, hv, _, hgb, hnc, hcm, hcs, htk⟩
  · rw [h0] at hl; omega
  cases hv
  have tg := h.tg ⟨g, 0, none⟩ rfl
  have hblk : Blk w g e cur.toList := by unfold Blk; simpa using hgb
  have hcl : cur.toList.length = c * sz := by simpa using hcs
  have hjc : j < cur.toList.length := by
    have := congrArg List.length htk
    rw [List.length_take] at this
    omega
  have hadd : (⟨g, 0, none⟩ : Addr).add j = ⟨g, j, none⟩ := by simp [Addr.add_lit]
  refine ⟨_, rfl, by rw [hadd]; exact hblk.can (v := cur.toList[j]) (List.getElem?_eq_getElem hjc), fun k' hk' => ?_, by rw [tg.1]; rfl, fun w' hw' => ?_⟩
  · have : some k = some k' := tg.1.symm.trans hk'
    cases this; exact h1
  have X : Ext (fun b => b = g) w w' := by subst hw'; rw [hadd]; exact (Ext.refl (fun b => b = g) w).setCell (a := ⟨g, j, none⟩) (.inl rfl) v
  have s : Step (fun i => i = k) w o w' (grow w o) := Step.of_ext X ok fun b hb _ => by subst hb; exact tg.1
  have hb2 : Blk w' g e (cur.toList.set j v) := by subst hw'; rw [hadd]; exact hblk.set j v
  refine ⟨s.mono fun i hi _ => by omega, .inr ⟨k, h1, Nat.lt_of_lt_of_le h2 s.size, ⟨by rw [List.length_set]; exact hl, .inr ⟨g, c, _, rfl, Nat.zero_le _, hb2, hnc, hcm, by simpa using hcs, ?_⟩⟩, fun ad ha => ?_⟩, X⟩
  · show (cur.toList.set j v).take (n * sz) = cs.set j v
    rw [← htk, List.take_set]
  · cases ha; exact ⟨(s.own tg.2).trans tg.1, Nat.lt_of_lt_of_le tg.2 s.size⟩
end
end Go.Mx

/- VectorHolds: predicates. -/
set_option linter.unusedVariables false
set_option linter.unusedSimpArgs false
set_option maxRecDepth 20000
set_option maxHeartbeats 2000000
namespace Go.Proofs.Ytfmdpjhkojbocaa
open Go Go.Mx Go.Proofs
/-- slices.Clone[vector.Vector,api.Head] -/
def slices_Clone_vector_Vector_api_Head.M (a0 : Option Addr) (a6 : Nat) (a7 : Nat) (R : Value → World → Prop) (w : World) : Prop :=
 bif Option.isNone a0 then (
 R (.slice none 0 0) w) else (
 thenW (w.alloc (.cells #[] 114)) fun a5 =>
 ∃ (a3 : Option Addr) (a2 : Nat) (a4 : Nat) (a1 : World), (Builtin.append_ #[67, 67] 67 #[.slice (some (blk w.heap.size)) 0 0, .slice a0 a6 a7]).run Try.prog a5 = .ok (.slice a3 a2 a4) a1 ∧
 R (.slice a3 a2 a4) a1)

theorem slices_Clone_vector_Vector_api_Head.eq (s1a : Option Addr) (s1n : Nat) (s1c : Nat) (R : Value → World → Prop) (w : World) : mfunc Try.prog [] 53 [.slice s1a s1n s1c] R w = slices_Clone_vector_Vector_api_Head.M s1a s1n s1c R w := by kernel_rfl
theorem slices_Clone_vector_Vector_api_Head.ok (a0 : Option Addr) (a2 : Nat) (a1 : Nat) {R : Value → World → Prop} {w : World} (h : slices_Clone_vector_Vector_api_Head.M a0 a2 a1 R w) : Calls Try.prog 53 #[.slice a0 a2 a1] w fun e w' => ∃ v, e = .returned v ∧ R v w' :=
  mfunc_ok follows (H := []) (args := [.slice a0 a2 a1]) (by rw [slices_Clone_vector_Vector_api_Head.eq]; exact h)

def slices_Clone_vector_Vector_api_Head.N (a1 : Option Addr) (a6 : Nat) (a7 : Nat) (R : Value → World → Prop) (w : World) : Prop :=
 (a1 = none →
 R (.slice none 0 0) w) ∧
 (a1 ≠ none →
 ∀ (a0 : World) (q4 : Nat), Ext no w a0 → Blk a0 q4 114 [] → w.heap.size ≤ q4 → q4 < a0.heap.size →
 ∃ (a5 : Option Addr) (a3 : Nat) (a4 : Nat) (a2 : World), (Builtin.append_ #[67, 67] 67 #[.slice (some (blk q4)) 0 0, .slice a1 a6 a7]).run Try.prog a0 = .ok (.slice a5 a3 a4) a2 ∧
 R (.slice a5 a3 a4) a2)

theorem slices_Clone_vector_Vector_api_Head.up (a0 : Option Addr) (a1 : Nat) (a2 : Nat) {R : Value → World → Prop} {w : World} (h : slices_Clone_vector_Vector_api_Head.N a0 a1 a2 R w) : slices_Clone_vector_Vector_api_Head.M a0 a1 a2 R w := by
  unfold slices_Clone_vector_Vector_api_Head.M
  unfold slices_Clone_vector_Vector_api_Head.N at h
  refine bif_of (fun c2 => ?_) (fun c2 => ?_)
  · have h := h.1 (isNone_t c2)
    exact h
  · have h := h.2 (isNone_f c2)
    refine thenW_in fun a3 e3 => ?_
    have h := h a3 w.heap.size ((Ext.refl no w).x_alloc e3) (Blk.of_new e3) ((Ext.refl no w)).size (size_lt_alloc e3)
    obtain ⟨a7, a5, a6, a4, hr, h⟩ := h
    refine ⟨a7, a5, a6, a4, hr, ?_⟩
    exact h

theorem slices_Clone_vector_Vector_api_Head.go (a0 : Option Addr) (a2 : Nat) (a1 : Nat) {R : Value → World → Prop} {w : World} (h : slices_Clone_vector_Vector_api_Head.N a0 a2 a1 R w) : Calls Try.prog 53 #[.slice a0 a2 a1] w fun e w' => ∃ v, e = .returned v ∧ R v w' := slices_Clone_vector_Vector_api_Head.ok a0 a2 a1 (slices_Clone_vector_Vector_api_Head.up a0 a2 a1 h)
end Go.Proofs.Ytfmdpjhkojbocaa

/- VectorHolds: Clone and Insert of heads. -/
set_option linter.unusedVariables false
set_option linter.unusedSimpArgs false
set_option maxRecDepth 20000
set_option maxHeartbeats 4000000
namespace Go.Proofs.Ytfmdpjhkojbocaa
open Go Go.Mx Go.Proofs
theorem inf114 : (Try.prog.info? 114).map (fun i => (i.zero, i.size, i.bytes)) = some (some (.agg #[.int .i64 0, .int .i64 0, .int .u64 0]), 3, 24) := by kernel_rfl
section
variable {w w' w1 : World} {o o' o1 : Own} {a : Option Addr} {c N : Nat} {ml : List Hd} {cs : List Value}
theorem hdC_len (h : Hd) : (hdC h).length = 3 := rfl
theorem hdC_one (m : Hd) : ∀ u ∈ hdC m, u.oneCell' = true := fun u hu => by
  simp only [hdC, List.mem_cons, List.not_mem_nil, or_false] at hu
  rcases hu with rfl | rfl | rfl <;> rfl
theorem hds_one {l : List Hd} : ∀ u ∈ l.flatMap hdC, u.oneCell' = true := fun u hu => by
  obtain ⟨m, _, hm⟩ := List.mem_flatMap.1 hu
  exact hdC_one m u hm
abbrev HRow (N : Nat) (w : World) (o : Own) (a : Option Addr) (c : Nat) (ml : List Hd) : Prop := LRow 114 3 N w o a ml.length c (ml.flatMap hdC)
/-- one more member behind a row of a function's own. -/
theorem HRow.push {t ty : TypeId} (ht : Try.prog.underlying t = some (.slice 114)) (h : HRow N w o a c ml) (ok : Tags w o) (hl : ml.length < 1000000) (m : Hd) {q : Nat} (hb : Blk w q 114 (hdC m)) (hq : N ≤ q) (hq' : q < w.heap.size) :
    ∃ a' c' w' o', (Builtin.append_ #[t, t] ty #[.slice a ml.length c, .slice (some (blk q)) 1 1]).run Try.prog w = .ok (.slice a' (ml ++ [m]).length c') w' ∧ Step (fun j => N ≤ j) w o w' o' ∧ HRow N w' o' a' c' (ml ++ [m]) := by
  obtain ⟨i, hi, hz, hsz, hby⟩ := (info_of inf114)
  obtain ⟨a', c', w', o', hrun, s2, hrow, _⟩ := LRow.push (ty := ty) ht hi hz hsz hby rfl (by decide) h ok hq hq' (xa := some (blk q)) (m := 1) (xc := 1) (news := hdC m) rfl (RowAt.of_blk hb) (hdC_one m) (by omega) (by omega)
  exact ⟨a', c', w', o', by rw [List.length_append]; exact hrun, s2, by unfold HRow; rw [List.length_append, List.flatMap_append]; simpa using hrow⟩
theorem Clone_spec (ok : Tags w o) (hr : RowAt w a (ml.flatMap hdC)) (hl : ml.length < 1000000) :
    Calls Try.prog 53 #[.slice a ml.length c] w (fun x w' => ∃ o' a' c', x = .returned (.slice a' ml.length c') ∧ Step no w o w' o' ∧ HRow w.heap.size w' o' a' c' ml) := by
  refine (slices_Clone_vector_Vector_api_Head.go _ _ _ (R := fun v w' => ∃ o' a' c', v = (.slice a' ml.length c') ∧ Step no w o w' o' ∧ HRow w.heap.size w' o' a' c' ml) ?_).mono fun x w' ⟨v, he, o', a', c', hv, hw⟩ => ⟨o', a', c', by rw [he, hv], hw⟩
  unfold slices_Clone_vector_Vector_api_Head.N
  refine ⟨fun hn => ?_, fun hn w3 q X hb hq hq' => ?_⟩
  · subst hn
    have h0 := hr.none_nil
    have : ml = [] := by
      have := flat_length (f := hdC) hdC_len ml
      rw [h0] at this
      exact List.eq_nil_of_length_eq_zero (by simp at this; omega)
    subst this
    exact ⟨o, none, 0, rfl, Step.refl _ ok, LRow.nil _ _ _ _ _⟩
  · obtain ⟨i, hi, hz, hsz, hby⟩ := (info_of inf114)
    have s3 := (Step.of_no X ok).tag hq hq'
    have g3 : Go.Mx.Grows 114 3 w3 (tag (grow w o) q q) q (some (blk q)) 0 0 [] := ⟨owns_of_blk hb rfl (Nat.zero_le _), fun ad ha => by cases ha; exact ⟨tag_self, hq'⟩⟩
    have L3 : LRow 114 3 w.heap.size w3 (tag (grow w o) q q) (some (blk q)) 0 0 [] := .inr ⟨q, hq, hq', g3⟩
    obtain ⟨a', c', w6, o6, hrun, s6, hrow, _⟩ := L3.push (ty := 67) Try.underlying67 hi hz hsz hby rfl (by decide) s3.ok hq hq' (xa := a) (m := ml.length) (xc := c) (news := ml.flatMap hdC) (flat_length hdC_len ml) (hr.no X) hds_one (by omega) (by omega)
    rw [Nat.zero_add, List.nil_append] at hrow
    rw [Nat.zero_add] at hrun
    exact ⟨a', _, c', w6, hrun, o6, a', c', rfl, s3.trans' s6 fun j hj => .inr hj, hrow⟩
end
end Go.Proofs.Ytfmdpjhkojbocaa

/- Claims: their text, the claim that is signed, and which hold. -/
set_option linter.unusedVariables false
set_option linter.unusedSimpArgs false
set_option maxRecDepth 20000
set_option maxHeartbeats 4000000
namespace Go.Proofs.Ytfmdpjhkojbocaa
open Go Go.Mx Go.Proofs
open W (OwnB GivesW numR countR doneR zig unzig intR)
def claimL (who : Int) (v : List Hd) : List UInt8 := [99, 108, 97, 105, 109] ++ numL who.toNat ++ vecL v
def clmK (who : Int) (v : List Hd) : List UInt8 × Int := if rightV v = true ∧ 0 ≤ who ∧ who < 8 then (claimL who v, 0) else ([], 1)
def fitV (v : List Hd) : Prop := ∀ h ∈ v, 0 ≤ h.2.2 ∧ h.2.2 < 18446744073709551616
def claimS (S : OS) (s who : Int) (v : List Hd) : (Fr × Int) × OS :=
  if (clmK who v).2 ≠ 0 then ((Fr.zero, (clmK who v).2), S)
  else if (signOf S s (clmK who v).1).1.2 = true then ((⟨3, Ent.zero, Ent.zero, who, v, (signOf S s (clmK who v).1).1.1⟩, 0), (signOf S s (clmK who v).1).2)
  else ((Fr.zero, 11), (signOf S s (clmK who v).1).2)
def holdsF (S : OS) (p : Int) (r : Fr) : Bool := decide (r.kd = 3) && (frOK r && verifyOf S p (clmK r.who r.v).1 r.sg)
section
variable {w w' w1 : World} {o o' : Own} {k j n N : Nat} {K : Nat → Prop} {S : OS} {v : List Hd} {va : Option Addr} {vc : Nat} {s p who : Int} {x : FP}
theorem numL_pos (n : Nat) : 0 < (numL n).length := by
  unfold numL numF
  split <;> simp
/-- bytes behind a row without room. -/
theorem appN {ad : Addr} {xa : Option Addr} {xc : Nat} {l x : List UInt8} (hl : RowAt w (some ad) (bytesV l)) (hx : RowAt w xa (bytesV x)) (hne : 0 < x.length) (hs : l.length + x.length ≤ 1000000) :
    ∃ a' c' w', (Builtin.append_ #[23, 23] 23 #[.slice (some ad) l.length l.length, .slice xa x.length xc]).run Try.prog w = .ok (.slice a' (l ++ x).length c') w' ∧ OwnB w.heap.size w' a' c' (l ++ x) ∧ Ext no w w' := by
  obtain ⟨xd, rfl⟩ := hx.addr fun e => by
    have := congrArg List.length e
    rw [bytesV_length] at this
    have h0 : x.length = 0 := this
    omega
  obtain ⟨i, hi, hz, hsz, hby⟩ := info_of W.infU8
  obtain ⟨v', w', hr, ho, hg⟩ := run_append_arg_grows (P := Try.prog) w 23 23 5 i _ 1 1 Try.underlying23 hi hz hsz hby rfl (by decide) ad l.length l.length (bytesV l) (by rw [bytesV_length]; omega) (fun j u hu => hl.at_ hu) xd x.length xc (bytesV x) (by rw [bytesV_length]; omega) (fun j u hu => hx.at_ hu) (by omega) (by unfold maxLen; omega) (by omega)
  obtain ⟨a', c', hv, hrow⟩ := RowAt.of_owns ho
  subst hv
  have hfr := own_fresh ho
  have e1 : (l ++ x).length = l.length + x.length := List.length_append
  have e2 : bytesV (l ++ x) = bytesV l ++ bytesV x := by simp [bytesV]
  refine ⟨a', c', w', by rw [e1]; exact hr, ⟨?_, fun ad' ha => ?_⟩, Ext.of_grown hg fun k hk => by cases hk⟩
  · rw [e1, e2]
    refine ⟨ho.1, ?_⟩
    rcases ho.2 with h | ⟨g, cap, cur, hv, hb1, h⟩
    · exact .inl h
    · exact .inr ⟨g, cap, cur, hv, Nat.zero_le _, h⟩
  · rcases ho.2 with ⟨hv, h0⟩ | ⟨g, cap, cur, hv, hb1, h⟩
    · omega
    · cases hv
      cases ha
      exact ⟨hb1, hfr.2 _ rfl⟩
theorem vec_nat (hf : fitV v) (hr : rightV v = true) : ∀ h ∈ v, natH h := fun h hh => rhead_nat (rightF_head hr h hh) (hf h hh)
theorem claimL_len (hl : v.length ≤ 1000) : (claimL who v).length ≤ 100000 := by
  unfold claimL
  have h1 := numL_le who.toNat
  have h2 := hdsL_le v
  have h3 := numL_le v.length
  unfold vecL
  simp only [List.length_append, List.length_cons, List.length_nil]
  omega
theorem fText_spec (hv : RowAt w va (hsC v)) (hf : fitV v) (hl : v.length ≤ 1000) :
    Calls Try.prog 19 #[.int .i64 who, .slice va v.length vc] w (fun x w' => ∃ a c, x = .returned (.tuple #[.slice a (clmK who v).1.length c, .int .i64 (clmK who v).2]) ∧ OwnB w.heap.size w' a c (clmK who v).1 ∧ Ext no w w') := by
  refine (forkcheck_Text.go who va v.length vc (R := fun x w' => ∃ a c, x = (.tuple #[.slice a (clmK who v).1.length c, .int .i64 (clmK who v).2]) ∧ OwnB w.heap.size w' a c (clmK who v).1 ∧ Ext no w w') ?_).mono fun x w' ⟨u, he, a, c, hu, hw⟩ => ⟨a, c, by rw [he, hu], hw⟩
  unfold forkcheck_Text.N
  have bad : ¬ (rightV v = true ∧ 0 ≤ who ∧ who < 8) → ∀ w2, Ext no w w2 → ∃ a c, (Value.tuple #[.slice none 0 0, .int .i64 1]) = (.tuple #[.slice a (clmK who v).1.length c, .int .i64 (clmK who v).2]) ∧ OwnB w.heap.size w2 a c (clmK who v).1 ∧ Ext no w w2 := fun h w2 X => ⟨none, 0, by unfold clmK; rw [if_neg h]; rfl, by unfold clmK; rw [if_neg h]; exact OwnB.nil _ _, X⟩
  refine (vBytes_spec hv hl (vec_nat hf)).mono fun u w6 ⟨X6, h⟩ => ?_
  rcases h with ⟨hr, he⟩ | ⟨hr, a3, c3, he, hO3⟩
  · exact ⟨none, 0, 0, 1, he, fun _ => bad (fun h => by rw [hr] at h; cases h.1) _ X6, fun h => absurd h (by decide)⟩
  refine ⟨a3, _, c3, 0, he, fun h => absurd rfl h, fun _ => ⟨fun h => bad (by omega) _ X6, fun h0 => ⟨fun h => bad (by omega) _ X6, fun h8 w10 q X10 hb hq hq' => ?_⟩⟩⟩
  have l6 := X6.size
  have l10 := X10.size
  obtain ⟨w13, hc, hr13, X13⟩ := litB Try.underlying23 Try.underlying5 [99, 108, 97, 105, 109] X10 hb hq
  refine ⟨_, _, _, w13, hc, ?_⟩
  rw [wu64 h0 (by omega)]
  have hw : who = (who.toNat : Int) := by omega
  rw [hw]
  refine (W.Num_spec (bs := [99, 108, 97, 105, 109]) (n := who.toNat) hr13 (by decide) (by omega)).mono fun u w16 ⟨a16, c16, he, hO16, X16⟩ => ⟨a16, _, c16, he, ?_⟩
  have X616 := X13.trans X16
  have hb3 := hO3.row.no X616
  obtain ⟨a', c', w18, hr18, hO18, X18, _, _⟩ := app (N := w.heap.size) (xc := c3) (OwnB.up hO16 (by have := X13.size; omega)) (X6.trans X616) (Nat.le_refl _) (by have := X616.size; omega) (Ext.refl no w16) hb3 (by
    have h1 := numL_le who.toNat; have h2 := hdsL_le v; have h3 := numL_le v.length; unfold vecL; simp only [List.length_append, List.length_cons, List.length_nil]; omega)
  have hK : clmK (who.toNat : Int) v = ([99, 108, 97, 105, 109] ++ numL who.toNat ++ vecL v, 0) := by rw [← hw]; unfold clmK claimL; rw [if_pos ⟨hr, h0, h8⟩]
  rw [hK]
  exact ⟨a', _, c', w18, hr18, a', c', rfl, hO18, X18⟩
theorem rcText_spec (hv : RowAt w va (hsC v)) (hf : fitV v) (hl : v.length ≤ 1000) :
    Calls Try.prog 20 #[.int .i64 who, .slice va v.length vc] w (fun x w' => ∃ a c, x = .returned (.tuple #[.slice a (clmK who v).1.length c, .int .i64 (clmK who v).2]) ∧ OwnB w.heap.size w' a c (clmK who v).1 ∧ Ext no w w') := by
  refine (cachetteref23_Text.go who va v.length vc (R := fun x w' => ∃ a c, x = (.tuple #[.slice a (clmK who v).1.length c, .int .i64 (clmK who v).2]) ∧ OwnB w.heap.size w' a c (clmK who v).1 ∧ Ext no w w') ?_).mono fun x w' ⟨u, he, a, c, hu, hw⟩ => ⟨a, c, by rw [he, hu], hw⟩
  unfold cachetteref23_Text.N
  have bad : ¬ (rightV v = true ∧ 0 ≤ who ∧ who < 8) → ∀ w2, Ext no w w2 → ∃ a c, (Value.tuple #[.slice none 0 0, .int .i64 1]) = (.tuple #[.slice a (clmK who v).1.length c, .int .i64 (clmK who v).2]) ∧ OwnB w.heap.size w2 a c (clmK who v).1 ∧ Ext no w w2 := fun h w2 X => ⟨none, 0, by unfold clmK; rw [if_neg h]; rfl, by unfold clmK; rw [if_neg h]; exact OwnB.nil _ _, X⟩
  refine (rBytes5_spec hv hl (vec_nat hf)).mono fun u w6 ⟨X6, h⟩ => ?_
  rcases h with ⟨hr, he⟩ | ⟨hr, a3, c3, he, hO3⟩
  · have hb := bad (fun h => by rw [hr] at h; cases h.1) _ X6
    exact ⟨none, 0, 0, 1, he, fun _ => hb, fun _ => ⟨fun _ => hb, fun _ => ⟨fun _ => hb, fun h => absurd h (by decide)⟩⟩⟩
  refine ⟨a3, _, c3, 0, he, fun h => bad (by omega) _ X6, fun h0 => ⟨fun h => bad (by omega) _ X6, fun h8 => ⟨fun h => absurd rfl h, fun _ w10 q X10 hb hq hq' => ?_⟩⟩⟩
  have l6 := X6.size
  have l10 := X10.size
  obtain ⟨w13, hc, hr13, X13⟩ := litB Try.underlying23 Try.underlying5 [99, 108, 97, 105, 109] X10 hb hq
  refine ⟨_, _, _, w13, hc, ?_⟩
  rw [wu64 h0 (by omega)]
  have hw : who = (who.toNat : Int) := by omega
  rw [hw]
  refine (W.rNum_spec who.toNat w13 (by omega)).mono fun u w16 ⟨a16, c16, he, hO16, X16⟩ => ⟨a16, _, c16, he, ?_⟩
  have X616 := X13.trans X16
  have hn := numL_le who.toNat
  have h2 := hdsL_le v
  have h3 := numL_le v.length
  obtain ⟨a', c', w18, hr18, hO18, X18'⟩ := appN (xc := c16) (hr13.no X16) hO16.row (numL_pos _) (by simp only [List.length_cons, List.length_nil]; omega)
  have X18 := X616.trans X18'
  have hb3 : RowAt w18 a3 (bytesV (vecL v)) := hO3.row.no X18
  obtain ⟨a'', c'', w20, hr20, hO20, X20, _, _⟩ := app (N := w6.heap.size) (xc := c3) (OwnB.up hO18 (by have := X616.size; omega)) X18 (Nat.le_refl _) (by have := X18.size; omega) (Ext.refl no w18) hb3 (by unfold vecL; simp only [List.length_append, List.length_cons, List.length_nil]; omega)
  have hK : clmK (who.toNat : Int) v = ([99, 108, 97, 105, 109] ++ numL who.toNat ++ vecL v, 0) := by rw [← hw]; unfold clmK claimL; rw [if_pos ⟨hr, h0, h8⟩]
  rw [hK]
  exact ⟨a', _, c', w18, hr18, a'', _, c'', w20, hr20, a'', c'', rfl, OwnB.up hO20 l6, X6.trans X20⟩
end
end Go.Proofs.Ytfmdpjhkojbocaa

/- Claims: signed, and held. -/
set_option linter.unusedVariables false
set_option linter.unusedSimpArgs false
set_option maxRecDepth 20000
set_option maxHeartbeats 4000000
namespace Go.Proofs.Ytfmdpjhkojbocaa
open Go Go.Mx Go.Proofs
open W (OwnB GivesW numR countR doneR zig unzig intR)
section
variable {w w' w1 : World} {o o' : Own} {k j n N : Nat} {K : Nat → Prop} {S : OS} {v : List Hd} {va : Option Addr} {vc : Nat} {s p who : Int} {x : FP}
theorem clmK_len (hl : v.length ≤ 1000) : (clmK who v).1.length ≤ 100000 := by
  unfold clmK
  split
  · exact claimL_len hl
  · exact Nat.zero_le _
theorem FP.zero_ok (w : World) (o : Own) : FP.ok w o ⟨Fr.zero, none, 0, none, 0, none, 0⟩ := ⟨Row.nil _ _ _, Row.nil _ _ _, Row.nil _ _ _, Nat.le_refl _, Nat.le_refl _, Nat.le_refl _⟩
theorem fClaim_spec (h : POrc w o k S) (ok : Tags w o) (hok : S.ok) (hlen : S.used.length < 1000000) (hv : Row w o va (hsC v)) (hf : fitV v) (hl : v.length ≤ 1000) :
    Calls Try.prog 21 #[.pointer (some (blk k)), .int .i64 who, .int .u64 s, .slice va v.length vc] w (fun z w' => ∃ o', ∃ y : FP, z = .returned (.tuple #[y.V, .int .i64 (claimS S s who v).1.2]) ∧ Step (fun i => i = k) w o w' o' ∧ POrc w' o' k (claimS S s who v).2 ∧ y.ok w' o' ∧ y.r = (claimS S s who v).1.1) := by
  refine (forkcheck_Claim.go (some (blk k)) who s va v.length vc (R := fun z w' => ∃ o', ∃ y : FP, z = (.tuple #[y.V, .int .i64 (claimS S s who v).1.2]) ∧ Step (fun i => i = k) w o w' o' ∧ POrc w' o' k (claimS S s who v).2 ∧ y.ok w' o' ∧ y.r = (claimS S s who v).1.1) ?_).mono fun z w' ⟨u, he, o', y, hu, hw⟩ => ⟨o', y, by rw [he, hu], hw⟩
  unfold forkcheck_Claim.N
  intro w5 p6 X5 hp6
  obtain ⟨s5, M5⟩ := Step.priv X5 hp6 ok
  have g6 := hp6 p6 (by simp)
  have hkl := h.lt
  refine (fText_spec (hv.step s5).1 hf hl).mono fun u w10 ⟨a, c, he, hO, X10⟩ => ⟨a, _, c, _, he, X10.kept, fun h0 w31 X31 => ?_, fun h0 => ?_⟩
  · have s10 := s5.trans (Step.of_no X10 s5.ok)
    have M10 := M5.step (Step.of_no X10 s5.ok)
    have s31' := Step.stores X31 s10.ok M10 (by simp)
    have s31 := s10.trans' s31' fun i hi => .inr (by simp at hi; omega)
    unfold claimS; rw [if_pos h0]
    exact ⟨_, ⟨Fr.zero, none, 0, none, 0, none, 0⟩, rfl, s31.none, (h.step s10 id).step s31' (by simp; omega), FP.zero_ok _ _, rfl⟩
  have s10' := Step.of_no X10 s5.ok
  have s10 := s5.trans s10'
  have M10 := M5.step s10'
  have hrow : Row w10 (grow w5 (tags w o [p6])) a (bytesV (clmK who v).1) := OwnB.tight hO (Nat.le_refl _)
  refine (SignO (h.step s10 id) s10.ok hok hlen s hrow).mono fun u w35 ⟨o35, he, s35', P35⟩ => ⟨_, _, he, M10.keep s35' (by simp; omega), ?_⟩
  have s35 := s10.none.trans s35'
  have M35 := M10.step s35'
  have hS : claimS S s who v = if (signOf S s (clmK who v).1).1.2 = true then ((⟨3, Ent.zero, Ent.zero, who, v, (signOf S s (clmK who v).1).1.1⟩, 0), (signOf S s (clmK who v).1).2) else ((Fr.zero, 11), (signOf S s (clmK who v).1).2) := by
    unfold claimS; rw [if_neg (not_not_intro h0)]
  rw [hS]
  cases hb : (signOf S s (clmK who v).1).1.2
  · refine ⟨fun _ w56 X56 => ?_, fun h => absurd h (by simp)⟩
    have s56' := Step.stores X56 s35.ok M35 (by simp)
    exact ⟨_, ⟨Fr.zero, none, 0, none, 0, none, 0⟩, rfl, s35.trans' s56' fun i hi => .inr (by simp at hi; omega), P35.step s56' (by simp; omega), FP.zero_ok _ _, rfl⟩
  · refine ⟨fun h => absurd rfl h, fun _ => ?_⟩
    refine (Clone_spec s35.ok (hv.step s35).1 (by omega)).mono fun u w59 ⟨o59, ca, cc, he, s59', r59⟩ => ⟨ca, _, cc, he, (M35.step s59' |>.sub (M := [p6]) (by simp)) |> fun _ => M35.keep s59' (fun _ _ => id), fun w79 X79 => ?_⟩
    have X59 : Ext no w35 w59 := s59'.ext.mono fun b ⟨_, _, h⟩ _ => h
    have t59 := Step.of_no X59 s35.ok
    have M59 := M35.step t59
    have row59 : Row w59 (grow w35 o35) ca (hsC v) := LRow.give r59 s59' (Nat.le_refl _)
    have s79' := Step.stores X79 t59.ok M59 (by simp)
    have hcl : v.length ≤ cc := r59.le
    exact ⟨_, ⟨⟨3, Ent.zero, Ent.zero, who, v, (signOf S s (clmK who v).1).1.1⟩, none, 0, none, 0, ca, cc⟩, rfl, (s35.trans t59.none).trans' s79' fun i hi => .inr (by simp at hi; omega), (P35.step t59 id).step s79' (by simp; omega), ⟨Row.nil _ _ _, Row.nil _ _ _, row59.step s79', Nat.le_refl _, Nat.le_refl _, hcl⟩, rfl⟩
theorem rcClaim_spec (h : Rof w o j S n) (hn : n + 1 < 1000000) (hv : Row w o va (hsC v)) (hvc : v.length ≤ vc) (hf : fitV v) (hl : v.length ≤ 1000) :
    Calls Try.prog 22 #[.pointer (some (blk j)), .int .i64 who, .int .u64 s, .slice va v.length vc] w (fun z w' => ∃ o', ∃ y : FP, z = .returned (.tuple #[y.V, .int .i64 (claimS S s who v).1.2]) ∧ Step (fun i => i = j) w o w' o' ∧ Rof w' o' j (claimS S s who v).2 (n + 1) ∧ y.ok w' o' ∧ y.r = (claimS S s who v).1.1) := by
  refine (cachetteref23_Claim.go (some (blk j)) who s va v.length vc (R := fun z w' => ∃ o', ∃ y : FP, z = (.tuple #[y.V, .int .i64 (claimS S s who v).1.2]) ∧ Step (fun i => i = j) w o w' o' ∧ Rof w' o' j (claimS S s who v).2 (n + 1) ∧ y.ok w' o' ∧ y.r = (claimS S s who v).1.1) ?_).mono fun z w' ⟨u, he, o', y, hu, hw⟩ => ⟨o', y, by rw [he, hu], hw⟩
  unfold cachetteref23_Claim.N
  intro w5 p6 X5 hp6
  obtain ⟨s5, M5⟩ := Step.priv X5 hp6 h.ok
  have g6 := hp6 p6 (by simp)
  have hkl := h.lt
  refine (rcText_spec (hv.step s5).1 hf hl).mono fun u w10 ⟨a, c, he, hO, X10⟩ => ⟨a, _, c, _, he, X10.kept, fun h0 w31 X31 => ?_, fun h0 => ?_⟩
  · have s10 := s5.trans (Step.of_no X10 s5.ok)
    have M10 := M5.step (Step.of_no X10 s5.ok)
    have s31' := Step.stores X31 s10.ok M10 (by simp)
    have s31 := s10.trans' s31' fun i hi => .inr (by simp at hi; omega)
    unfold claimS; rw [if_pos h0]
    exact ⟨_, ⟨Fr.zero, none, 0, none, 0, none, 0⟩, rfl, s31.none, ((h.step s10 id).step s31' (by simp; omega)).mono (by omega), FP.zero_ok _ _, rfl⟩
  have s10' := Step.of_no X10 s5.ok
  have s10 := s5.trans s10'
  have M10 := M5.step s10'
  have hrow : Row w10 (grow w5 (tags w o [p6])) a (bytesV (clmK who v).1) := OwnB.tight hO (Nat.le_refl _)
  refine ((h.step s10 id).sign (by omega) s hrow hO.le (by have := clmK_len (who := who) hl; omega)).mono fun u w35 ⟨o35, he, s35', P35⟩ => ⟨_, _, he, M10.keep s35' (by simp; omega), ?_⟩
  have s35 := s10.none.trans s35'
  have M35 := M10.step s35'
  have hS : claimS S s who v = if (signOf S s (clmK who v).1).1.2 = true then ((⟨3, Ent.zero, Ent.zero, who, v, (signOf S s (clmK who v).1).1.1⟩, 0), (signOf S s (clmK who v).1).2) else ((Fr.zero, 11), (signOf S s (clmK who v).1).2) := by
    unfold claimS; rw [if_neg (not_not_intro h0)]
  rw [hS]
  cases hb : (signOf S s (clmK who v).1).1.2
  · refine ⟨fun _ w56 X56 => ?_, fun h => absurd h (by simp)⟩
    have s56' := Step.stores X56 s35.ok M35 (by simp)
    exact ⟨_, ⟨Fr.zero, none, 0, none, 0, none, 0⟩, rfl, s35.trans' s56' fun i hi => .inr (by simp at hi; omega), P35.step s56' (by simp; omega), FP.zero_ok _ _, rfl⟩
  · refine ⟨fun h => absurd rfl h, fun _ w79 X79 => ?_⟩
    have s79' := Step.stores X79 s35.ok M35 (by simp)
    exact ⟨_, ⟨⟨3, Ent.zero, Ent.zero, who, v, (signOf S s (clmK who v).1).1.1⟩, none, 0, none, 0, va, vc⟩, rfl, s35.trans' s79' fun i hi => .inr (by simp at hi; omega), P35.step s79' (by simp; omega), ⟨Row.nil _ _ _, Row.nil _ _ _, (hv.step s35).step s79', Nat.le_refl _, Nat.le_refl _, hvc⟩, rfl⟩
theorem fHolds_spec (h : POrc w o k S) (ok : Tags w o) (hx : x.ok w o) (hf : fitV x.r.v) (hl : x.r.v.length ≤ 1000) :
    Calls Try.prog 25 #[.pointer (some (blk k)), .int .u64 p, x.V] w (Ret (.bool (holdsF S p x.r)) fun w' => Ext no w w') := by
  obtain ⟨⟨kd, e, f, who, v, sg⟩, ea, ec, fa, fc, va, vc⟩ := x
  refine forkcheck_Holds.run (some (blk k)) p kd e.w e.i e.pv e.t e.tw e.ep ea e.body.length ec e.sg f.w f.i f.pv f.t f.tw f.ep fa f.body.length fc f.sg who va v.length vc sg ?_
  unfold forkcheck_Holds.N
  refine ⟨fun h3 w2 X => ⟨by simp [holdsF, h3], X⟩, fun h3 w23 p26 X23 hp => ?_⟩
  have s23 := Step.of_no X23 ok
  refine (fRight_spec ((hx.step s23).at) (by omega)).mono fun u w29 ⟨he, X29⟩ => ⟨_, he, X29.kept, fun hr => ?_, fun hr => ?_⟩
  · have hr' : frOK ⟨kd, e, f, who, v, sg⟩ = false := hr
    exact ⟨by simp [holdsF, hr'], X23.trans X29⟩
  · have hr' : frOK ⟨kd, e, f, who, v, sg⟩ = true := hr
    have s29 := s23.trans (Step.of_no X29 s23.ok)
    refine (fText_spec (hx.step s29).v.1 hf hl).mono fun u w34 ⟨a, c, he, hO, X34⟩ => ⟨a, _, c, _, he, X34.kept, ?_⟩
    have s34 := s29.trans (Step.of_no X34 s29.ok)
    have hrow : Row w34 (grow w29 (grow w23 (grow w o))) a (bytesV (clmK who v).1) := OwnB.tight hO (Nat.le_refl _)
    refine (VerifyO (h.step s34 id) s34.ok p sg hrow).mono fun u w37 ⟨he, X37⟩ => ⟨_, he, ?_, ((X23.trans X29).trans X34).trans X37⟩
    show Value.bool _ = Value.bool (decide (kd = 3) && (frOK ⟨kd, e, f, who, v, sg⟩ && verifyOf S p (clmK who v).1 sg))
    rw [hr', decide_eq_true h3]; rfl
theorem rcHolds_spec (h : Rof w o j S n) (hn : n < 1000000) (hx : x.ok w o) (hf : fitV x.r.v) (hl : x.r.v.length ≤ 1000) (hle : x.r.e.body.length < 1000000) (hlf : x.r.f.body.length < 1000000) :
    Calls Try.prog 26 #[.pointer (some (blk j)), .int .u64 p, x.V] w (Ret (.bool (holdsF S p x.r)) fun w' => Ext no w w') := by
  obtain ⟨⟨kd, e, f, who, v, sg⟩, ea, ec, fa, fc, va, vc⟩ := x
  refine cachetteref23_Holds.run (some (blk j)) p kd e.w e.i e.pv e.t e.tw e.ep ea e.body.length ec e.sg f.w f.i f.pv f.t f.tw f.ep fa f.body.length fc f.sg who va v.length vc sg ?_
  unfold cachetteref23_Holds.N
  intro w23 p24 X23 hp
  have s23 := Step.of_no X23 h.ok
  refine (rcText_spec (hx.step s23).v.1 hf hl).mono fun u w28 ⟨a, c, he, hO, X28⟩ => ⟨a, _, c, _, he, X28.kept, fun h3 => ?_, fun h3 => ⟨by simp [holdsF, h3], X23.trans X28⟩⟩
  have s28 := s23.trans (Step.of_no X28 s23.ok)
  have hrow : Row w28 (grow w23 (grow w o)) a (bytesV (clmK who v).1) := OwnB.tight hO (Nat.le_refl _)
  refine (rfRight_spec ((hx.step s28).at) (by omega) hle hlf).mono fun u w32 ⟨he, X32⟩ => ⟨_, he, X32.kept, fun hr => ?_, fun hr => ?_⟩
  · have hr' : frOK ⟨kd, e, f, who, v, sg⟩ = true := hr
    have s32' := Step.of_no X32 s28.ok
    refine (((h.step s28 id).step s32' id).verify hn p sg (hrow.step s32')).mono fun u w36 ⟨he, X36⟩ => ⟨_, he, ?_, ((X23.trans X28).trans X32).trans X36⟩
    show Value.bool _ = Value.bool (decide (kd = 3) && (frOK ⟨kd, e, f, who, v, sg⟩ && verifyOf S p (clmK who v).1 sg))
    rw [hr', decide_eq_true h3]; rfl
  · have hr' : frOK ⟨kd, e, f, who, v, sg⟩ = false := hr
    exact ⟨by simp [holdsF, hr'], (X23.trans X28).trans X32⟩
def frLight (r : Fr) : Bool := decide (r.e.body.length ≤ 1500 ∧ r.f.body.length ≤ 1500 ∧ r.v.length ≤ 30)
theorem frLight_spec (x : FP) : Calls Try.prog 17 #[x.V] w (Ret (.bool (frLight x.r)) fun w' => Ext no w w') := by
  obtain ⟨⟨kd, e, f, who, v, sg⟩, ea, ec, fa, fc, va, vc⟩ := x
  refine cachettelaw21_Light.run kd e.w e.i e.pv e.t e.tw e.ep ea e.body.length ec e.sg f.w f.i f.pv f.t f.tw f.ep fa f.body.length fc f.sg who va v.length vc sg ?_
  unfold cachettelaw21_Light.N
  have leaf : ∀ {b : Bool} {w2 : World}, (b = true ↔ (e.body.length ≤ 1500 ∧ f.body.length ≤ 1500 ∧ v.length ≤ 30)) → Ext no w w2 → Value.bool b = Value.bool (frLight ⟨kd, e, f, who, v, sg⟩) ∧ Ext no w w2 := fun {b} {w2} h X => ⟨by
    congr 1
    rw [Bool.eq_iff_iff, h]
    unfold frLight; rw [decide_eq_true_eq], X⟩
  refine ⟨fun h1 => ⟨fun h2 w2 X => leaf ?_ X, fun h2 w2 X => leaf ?_ X⟩, fun h1 w2 X => leaf ?_ X⟩
  · rw [decide_eq_true_eq]; omega
  · constructor
    · intro h; cases h
    · intro h; omega
  · constructor
    · intro h; cases h
    · intro h; omega
theorem frOwn_spec (x : FP) : Calls Try.prog 27 #[x.V] w (Ret x.V fun w' => Ext no w w') := by
  obtain ⟨⟨kd, e, f, who, v, sg⟩, ea, ec, fa, fc, va, vc⟩ := x
  refine cachettelaw21_Own.run kd e.w e.i e.pv e.t e.tw e.ep ea e.body.length ec e.sg f.w f.i f.pv f.t f.tw f.ep fa f.body.length fc f.sg who va v.length vc sg ?_
  unfold cachettelaw21_Own.N
  exact fun w2 X => ⟨rfl, X⟩
theorem frBack_spec (x : FP) : Calls Try.prog 24 #[x.V] w (Ret x.V fun w' => Ext no w w') := by
  obtain ⟨⟨kd, e, f, who, v, sg⟩, ea, ec, fa, fc, va, vc⟩ := x
  refine cachettelaw21_Back.run kd e.w e.i e.pv e.t e.tw e.ep ea e.body.length ec e.sg f.w f.i f.pv f.t f.tw f.ep fa f.body.length fc f.sg who va v.length vc sg ?_
  unfold cachettelaw21_Back.N
  exact fun w2 X => ⟨rfl, X⟩
end
end Go.Proofs.Ytfmdpjhkojbocaa

/- ForkcheckClaims. -/
set_option linter.unusedVariables false
set_option linter.unusedSimpArgs false
set_option maxRecDepth 20000
set_option maxHeartbeats 4000000
namespace Go.Proofs.Ytfmdpjhkojbocaa
open Go Go.Mx Go.Proofs
open W (OwnB GivesW numR countR doneR zig unzig intR)
/-- a frame that is handed in. -/
structure FP.inn (W : World) (x : FP) : Prop where
  at_ : x.at W
  el : x.r.e.body.length ≤ x.ec
  fl : x.r.f.body.length ≤ x.fc
  vl : x.r.v.length ≤ x.vc
  fv : ∀ h ∈ x.r.v, fitH h
  fe : x.r.e.fit ∧ x.r.e.wide
  ff : x.r.f.fit ∧ x.r.f.wide
  kd : -9223372036854775808 ≤ x.r.kd ∧ x.r.kd < 9223372036854775808
  who : -9223372036854775808 ≤ x.r.who ∧ x.r.who < 9223372036854775808
  sg : 0 ≤ x.r.sg ∧ x.r.sg < 18446744073709551616
def FrQ (W : World) (cs : List Value) : Prop := ∃ x : FP, cs = x.C ∧ x.inn W
theorem opens_frame : Opens Try.prog 58 FrQ :=
  (opens_seq (qs := [(1, _), (8, _), (8, _), (1, _), (1, _), (1, _)]) (size := 20) Try.underlying58 (by kernel_rfl)
    ⟨⟨rfl, by kernel_rfl, opens_int Try.underlying3⟩, ⟨rfl, by kernel_rfl, opens_entry⟩, ⟨rfl, by kernel_rfl, opens_entry⟩, ⟨rfl, by kernel_rfl, opens_int Try.underlying3⟩, ⟨rfl, by kernel_rfl, opens_heads⟩, ⟨rfl, by kernel_rfl, opens_int Try.underlying25⟩, rfl⟩).mono
    fun W cs ⟨_, _, e0, _, ⟨kd, q0, fk⟩, _, _, e1, _, ⟨e, ea, ec, q1, f1, g1, l1, _, r1⟩, _, _, e2, _, ⟨f, fa, fc, q2, f2, g2, l2, _, r2⟩, _, _, e3, _, ⟨who, q3, fw⟩, _, _, e4, _, ⟨va, vc, hs, q4, l4, _, r4, f4⟩, _, _, e5, _, ⟨sg, q5, fs⟩, q6⟩ => by
      subst q0; subst q1; subst q2; subst q3; subst q4; subst q5; subst q6; subst e5; subst e4; subst e3; subst e2; subst e1; subst e0
      exact ⟨⟨⟨kd, e, f, who, hs, sg⟩, ea, ec, fa, fc, va, vc⟩, rfl, ⟨r1, r2, r4⟩, l1, l2, l4, f4, ⟨f1, g1⟩, ⟨f2, g2⟩, wf_i64 fk, wf_i64 fw, wf_u64 fs⟩
section
variable {w w' w1 : World} {o o' : Own} {k j n N : Nat} {K : Nat → Prop} {S : OS} {s p : Int}
theorem claimS_fit (S : OS) (s who : Int) {v : List Hd} (hf : fitV v) (hl : v.length ≤ 1000) : fitV (claimS S s who v).1.1.v ∧ (claimS S s who v).1.1.v.length ≤ 1000 ∧ (claimS S s who v).1.1.e = Ent.zero ∧ (claimS S s who v).1.1.f = Ent.zero := by
  unfold claimS
  split
  · exact ⟨fun h hh => (by cases hh), Nat.zero_le _, rfl, rfl⟩
  · split
    · exact ⟨hf, hl, rfl, rfl⟩
    · exact ⟨fun h hh => (by cases hh), Nat.zero_le _, rfl, rfl⟩
theorem claimS_inv (h : OInv S) (s who : Int) (v : List Hd) : OInv (claimS S s who v).2 := by
  unfold claimS
  split
  · exact h
  · split <;> exact (sign_inv' h s _).1
end
theorem ForkcheckClaims_spec (W : World) {da va : Option Addr} {dc vc : Nat} {d : List Int} {v : List Hd} {who : Int} {x : FP} (hd : RowAt W da (d.map u64V)) (hdc : d.length ≤ dc) (hdr : ∀ x ∈ d, 0 ≤ x ∧ x < 18446744073709551616) (hv : RowAt W va (hsC v)) (hvc : v.length ≤ vc) (hvf : ∀ h ∈ v, fitH h) (hx : x.inn W) :
    Calls Try.prog 4 #[.slice da d.length dc, .int .i64 who, .slice va v.length vc, x.V] W (Ret (.bool true) fun w' => Ext no W w') := by
  have hfv : fitV v := fun h hh => wf_u64 (hvf h hh).2.2
  have hfx : fitV x.r.v := fun h hh => wf_u64 (hx.fv h hh).2.2
  have ok0 : Tags W (fun _ => none) := fun b j _ h => by cases h
  have row : ∀ {a : Option Addr} {cs : List Value}, RowAt W a cs → Row W (fun _ => none) a cs := fun h => ⟨h, fun _ _ _ => rfl⟩
  have xok : x.ok W (fun _ => none) := ⟨row hx.at_.e, row hx.at_.f, row hx.at_.v, hx.el, hx.fl, hx.vl⟩
  have rv := row hv
  have rd := row hd
  refine cachettelaw23_ForkcheckClaims.run da d.length dc who va v.length vc x.r.kd x.r.e.w x.r.e.i x.r.e.pv x.r.e.t x.r.e.tw x.r.e.ep x.ea x.r.e.body.length x.ec x.r.e.sg x.r.f.w x.r.f.i x.r.f.pv x.r.f.t x.r.f.tw x.r.f.ep x.fa x.r.f.body.length x.fc x.r.f.sg x.r.who x.va x.r.v.length x.vc x.r.sg ?_
  unfold cachettelaw23_ForkcheckClaims.N
  have hal : ∀ w1, Ext no W w1 → Calls Try.prog 5 #[] w1 fun ee w2 => ∃ b : Bool, ee = .returned (.bool b) ∧ Value.bool b = Value.bool true ∧ Ext no W w2 := fun w1 X =>
    (alive23_spec w1).mono fun v w2 ⟨hx, X2⟩ => ⟨_, hx, rfl, X.trans X2⟩
  refine ⟨fun _ w2 X => hal _ X, fun g1 => ⟨fun _ w2 X => hal _ X, fun g2 w24 p35 X24 hp35 => ?_⟩⟩
  obtain ⟨s24, M24⟩ := Step.priv X24 hp35 ok0
  have g35 := hp35 p35 (by simp)
  refine (frLight_spec (w := w24) x).mono fun u w38 ⟨he, X38⟩ => ⟨_, he, X38.kept, fun _ => hal _ (X24.trans X38), fun hL => ?_⟩
  have hL' : frLight x.r = true := hL
  unfold frLight at hL'
  rw [decide_eq_true_eq] at hL'
  have s38' := Step.of_no X38 s24.ok
  have s38 := s24.trans s38'
  have M38 := M24.step s38'
  refine (NewO s38.ok (rd.step s38).1 (by omega)).mono fun u w45 ⟨k, o45, he, hk, s45', P45⟩ => ⟨_, he, M38.keep s45' (fun _ _ => id), fun w46 j X46 hb46 hj hj' => ?_⟩
  have s45 := s38.trans s45'
  have hkl := P45.lt
  obtain ⟨o46, s46', R46⟩ := Rof.init X46 hb46 hj hj' s45.ok (rd.step s45) hdc hdr
  have s46 := s45.trans s46'
  have M46 := (M38.step s45').step s46'
  have l24 := X24.size
  have l38 := X38.size
  have l46 := R46.lt
  have i0 : OInv (OS.init d) := OInv.init hdr
  refine (PairO (P45.step s46' id) s46.ok i0.ok (show (0 : Nat) + 1 < 1000000 by decide)).mono fun u w51 ⟨o51, he, s51', P51⟩ => ⟨_, _, he, M46.keep s51' (by simp; omega), ?_⟩
  refine ((R46.step s51' (by omega)).pair (by omega)).mono fun u w55 ⟨o55, he, s55', R55⟩ => ⟨_, _, he, (M46.step s51').keep s55' (by simp; omega), ?_⟩
  have sB : Step (fun i => i = k ∨ i = j) w46 o46 w55 o55 := (s51'.mono fun _ h _ => .inl h).trans (s55'.mono fun _ h _ => .inr h)
  have s55 : Step no W (fun _ => none) w55 o55 := s46.trans' sB fun i hi => .inr (by have := s38.size; omega)
  have P55 := P51.step s55' (by omega)
  have M55 := M46.step sB
  obtain ⟨i1, _, kp, ks, _⟩ := pair_inv i0
  have u1 : (pairOf (OS.init d)).2.used.length ≤ 2 := by have := (pairOf_ok i0.ok).2; exact this
  generalize (pairOf (OS.init d)).2 = S1 at *
  generalize (pairOf (OS.init d)).1.1 = s at *
  generalize (pairOf (OS.init d)).1.2 = p at *
  refine (fText_spec (rv.step s55).1 hfv (by omega)).mono fun u w59 ⟨a9, c9, he, hO9, X59⟩ => ⟨a9, _, c9, _, he, X59.kept, ?_⟩
  have s59' := Step.of_no X59 s55.ok
  have s59 := s55.trans s59'
  refine (rcText_spec (rv.step s59).1 hfv (by omega)).mono fun u w63 ⟨a3, c3, he, hO3, X63⟩ => ⟨a3, _, c3, _, he, X63.kept, ?_⟩
  have s63' := Step.of_no X63 s59.ok
  have s63 := s59.trans s63'
  have r9 : Row w59 (grow w55 o55) a9 (bytesV (clmK who v).1) := OwnB.tight hO9 (Nat.le_refl _)
  have r3 : Row w63 (grow w59 (grow w55 o55)) a3 (bytesV (clmK who v).1) := OwnB.tight hO3 (Nat.le_refl _)
  have M63 := (M55.step s59').step s63'
  have P63 := (P55.step s59' id).step s63' id
  have R63 := (R55.step s59' id).step s63' id
  have r9 := r9.step s63'
  refine (fClaim_spec (who := who) (s := s) P63 s63.ok i1.ok (by omega) (rv.step s63) hfv (by omega)).mono fun u w86 ⟨o86, y, he, s86', P86, yok, hy⟩ => ⟨_, _, _, _, _, _, _, _, _, _, _, _, _, _, _, _, _, _, _, _, _, _, _, _, _, _, _, he, M63.keep s86' (by simp; omega), fun w107 p108 X107 hp108 => ?_⟩
  have M86 := M63.step s86'
  obtain ⟨s107', M107'⟩ := Step.priv X107 hp108 s86'.ok
  have M107 := (M86.step s107').app M107'
  have g108 := hp108 p108 (by simp)
  have l55 := s55'.size
  have l51 := s51'.size
  have l86 := s86'.size
  have l59 := X59.size
  have l63 := X63.size
  have s63107 := s86'.trans s107'.none
  have R107 := R63.step s63107 (by omega)
  refine (rcClaim_spec (who := who) (s := s) R107 (by omega) ((rv.step s63).step s63107) hvc hfv (by omega)).mono fun u w131 ⟨o131, z, he, s131', R131, zok, hz⟩ => ⟨_, _, _, _, _, _, _, _, _, _, _, _, _, _, _, _, _, _, _, _, _, _, _, _, _, _, _, he, M107.keep s131' (by simp; omega), fun w153 p154 X153 hp154 => ?_⟩
  have M131 := M107.step s131'
  obtain ⟨s153', M153'⟩ := Step.priv X153 hp154 s131'.ok
  have M153 := (M131.step s153').app M153'
  have s86153 := (s107'.none.trans s131').trans s153'.none
  have y153 := yok.step s86153
  have z153 := zok.step s153'
  have P153 := P86.step s86153 (by omega)
  have R153 := R131.step s153' id
  have sC : Step (fun i => i = k ∨ i = j) w63 _ w153 _ := (s86'.mono fun _ h _ => .inl h).trans (s86153.mono fun _ h _ => .inr h)
  have s153 : Step no W (fun _ => none) w153 _ := s63.trans' sC fun i hi => .inr (by have := s38.size; omega)
  refine (sameB_spec (r9.step sC).1 (r3.step sC).1 (by have := clmK_len (who := who) (v := v) (by omega); omega)).mono fun u w157 ⟨he, X157⟩ => ⟨_, he, X157.kept, fun _ => ⟨fun _ => ?_, fun h => absurd rfl h⟩, fun h => absurd h (by simp)⟩
  have t157 := Step.of_no X157 s153'.ok
  refine (frBack_spec (w := w157) y).mono fun u w181 ⟨he, X181⟩ => ⟨_, _, _, _, _, _, _, _, _, _, _, _, _, _, _, _, _, _, _, _, _, _, _, _, _, _, he, X181.kept, ?_⟩
  have t181 := t157.trans (Step.of_no X181 t157.ok)
  obtain ⟨cf1, cf2, cf3, cf4⟩ := claimS_fit S1 s who hfv (by omega)
  rw [← hy] at cf1 cf2 cf3 cf4
  have hzy : z.r = y.r := by rw [hz, hy]
  refine (rfSame_spec (x := y) (y := z) (y153.step t181).at (z153.step t181).at (by rw [cf3]; decide) (by rw [cf4]; decide) (by omega)).mono fun u w184 ⟨he, X184⟩ => ⟨_, he, X184.kept, fun _ => ⟨fun _ => ?_, fun h => absurd rfl h⟩, fun h => absurd h (by rw [hzy]; simp [frSame])⟩
  have t184 := t181.trans (Step.of_no X184 t181.ok)
  have inv2 : OInv (claimS S1 s who v).2 := claimS_inv i1 s who v
  refine (fHolds_spec (p := p) (P153.step t184 id) t184.ok (y153.step t184) cf1 cf2).mono fun u w189 ⟨he, X189⟩ => ⟨_, he, X189.kept, ?_⟩
  have t189 := t184.trans (Step.of_no X189 t184.ok)
  refine (rcHolds_spec (p := p) (R153.step t189 id) (by omega) (z153.step t189) (by rw [hzy]; exact cf1) (by rw [hzy]; exact cf2) (by rw [hzy, cf3]; decide) (by rw [hzy, cf4]; decide)).mono fun u w192 ⟨he, X192⟩ => ⟨_, he, X192.kept, fun _ => ?_, fun h => absurd (by rw [hzy]) h⟩
  have t192 := t189.trans (Step.of_no X192 t189.ok)
  refine (frOwn_spec (w := w192) x).mono fun u w215 ⟨he, X215⟩ => ⟨_, _, _, _, _, _, _, _, _, _, _, _, _, _, _, _, _, _, _, _, _, _, _, _, _, _, he, X215.kept, ?_⟩
  have t215 := t192.trans (Step.of_no X215 t192.ok)
  refine (fHolds_spec (p := p) (P153.step t215 id) t215.ok ((xok.step s153).step t215) hfx (by omega)).mono fun u w218 ⟨he, X218⟩ => ⟨_, he, X218.kept, ?_⟩
  have t218 := t215.trans (Step.of_no X218 t215.ok)
  refine (rcHolds_spec (p := p) (R153.step t218 id) (by omega) ((xok.step s153).step t218) hfx (by omega) (by omega) (by omega)).mono fun u w221 ⟨he, X221⟩ => ⟨_, he, fun _ => hal _ ?_, fun h => absurd rfl h⟩
  exact ((s153.trans t218).ext.mono fun b ⟨_, h, _⟩ _ => by cases h).trans X221
theorem ForkcheckClaims_walk (W : World) (a0 : Option Addr) (len0 cap0 : Nat) (n1 : Int) (a2 : Option Addr) (len2 cap2 : Nat) (cs3 : Array Value) (o0 : IntsQ .u64 W [.slice a0 len0 cap0]) (w1 : (Lit.int .i64 n1).wf = true) (o2 : HeadsQ W [.slice a2 len2 cap2]) (o3 : FrQ W cs3.toList) :
    Calls Try.prog 4 #[.slice a0 len0 cap0, .int .i64 n1, .slice a2 len2 cap2, .agg cs3] W (Ret (.bool true) fun w' => Ext no W w') := by
  obtain ⟨_, c0, d, e0, l0, _, r0, f0⟩ := o0
  obtain ⟨_, c2, v, e2, l2, _, r2, f2⟩ := o2
  obtain ⟨x, hx, hi⟩ := o3
  cases e0; cases e2
  obtain rfl : cs3 = x.C.toArray := Array.ext' hx
  exact ForkcheckClaims_spec W r0 l0 (fun x hx => wf_u64 (f0 x hx)) r2 l2 f2 hi
end Go.Proofs.Ytfmdpjhkojbocaa
