/- A function's own blocks, each its own owner. -/
import Derived.Test.YtgagmbmkpfjbbaaMxO
set_option linter.unusedSimpArgs false
set_option linter.unusedVariables false
set_option linter.unusedSectionVars false
namespace Go.Mx
section
variable {K K1 : Nat → Prop} {w w1 w' : World} {o o1 o' : Own} {p q j : Nat}
def Mine (L : List Nat) (w : World) (o : Own) : Prop := ∀ p ∈ L, p < w.heap.size ∧ o p = some p
theorem Mine.nil : Mine [] w o := fun p hp => by simp at hp
theorem Mine.step {L : List Nat} (h : Mine L w o) (s : Step K w o w' o') : Mine L w' o' := fun p hp => ⟨Nat.lt_of_lt_of_le (h p hp).1 s.size, by rw [s.own (h p hp).1]; exact (h p hp).2⟩
theorem Mine.keep {L : List Nat} (h : Mine L w o) (s : Step K w o w' o') (hk : ∀ p ∈ L, ¬ K p) : Keep L w w' := s.keep fun p hp _ k hk' => by
  rw [(h p hp).2] at hk'; cases hk'; exact hk p hp
theorem Mine.sub {L M : List Nat} (h : Mine L w o) (k : ∀ p ∈ M, p ∈ L) : Mine M w o := fun p hp => h p (k p hp)
theorem Mine.app {L M : List Nat} (h : Mine L w o) (k : Mine M w o) : Mine (L ++ M) w o := fun p hp => (List.mem_append.1 hp).elim (h p) (k p)
theorem Mine.lt {L : List Nat} (h : Mine L w o) {p : Nat} (hp : p ∈ L) : p < w.heap.size := (h p hp).1
def tags (w : World) (o : Own) (L : List Nat) : Own := fun b => if b < w.heap.size then o b else if b ∈ L then some b else none
theorem Step.priv {L : List Nat} (h : Ext no w w') (hp : Priv w w' L) (ok : Tags w o) : Step no w o w' (tags w o L) ∧ Mine L w' (tags w o L) := by
  refine ⟨⟨h.mono fun _ h _ => h.elim, fun b hb => if_pos hb, ok, fun b j hb hj => ?_⟩, fun p hq => ⟨(hp p hq).2, ?_⟩⟩
  · unfold tags at hj
    split at hj
    · rename_i hl; exact Nat.lt_of_lt_of_le (ok b j hl hj) h.size
    · split at hj
      · cases hj; exact hb
      · cases hj
  · unfold tags
    rw [if_neg (by have := (hp p hq).1; omega), if_pos hq]
/-- stores into blocks of one's own. -/
theorem Step.stores {L : List Nat} {m : Nat → Prop} (h : Ext m w w') (ok : Tags w o) (hL : Mine L w o) (hm : ∀ b, m b → b ∈ L) : Step (fun j => j ∈ L) w o w' (grow w o) :=
  Step.of_exts h ok fun b hb _ => ⟨b, (hL b (hm b hb)).2, hm b hb⟩
/-- values one behind the other, from a place on. -/
def setAll : List Value → Nat → List Value → List Value
  | cs, _, [] => cs
  | cs, k, v :: r => setAll (cs.set k v) (k + 1) r
def putsK (w : World) (a : Addr) : List Value → Nat → (World → Prop) → Prop
  | [], _, Φ => Φ w
  | v :: r, j, Φ => canStore w (a.add j) ∧ thenW (w.setCell (a.add j) v) fun w' => putsK w' a r (j + 1) Φ
theorem setAll_length : ∀ {vs cs : List Value} {k : Nat}, (setAll cs k vs).length = cs.length
  | [], _, _ => rfl
  | v :: r, cs, k => by rw [setAll, setAll_length]; simp
theorem setAll_shift : ∀ {vs u cs : List Value} {k : Nat}, setAll (u ++ cs) (u.length + k) vs = u ++ setAll cs k vs
  | [], _, _, _ => rfl
  | v :: r, u, cs, k => by
    simp only [setAll]
    rw [show (u ++ cs).set (u.length + k) v = u ++ cs.set k v by rw [List.set_append_right _ _ (by omega)]; congr 2; omega, Nat.add_assoc, setAll_shift]
theorem setAll_head : ∀ {vs u cs : List Value}, vs.length = u.length → setAll (u ++ cs) 0 vs = vs ++ cs
  | [], [], _, _ => rfl
  | v :: r, x :: u, cs, h => by
    have := setAll_shift (vs := r) (u := [v]) (cs := u ++ cs) (k := 0)
    simp only [setAll, List.cons_append, List.set_cons_zero]
    simp only [List.length_cons, List.length_nil, List.cons_append, List.nil_append, Nat.add_zero] at this
    rw [this, setAll_head (by simpa using h)]
  | [], _ :: _, _, h => by simp at h
  | _ :: _, [], _, h => by simp at h
theorem setAll_flat {α : Type} {f : α → List Value} {n : Nat} (hf : ∀ x, (f x).length = n) (x : α) : ∀ {l : List α} {i : Nat}, i < l.length → setAll (l.flatMap f) (i * n) (f x) = (l.set i x).flatMap f
  | [], i, h => by simp at h
  | a :: l, 0, _ => by
    simp only [List.flatMap_cons, Nat.zero_mul, List.set_cons_zero]
    exact setAll_head (by rw [hf, hf])
  | a :: l, i + 1, h => by
    simp only [List.flatMap_cons, List.set_cons_succ]
    rw [show (i + 1) * n = (f a).length + i * n by rw [hf, Nat.add_mul, Nat.one_mul, Nat.add_comm], setAll_shift, setAll_flat hf x (by simpa using h)]
theorem putsK_ok {q k : Nat} {t : TypeId} : ∀ {vs cs : List Value} {j : Nat} {w : World} {Φ : World → Prop}, Blk w q t cs → k + j + vs.length ≤ cs.length → (∀ w', Ext (fun b => b = q) w w' → Blk w' q t (setAll cs (k + j) vs) → Φ w') → putsK w ((blk q).add k) vs j Φ
  | [], cs, j, w, Φ, hb, _, h => h w (Ext.refl _ _) hb
  | v :: r, cs, j, w, Φ, hb, hl, h => by
    simp only [List.length_cons] at hl
    have hc : cs[k + j]? = some (cs[k + j]'(by omega)) := List.getElem?_eq_getElem (by omega)
    refine ⟨by rw [add_add]; exact hb.cana hc, thenW_in fun w2 e2 => ?_⟩
    rw [add_add, add_blk] at e2
    have X : Ext (fun b => b = q) w w2 := (Ext.refl (fun b => b = q) w).x_set (q := q) (i := k + j) rfl (.inl rfl) e2
    have hb2 := hb.seti (k + j) (t := t) (v := v) rfl e2
    exact putsK_ok hb2 (by simp; omega) fun w' X' hb' => h w' (X.trans X') hb'
end
end Go.Mx
