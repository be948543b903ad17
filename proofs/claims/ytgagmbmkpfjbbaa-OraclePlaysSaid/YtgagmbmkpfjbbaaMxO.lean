/- Who may turn which block: each block is nobody's (it stays as it is), or has an owner, told by a number; what a step of some owners leaves. -/
import Derived.Test.YtgagmbmkpfjbbaaMxS
set_option linter.unusedSimpArgs false
set_option linter.unusedVariables false
set_option linter.unusedSectionVars false
namespace Go.Mx
abbrev Own := Nat → Option Nat
/-- owners are blocks that are there. -/
def Tags (w : World) (o : Own) : Prop := ∀ b j, b < w.heap.size → o b = some j → j < w.heap.size
/-- a step of the owners K. -/
structure Step (K : Nat → Prop) (w : World) (o : Own) (w' : World) (o' : Own) : Prop where
  ext : Ext (fun b => ∃ k, o b = some k ∧ K k) w w'
  same : ∀ b, b < w.heap.size → o' b = o b
  ok0 : Tags w o
  ok : Tags w' o'
/-- what is new is nobody's. -/
def grow (w : World) (o : Own) : Own := fun b => if b < w.heap.size then o b else none
def tag (o : Own) (p j : Nat) : Own := fun b => if b = p then some j else o b
section
variable {K K1 : Nat → Prop} {w w1 w' : World} {o o1 o' : Own} {p q j : Nat}
theorem Step.refl (K : Nat → Prop) (h : Tags w o) : Step K w o w o := ⟨Ext.refl _ _, fun _ _ => rfl, h, h⟩
theorem Step.size (h : Step K w o w' o') : w.heap.size ≤ w'.heap.size := h.ext.size
theorem Step.mono (h : Step K w o w' o') (hk : ∀ j, K j → j < w.heap.size → K1 j) : Step K1 w o w' o' :=
  ⟨h.ext.mono fun b ⟨k, h1, h2⟩ hb => ⟨k, h1, hk k h2 (h.ok0 b k hb h1)⟩, h.same, h.ok0, h.ok⟩
theorem Step.trans' (h : Step K w o w1 o1) (k : Step K1 w1 o1 w' o') (hk : ∀ j, K1 j → K j ∨ w.heap.size ≤ j) : Step K w o w' o' := by
  refine ⟨h.ext.then k.ext fun b ⟨j, h1, h2⟩ => ?_, fun b hb => (k.same b (Nat.lt_of_lt_of_le hb h.size)).trans (h.same b hb), h.ok0, k.ok⟩
  by_cases hb : b < w.heap.size
  · rw [h.same b hb] at h1
    rcases hk j h2 with h3 | h3
    · exact .inl ⟨j, h1, h3⟩
    · have := h.ok0 b j hb h1; omega
  · exact .inr (by omega)
theorem Step.trans (h : Step K w o w1 o1) (k : Step K w1 o1 w' o') : Step K w o w' o' := h.trans' k fun _ h => .inl h
theorem Step.none (h : Step no w o w' o') : Step K w o w' o' := h.mono fun _ h _ => h.elim
theorem grow_lt {b : Nat} (h : b < w.heap.size) : grow w o b = o b := if_pos h
theorem grow_ge {b : Nat} (h : w.heap.size ≤ b) : grow w o b = none := if_neg (by omega)
theorem Tags.grow (h : Tags w o) (hs : w.heap.size ≤ w'.heap.size) : Tags w' (grow w o) := fun b j hb hj => by
  by_cases hl : b < w.heap.size
  · rw [grow_lt hl] at hj; exact Nat.lt_of_lt_of_le (h b j hl hj) hs
  · rw [grow_ge (by omega)] at hj; cases hj
theorem tag_self : tag o p j p = some j := if_pos rfl
theorem tag_ne {b : Nat} (h : b ≠ p) : tag o p j b = o b := if_neg h
theorem Tags.tag (h : Tags w o) (hj : j < w.heap.size) : Tags w (tag o p j) := fun b i hb hi => by
  by_cases hp : b = p
  · subst hp; rw [tag_self] at hi; cases hi; exact hj
  · rw [tag_ne hp] at hi; exact h b i hb hi
/-- a step that turns no old block. -/
theorem Step.of_no (h : Ext no w w') (ok : Tags w o) : Step no w o w' (grow w o) := ⟨h.mono fun _ h _ => h.elim, fun _ hb => grow_lt hb, ok, ok.grow h.size⟩
/-- .. and what is new of which is told. -/
theorem Step.tag (h : Step K w o w' o') (hp : w.heap.size ≤ p) (hj : j < w'.heap.size) : Step K w o w' (tag o' p j) :=
  ⟨h.ext, fun b hb => by rw [tag_ne (by omega)]; exact h.same b hb, h.ok0, h.ok.tag hj⟩
/-- a step that turns one owner's blocks. -/
theorem Step.of_ext {m : Nat → Prop} (h : Ext m w w') (ok : Tags w o) (hm : ∀ b, m b → b < w.heap.size → o b = some p) : Step (fun j => j = p) w o w' (grow w o) :=
  ⟨h.mono fun b hb hl => ⟨p, hm b hb hl, rfl⟩, fun _ hb => grow_lt hb, ok, ok.grow h.size⟩
theorem Step.of_exts {m : Nat → Prop} (h : Ext m w w') (ok : Tags w o) (hm : ∀ b, m b → b < w.heap.size → ∃ k, o b = some k ∧ K k) : Step K w o w' (grow w o) :=
  ⟨h.mono fun b hb hl => hm b hb hl, fun _ hb => grow_lt hb, ok, ok.grow h.size⟩
theorem Step.at (h : Step K w o w' o') {b : Nat} (hb : b < w.heap.size) (hk : ∀ k, o b = some k → ¬ K k) : w'.heap[b]? = w.heap[b]? :=
  h.ext.block b hb fun ⟨k, h1, h2⟩ => hk k h1 h2
theorem Step.blk (h : Step K w o w' o') {t : TypeId} {cs : List Value} (hb : Blk w p t cs) (hp : o p = some j) (hj : ¬ K j) : Blk w' p t cs := by
  have := h.at hb.lt fun k hk => by rw [hp] at hk; cases hk; exact hj
  unfold Blk at hb ⊢
  rw [this]; exact hb
theorem Step.own (h : Step K w o w' o') (hp : p < w.heap.size) : o' p = o p := h.same p hp
theorem Step.keep (h : Step K w o w' o') {L : List Nat} (hL : ∀ p ∈ L, p < w.heap.size → ∀ k, o p = some k → ¬ K k) : Keep L w w' := fun p hp hl => h.at hl (hL p hp hl)
/-- blocks of a function's own. -/
theorem Step.priv0 (h : Ext no w w') (ok : Tags w o) : ∃ o', Step no w o w' o' := ⟨_, Step.of_no h ok⟩
theorem Step.priv1 (h : Ext no w w') (hp : Priv w w' [p]) (ok : Tags w o) : ∃ o', Step no w o w' o' ∧ o' p = some p :=
  ⟨_, (Step.of_no h ok).tag hp.one.1 hp.one.2, tag_self⟩
theorem Step.priv2 (h : Ext no w w') (hp : Priv w w' [p, q]) (ok : Tags w o) : ∃ o', Step no w o w' o' ∧ o' p = some p ∧ o' q = some q := by
  obtain ⟨h1, h2⟩ := hp.two
  refine ⟨_, ((Step.of_no h ok).tag h1.1 h1.2).tag h2.1 h2.2, ?_, tag_self⟩
  by_cases e : p = q
  · subst e; exact tag_self
  · rw [tag_ne e]; exact tag_self
theorem Step.priv3 {r : Nat} (h : Ext no w w') (hp : Priv w w' [p, q, r]) (ok : Tags w o) : ∃ o', Step no w o w' o' ∧ o' p = some p ∧ o' q = some q ∧ o' r = some r := by
  obtain ⟨h1, h2, h3⟩ := hp.three
  refine ⟨_, (((Step.of_no h ok).tag h1.1 h1.2).tag h2.1 h2.2).tag h3.1 h3.2, ?_, ?_, tag_self⟩
  · by_cases e : p = r
    · subst e; exact tag_self
    · rw [tag_ne e]
      by_cases e : p = q
      · subst e; exact tag_self
      · rw [tag_ne e]; exact tag_self
  · by_cases e : q = r
    · subst e; exact tag_self
    · rw [tag_ne e]; exact tag_self
theorem Step.store1 (h : Ext (fun b => b = p) w w') (ok : Tags w o) (hp : o p = some p) : ∃ o', Step (fun j => j = p) w o w' o' := ⟨_, Step.of_ext h ok fun b hb _ => by subst hb; exact hp⟩
theorem Step.store2 (h : Ext (fun b => b = p ∨ b = q) w w') (ok : Tags w o) (hp : o p = some p) (hq : o q = some q) : ∃ o', Step (fun j => j = p ∨ j = q) w o w' o' :=
  ⟨_, Step.of_exts h ok fun b hb _ => by rcases hb with rfl | rfl; exact ⟨_, hp, .inl rfl⟩; exact ⟨_, hq, .inr rfl⟩⟩
theorem Step.keep1 (h : Step K w o w' o') (hp : o p = some j) (hj : ¬ K j) : Keep [p] w w' := h.keep fun r hr _ k hk => by
  simp at hr; subst hr; rw [hp] at hk; cases hk; exact hj
theorem Step.keep2 {i : Nat} (h : Step K w o w' o') (hp : o p = some j) (hj : ¬ K j) (hq : o q = some i) (hi : ¬ K i) : Keep [p, q] w w' := h.keep fun r hr _ k hk => by
  simp at hr
  rcases hr with rfl | rfl
  · rw [hp] at hk; cases hk; exact hj
  · rw [hq] at hk; cases hk; exact hi
/-- blocks of a function's own that nobody turns. -/
def Free (L : List Nat) (w : World) (o : Own) : Prop := ∀ p ∈ L, p < w.heap.size ∧ o p = none
theorem Free.step {L : List Nat} (h : Free L w o) (s : Step K w o w' o') : Free L w' o' := fun p hp => ⟨Nat.lt_of_lt_of_le (h p hp).1 s.size, by rw [s.own (h p hp).1]; exact (h p hp).2⟩
theorem Free.of {L : List Nat} (h : Priv w w' L) : Free L w' (grow w o) := fun p hp => ⟨(h p hp).2, grow_ge (h p hp).1⟩
theorem Free.app {L M : List Nat} (h : Free L w o) (k : Free M w o) : Free (L ++ M) w o := fun p hp => (List.mem_append.1 hp).elim (h p) (k p)
theorem Free.sub {L M : List Nat} (h : Free L w o) (k : ∀ p ∈ M, p ∈ L) : Free M w o := fun p hp => h p (k p hp)
theorem Free.keep {L : List Nat} (h : Free L w o) (s : Step K w o w' o') : Keep L w w' := s.keep fun p hp _ k hk => by rw [(h p hp).2] at hk; cases hk
/-- a row that stays as it is. -/
def Row (w : World) (o : Own) (a : Option Addr) (cs : List Value) : Prop := RowAt w a cs ∧ (cs ≠ [] → ∀ ad, a = some ad → o ad.block = none)
theorem Row.nil (w : World) (o : Own) (a : Option Addr) : Row w o a [] := ⟨RowAt.nil _ _, fun h => absurd rfl h⟩
theorem Row.step {a : Option Addr} {cs : List Value} (h : Row w o a cs) (k : Step K w o w' o') : Row w' o' a cs :=
  ⟨h.1.ext' k.ext fun h0 ad ha ⟨j, h1, _⟩ => (by rw [h.2 h0 ad ha] at h1; cases h1), fun h0 ad ha => by rw [k.same _ (h.1.lt h0 ha)]; exact h.2 h0 ad ha⟩
/-- .. that is new. -/
theorem Row.fresh {a : Option Addr} {cs : List Value} (h : RowAt w' a cs) (hf : ∀ ad, a = some ad → w.heap.size ≤ ad.block) : Row w' (grow w o) a cs := ⟨h, fun _ ad ha => grow_ge (hf ad ha)⟩
theorem Row.fresh' {a : Option Addr} {cs : List Value} (h : RowAt w' a cs) (hf : cs ≠ [] → ∀ ad, a = some ad → w.heap.size ≤ ad.block) : Row w' (grow w o) a cs := ⟨h, fun h0 ad ha => grow_ge (hf h0 ad ha)⟩
theorem Row.tag {a : Option Addr} {cs : List Value} (h : Row w o a cs) (hp : cs ≠ [] → ∀ ad, a = some ad → ad.block ≠ p) : Row w (tag o p j) a cs := ⟨h.1, fun h0 ad ha => by rw [tag_ne (hp h0 ad ha)]; exact h.2 h0 ad ha⟩
theorem Row.take {a : Option Addr} {cs : List Value} (h : Row w o a cs) (k : Nat) : Row w o a (cs.take k) := ⟨h.1.take k, fun h0 => h.2 fun e => h0 (by rw [e]; simp)⟩
end
/-! ### rows that grow, of an owner -/
section
variable {K K1 : Nat → Prop} {w w1 w' : World} {o o1 o' : Own} {p q j k : Nat}
/-- cells in a row of an owner's. -/
structure Grows (e size : Nat) (w : World) (o : Own) (k : Nat) (a : Option Addr) (n c : Nat) (cs : List Value) : Prop where
  own : w.ownsRow 0 e size (.slice a n c) n cs
  tg : ∀ ad, a = some ad → o ad.block = some k ∧ ad.block < w.heap.size
theorem Grows.row {e size : Nat} {a : Option Addr} {n c : Nat} {cs : List Value} (h : Grows e size w o k a n c cs) : RowAt w a cs := by
  obtain ⟨_, _, hv, hr⟩ := RowAt.of_owns h.own
  cases hv; exact hr
theorem owns_ext' {m : Nat → Prop} {e size n : Nat} {v : Value} {xs : List Value} (h : w.ownsRow 0 e size v n xs) (x : Ext m w w') (hn : ∀ b, v.ownBlock = some b → ¬ m b) : w'.ownsRow 0 e size v n xs := by
  refine ⟨h.1, ?_⟩
  rcases h.2 with h2 | ⟨g, cap, cur, hv, hb, hg, hr⟩
  · exact .inl h2
  · exact .inr ⟨g, cap, cur, hv, hb, x.get hg (hn g (by rw [hv]; rfl)), hr⟩
theorem Grows.step {e size : Nat} {a : Option Addr} {n c : Nat} {cs : List Value} (h : Grows e size w o k a n c cs) (s : Step K w o w' o') (hk : ¬ K k) : Grows e size w' o' k a n c cs := by
  refine ⟨owns_ext' h.own s.ext fun b hb ⟨i, h1, h2⟩ => ?_, fun ad ha => ?_⟩
  · cases a with
    | none => simp [Value.ownBlock] at hb
    | some ad =>
      simp only [Value.ownBlock, Option.some.injEq] at hb
      subst hb
      rw [(h.tg ad rfl).1] at h1; cases h1; exact hk h2
  · have := h.tg ad ha
    exact ⟨by rw [s.own this.2]; exact this.1, Nat.lt_of_lt_of_le this.2 s.size⟩
/-- a step that leaves the row's block as it is. -/
theorem Grows.keep {e size : Nat} {a : Option Addr} {n c : Nat} {cs : List Value} (h : Grows e size w o k a n c cs) {m : Nat → Prop} (x : Ext m w w') (hm : ∀ ad, a = some ad → ¬ m ad.block) (ho : ∀ b, b < w.heap.size → o' b = o b) : Grows e size w' o' k a n c cs := by
  refine ⟨owns_ext' h.own x fun b hb => ?_, fun ad ha => ?_⟩
  · cases a with
    | none => simp [Value.ownBlock] at hb
    | some ad => simp only [Value.ownBlock, Option.some.injEq] at hb; subst hb; exact hm ad rfl
  · have := h.tg ad ha
    exact ⟨by rw [ho _ this.2]; exact this.1, Nat.lt_of_lt_of_le this.2 x.size⟩
theorem Grows.nil (e size : Nat) (w : World) (o : Own) (k : Nat) : Grows e size w o k none 0 0 [] := ⟨⟨by simp, .inl ⟨rfl, rfl⟩⟩, fun ad ha => by cases ha⟩
theorem Grows.push {P : Program} {t ty e : TypeId} {i : TypeInfo} {z : Value} {size bytes : Nat} (ht : P.underlying t = some (.slice e)) (hi : P.info? e = some i) (hz : i.zero = some z)
    (hsize : i.size = size) (hby : i.bytes = bytes) (hzs : z.cells.size = size) (hsz : 0 < size) {a : Option Addr} {n c : Nat} {cs : List Value} (h : Grows e size w o k a n c cs) (ok : Tags w o) (hk : k < w.heap.size)
    {xa : Option Addr} {m xc : Nat} {news : List Value} (hl : news.length = m * size) (hnews : RowAt w xa news) (h1 : ∀ u ∈ news, u.oneCell' = true) (hb : (n + m) * bytes ≤ 140737488355328) (h63 : n + m ≤ 9223372036854775807) :
    ∃ a' c' w' o', (Builtin.append_ #[t, t] ty #[.slice a n c, .slice xa m xc]).run P w = .ok (.slice a' (n + m) c') w' ∧ Step (fun j => j = k) w o w' o' ∧ Grows e size w' o' k a' (n + m) c' (cs ++ news) ∧
      (∀ b, b < w.heap.size → (∀ ad, a = some ad → b ≠ ad.block) → w'.heap[b]? = w.heap[b]?) ∧ (∀ ad, a' = some ad → (∃ b, a = some b ∧ ad.block = b.block) ∨ ad.block = w.heap.size) := by
  obtain ⟨a', c', w', hr, ho, hg, hbk⟩ := run_append (ty := ty) ht hi hz hsize hby hzs hsz h.own (xa := xa) (m := m) (c := xc) hl hnews h1 hb h63
  have hrow : ∀ q, (Value.slice a n c).ownBlock = some q → o q = some k ∧ q < w.heap.size ∧ ∃ ad, a = some ad ∧ q = ad.block := fun q hq => by
    cases a with
    | none => simp [Value.ownBlock] at hq
    | some ad => simp only [Value.ownBlock, Option.some.injEq] at hq; subst hq; exact ⟨(h.tg ad rfl).1, (h.tg ad rfl).2, ad, rfl, rfl⟩
  have X : Ext (fun b => (Value.slice a n c).ownBlock = some b) w w' := Ext.of_grown hg fun q hq => .inl hq
  have s : Step (fun j => j = k) w o w' (grow w o) := Step.of_ext X ok fun b hb _ => (hrow b hb).1
  refine ⟨a', c', w', tag (grow w o) w.heap.size k, hr, s.tag (Nat.le_refl _) (Nat.lt_of_lt_of_le hk s.size), ⟨ho, fun ad ha => ?_⟩, fun b hb hne => X.block b hb fun hq => ?_, fun ad ha => ?_⟩
  · have hlt := (own_fresh ho).2 ad ha
    subst ha
    refine ⟨?_, hlt⟩
    rcases hbk with hq | hq
    · obtain ⟨q1, q2, _⟩ := hrow _ hq.symm
      rw [tag_ne (by omega), grow_lt q2]; exact q1
    · simp only [Value.ownBlock, Option.some.injEq] at hq
      rw [hq]; exact tag_self
  · obtain ⟨_, _, ad, ha, rfl⟩ := hrow b hq
    exact hne ad ha rfl
  · subst ha
    rcases hbk with hq | hq
    · obtain ⟨_, _, b, hb1, hb2⟩ := hrow _ hq.symm
      exact .inl ⟨b, hb1, hb2⟩
    · simp only [Value.ownBlock, Option.some.injEq] at hq; exact .inr hq
end
end Go.Mx
