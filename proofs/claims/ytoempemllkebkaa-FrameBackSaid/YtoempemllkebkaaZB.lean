/- Who may turn which block: each block is nobody's (it stays as it is), or has an owner, told by a number; what a step of some owners leaves. -/
import Derived.Test.YtoempemllkebkaaZA
import Derived.Test.YtoempemllkebkaaProg
import Derived.KernelRfl
import Derived.Laws.StructEq
set_option linter.unusedSimpArgs false
set_option linter.unusedVariables false
set_option linter.unusedSectionVars false
namespace Go.Mx
abbrev Own := Nat → Option Nat
def Tags (w : World) (o : Own) : Prop := ∀ b j, b < w.heap.size → o b = some j → j < w.heap.size
structure Step (K : Nat → Prop) (w : World) (o : Own) (w' : World) (o' : Own) : Prop where
  ext : Ext (fun b => ∃ k, o b = some k ∧ K k) w w'
  same : ∀ b, b < w.heap.size → o' b = o b
  ok0 : Tags w o
  ok : Tags w' o'
def grow (w : World) (o : Own) : Own := fun b => if b < w.heap.size then o b else none
def tag (o : Own) (p j : Nat) : Own := fun b => if b = p then some j else o b
section
variable {K K1 : Nat → Prop} {w w1 w' : World} {o o1 o' : Own} {p q j : Nat}
theorem Step.refl (K : Nat → Prop) (h : Tags w o) : Step K w o w o := ⟨Ext.refl _ _, fun _ _ => rfl, h, h⟩
theorem Step.size (h : Step K w o w' o') : w.heap.size ≤ w'.heap.size := h.ext.size
theorem Step.mono (h : Step K w o w' o') (hk : ∀ j, K j → j < w.heap.size → K1 j) : Step K1 w o w' o' :=
  ⟨h.ext.mono fun b ⟨k, h1, h2⟩ hb => ⟨k, h1, hk k h2 (h.ok0 b k hb h1)⟩, h.same, h.ok0, h.ok⟩
theorem Step.trans' (h : Step K w o w1 o1) (k : Step K1 w1 o1 w' o') (hk : ∀ j, K1 j → K j ∨ w.heap.size ≤ j) : Step K w o w' o' := by
  refine ⟨h.ext.then k.ext fun b ⟨j, h1, h2⟩ => ?_, fun b hb => (k.same b (Nat.lt_of_lt_of_le hb h.size)).trans (h.same b hb), h.ok0, k.ok⟩
  by_cases hb : b < w.heap.size
  · rw [h.same b hb] at h1
    rcases hk j h2 with h3 | h3
    · exact .inl ⟨j, h1, h3⟩
    · have := h.ok0 b j hb h1; omega
  · exact .inr (by omega)
theorem Step.trans (h : Step K w o w1 o1) (k : Step K w1 o1 w' o') : Step K w o w' o' := h.trans' k fun _ h => .inl h
theorem Step.none (h : Step no w o w' o') : Step K w o w' o' := h.mono fun _ h _ => h.elim
theorem grow_lt {b : Nat} (h : b < w.heap.size) : grow w o b = o b := if_pos h
theorem grow_ge {b : Nat} (h : w.heap.size ≤ b) : grow w o b = none := if_neg (by omega)
theorem Tags.grow (h : Tags w o) (hs : w.heap.size ≤ w'.heap.size) : Tags w' (grow w o) := fun b j hb hj => by
  by_cases hl : b < w.heap.size
  · rw [grow_lt hl] at hj; exact Nat.lt_of_lt_of_le (h b j hl hj) hs
  · rw [grow_ge (by omega)] at hj; cases hj
theorem Q0W : tag o p j p = some j := if_pos rfl
theorem tag_ne {b : Nat} (h : b ≠ p) : tag o p j b = o b := if_neg h
theorem Tags.tag (h : Tags w o) (hj : j < w.heap.size) : Tags w (tag o p j) := fun b i hb hi => by
  by_cases hp : b = p
  · subst hp; rw [Q0W] at hi; cases hi; exact hj
  · rw [tag_ne hp] at hi; exact h b i hb hi
theorem Step.of_no (h : Ext no w w') (ok : Tags w o) : Step no w o w' (grow w o) := ⟨h.mono fun _ h _ => h.elim, fun _ hb => grow_lt hb, ok, ok.grow h.size⟩
theorem Step.tag (h : Step K w o w' o') (hp : w.heap.size ≤ p) (hj : j < w'.heap.size) : Step K w o w' (tag o' p j) :=
  ⟨h.ext, fun b hb => by rw [tag_ne (by omega)]; exact h.same b hb, h.ok0, h.ok.tag hj⟩
theorem Step.of_ext {m : Nat → Prop} (h : Ext m w w') (ok : Tags w o) (hm : ∀ b, m b → b < w.heap.size → o b = some p) : Step (fun j => j = p) w o w' (grow w o) :=
  ⟨h.mono fun b hb hl => ⟨p, hm b hb hl, rfl⟩, fun _ hb => grow_lt hb, ok, ok.grow h.size⟩
theorem Step.at (h : Step K w o w' o') {b : Nat} (hb : b < w.heap.size) (hk : ∀ k, o b = some k → ¬ K k) : w'.heap[b]? = w.heap[b]? :=
  h.ext.block b hb fun ⟨k, h1, h2⟩ => hk k h1 h2
theorem Step.blk (h : Step K w o w' o') {t : TypeId} {cs : List Value} (hb : Blk w p t cs) (hp : o p = some j) (hj : ¬ K j) : Blk w' p t cs := by
  have := h.at hb.lt fun k hk => by rw [hp] at hk; cases hk; exact hj
  unfold Blk at hb ⊢
  rw [this]; exact hb
theorem Step.own (h : Step K w o w' o') (hp : p < w.heap.size) : o' p = o p := h.same p hp
def Row (w : World) (o : Own) (a : Option Addr) (cs : List Value) : Prop := RowAt w a cs ∧ (cs ≠ [] → ∀ ad, a = some ad → o ad.block = none)
theorem Row.nil (w : World) (o : Own) (a : Option Addr) : Row w o a [] := ⟨RowAt.nil _ _, fun h => absurd rfl h⟩
theorem Row.step {a : Option Addr} {cs : List Value} (h : Row w o a cs) (k : Step K w o w' o') : Row w' o' a cs :=
  ⟨h.1.ext' k.ext fun h0 ad ha ⟨j, h1, _⟩ => (by rw [h.2 h0 ad ha] at h1; cases h1), fun h0 ad ha => by rw [k.same _ (h.1.lt h0 ha)]; exact h.2 h0 ad ha⟩
theorem Row.fresh {a : Option Addr} {cs : List Value} (h : RowAt w' a cs) (hf : ∀ ad, a = some ad → w.heap.size ≤ ad.block) : Row w' (grow w o) a cs := ⟨h, fun _ ad ha => grow_ge (hf ad ha)⟩
end
/-! ### rows that grow, of an owner -/
section
variable {K K1 : Nat → Prop} {w w1 w' : World} {o o1 o' : Own} {p q j k : Nat}
structure Grows (e size : Nat) (w : World) (o : Own) (k : Nat) (a : Option Addr) (n c : Nat) (cs : List Value) : Prop where
  own : w.ownsRow 0 e size (.slice a n c) n cs
  tg : ∀ ad, a = some ad → o ad.block = some k ∧ ad.block < w.heap.size
theorem Grows.row {e size : Nat} {a : Option Addr} {n c : Nat} {cs : List Value} (h : Grows e size w o k a n c cs) : RowAt w a cs := by
  obtain ⟨_, _, hv, hr⟩ := RowAt.of_owns h.own
  cases hv; exact hr
theorem owns_ext' {m : Nat → Prop} {e size n : Nat} {v : Value} {xs : List Value} (h : w.ownsRow 0 e size v n xs) (x : Ext m w w') (hn : ∀ b, v.ownBlock = some b → ¬ m b) : w'.ownsRow 0 e size v n xs := by
  refine ⟨h.1, ?_⟩
  rcases h.2 with h2 | ⟨g, cap, cur, hv, hb, hg, hr⟩
  · exact .inl h2
  · exact .inr ⟨g, cap, cur, hv, hb, x.get hg (hn g (by rw [hv]; rfl)), hr⟩
theorem Grows.step {e size : Nat} {a : Option Addr} {n c : Nat} {cs : List Value} (h : Grows e size w o k a n c cs) (s : Step K w o w' o') (hk : ¬ K k) : Grows e size w' o' k a n c cs := by
  refine ⟨owns_ext' h.own s.ext fun b hb ⟨i, h1, h2⟩ => ?_, fun ad ha => ?_⟩
  · cases a with
    | none => simp [Value.ownBlock] at hb
    | some ad =>
      simp only [Value.ownBlock, Option.some.injEq] at hb
      subst hb
      rw [(h.tg ad rfl).1] at h1; cases h1; exact hk h2
  · have := h.tg ad ha
    exact ⟨by rw [s.own this.2]; exact this.1, Nat.lt_of_lt_of_le this.2 s.size⟩
theorem Grows.keep {e size : Nat} {a : Option Addr} {n c : Nat} {cs : List Value} (h : Grows e size w o k a n c cs) {m : Nat → Prop} (x : Ext m w w') (hm : ∀ ad, a = some ad → ¬ m ad.block) (ho : ∀ b, b < w.heap.size → o' b = o b) : Grows e size w' o' k a n c cs := by
  refine ⟨owns_ext' h.own x fun b hb => ?_, fun ad ha => ?_⟩
  · cases a with
    | none => simp [Value.ownBlock] at hb
    | some ad => simp only [Value.ownBlock, Option.some.injEq] at hb; subst hb; exact hm ad rfl
  · have := h.tg ad ha
    exact ⟨by rw [ho _ this.2]; exact this.1, Nat.lt_of_lt_of_le this.2 x.size⟩
theorem Grows.nil (e size : Nat) (w : World) (o : Own) (k : Nat) : Grows e size w o k none 0 0 [] := ⟨⟨by simp, .inl ⟨rfl, rfl⟩⟩, fun ad ha => by cases ha⟩
theorem Grows.push {P : Program} {t ty e : TypeId} {i : TypeInfo} {z : Value} {size bytes : Nat} (ht : P.underlying t = some (.slice e)) (hi : P.info? e = some i) (hz : i.zero = some z)
    (hsize : i.size = size) (hby : i.bytes = bytes) (hzs : z.cells.size = size) (hsz : 0 < size) {a : Option Addr} {n c : Nat} {cs : List Value} (h : Grows e size w o k a n c cs) (ok : Tags w o) (hk : k < w.heap.size)
    {xa : Option Addr} {m xc : Nat} {news : List Value} (hl : news.length = m * size) (hnews : RowAt w xa news) (h1 : ∀ u ∈ news, u.oneCell' = true) (hb : (n + m) * bytes ≤ 140737488355328) (h63 : n + m ≤ 9223372036854775807) :
    ∃ a' c' w' o', (Builtin.append_ #[t, t] ty #[.slice a n c, .slice xa m xc]).run P w = .ok (.slice a' (n + m) c') w' ∧ Step (fun j => j = k) w o w' o' ∧ Grows e size w' o' k a' (n + m) c' (cs ++ news) ∧
      (∀ b, b < w.heap.size → (∀ ad, a = some ad → b ≠ ad.block) → w'.heap[b]? = w.heap[b]?) ∧ (∀ ad, a' = some ad → (∃ b, a = some b ∧ ad.block = b.block) ∨ ad.block = w.heap.size) := by
  obtain ⟨a', c', w', hr, ho, hg, hbk⟩ := Q1h (ty := ty) ht hi hz hsize hby hzs hsz h.own (xa := xa) (m := m) (c := xc) hl hnews h1 hb h63
  have hrow : ∀ q, (Value.slice a n c).ownBlock = some q → o q = some k ∧ q < w.heap.size ∧ ∃ ad, a = some ad ∧ q = ad.block := fun q hq => by
    cases a with
    | none => simp [Value.ownBlock] at hq
    | some ad => simp only [Value.ownBlock, Option.some.injEq] at hq; subst hq; exact ⟨(h.tg ad rfl).1, (h.tg ad rfl).2, ad, rfl, rfl⟩
  have X : Ext (fun b => (Value.slice a n c).ownBlock = some b) w w' := Ext.of_grown hg fun q hq => .inl hq
  have s : Step (fun j => j = k) w o w' (grow w o) := Step.of_ext X ok fun b hb _ => (hrow b hb).1
  refine ⟨a', c', w', tag (grow w o) w.heap.size k, hr, s.tag (Nat.le_refl _) (Nat.lt_of_lt_of_le hk s.size), ⟨ho, fun ad ha => ?_⟩, fun b hb hne => X.block b hb fun hq => ?_, fun ad ha => ?_⟩
  · have hlt := (Q12 ho).2 ad ha
    subst ha
    refine ⟨?_, hlt⟩
    rcases hbk with hq | hq
    · obtain ⟨q1, q2, _⟩ := hrow _ hq.symm
      rw [tag_ne (by omega), grow_lt q2]; exact q1
    · simp only [Value.ownBlock, Option.some.injEq] at hq
      rw [hq]; exact Q0W
  · obtain ⟨_, _, ad, ha, rfl⟩ := hrow b hq
    exact hne ad ha rfl
  · subst ha
    rcases hbk with hq | hq
    · obtain ⟨_, _, b, hb1, hb2⟩ := hrow _ hq.symm
      exact .inl ⟨b, hb1, hb2⟩
    · simp only [Value.ownBlock, Option.some.injEq] at hq; exact .inr hq
end
end Go.Mx
set_option maxRecDepth 20000
namespace Go.Proofs.Ytoempemllkebkaa
open Go Go.Mx Go.Proofs
theorem follows : Try.prog.follows .mixedOrders = true := by kernel_rfl
end Go.Proofs.Ytoempemllkebkaa
namespace Go.Proofs.Ytoempemllkebkaa
open Go Go.Mx Go.Proofs
theorem W.eqf_step {P : Program} {w : World} {d : Nat} {xs ys : Array Value} {f : Field} {fs : List Field} {a b : Value} {r : Bool} (n : f.name ≠ "_") (qa : (part f.type xs f.offset).run P w = .ok a w) (qb : (part f.type ys f.offset).run P w = .ok b w) (he : (Op.equalIn d f.type a b).run P w = .ok r w) :
    (Op.eqFields d xs ys (f :: fs)).run P w = if r then (Op.eqFields d xs ys fs).run P w else .ok false w := by
  simp only [Op.eqFields, n, ne_eq, not_false_eq_true, if_true, Sem.run_bind, qa, qb, he, Result.andThen_ok]
  cases r <;> simp
theorem eqT24 (x0 x1 y0 y1 : Int) (w : World) : (Op.equalIn 10000 24 (.agg #[.int .i64 x0, .int .i64 x1]) (.agg #[.int .i64 y0, .int .i64 y1])).run Try.prog w = .ok (decide (x0 = y0 ∧ x1 = y1)) w := by
  obtain ⟨f0, f1, ht, n0, o0, p0, u0, n1, o1, p1, u1, hp⟩ : ∃ f0 f1, Try.prog.underlying 24 = some (.struct #[f0, f1]) ∧ f0.name ≠ "_" ∧ f0.offset = 0 ∧ Try.prog.plainKey f0.type = true ∧ Try.prog.underlying f0.type = some (.int .i64) ∧ f1.name ≠ "_" ∧ f1.offset = 1 ∧ Try.prog.plainKey f1.type = true ∧ Try.prog.underlying f1.type = some (.int .i64) ∧ Try.prog.stoodInHeld 24 = false :=
    ⟨_, _, Try.underlying24, by decide, rfl, by kernel_rfl, by kernel_rfl, by decide, rfl, by kernel_rfl, by kernel_rfl, by kernel_rfl⟩
  have hf : Try.prog.fieldsOf 24 = #[f0, f1] := by simp [Program.fieldsOf, ht]
  rw [show (10000 : Nat) = 9998 + 1 + 1 from rfl, run_equalIn_struct w (9998 + 1) _ _ _ (by rw [hf]; exact ht) hp, hf]
  show (Op.eqFields (9998 + 1) _ _ [f0, f1]).run Try.prog w = _
  rw [W.eqf_step n0 (run_part_plain w p0 (by rw [o0]; rfl)) (run_part_plain w p0 (by rw [o0]; rfl)) (run_equalIn_int w _ _ _ _ _ _ u0), W.eqf_step n1 (run_part_plain w p1 (by rw [o1]; rfl)) (run_part_plain w p1 (by rw [o1]; rfl)) (run_equalIn_int w _ _ _ _ _ _ u1)]
  by_cases e0 : x0 = y0 <;> by_cases e1 : x1 = y1 <;> simp [e0, e1, Op.eqFields]
theorem Q3s (x0 x1 y0 y1 : Int) (w : World) : (binOp .eql 24 (.agg #[.int .i64 x0, .int .i64 x1]) (.agg #[.int .i64 y0, .int .i64 y1])).run Try.prog w = .ok (.bool (decide (x0 = y0 ∧ x1 = y1))) w := by rw [run_eql_struct, eqT24]; rfl
end Go.Proofs.Ytoempemllkebkaa
namespace Go.Proofs.Ytoempemllkebkaa
open Go Go.Mx Go.Proofs
open W (OwnB Rd RdR GivesW numR countR doneR zig unzig intR)
abbrev Q0b.J1 (ac : Option Addr) (a3 : Int) (R : RW) (aa : World) : Prop :=
 ac.elim False fun ag =>
 ∃ (a7 : Option Addr) (ae a4 : Nat), aa.cell? (ag.add 0) = some (.slice a7 ae a4) ∧
 (0 : Int) ≤ (a3 : Int) ∧ (a3 : Int) ≤ (a4 : Int) ∧
 Calls Try.prog 57 #[.slice (if a4 = 0 then a7 else Option.map (fun z : Addr => z.add (0 * 1)) a7) ((Int.toNat a3) - 0) (a4 - 0)] aa fun ab a8 => ∃ (a0 : Option Addr) (a2 a1 : Nat), ab = .returned (.slice a0 a2 a1) ∧
 ac.elim False fun ah =>
 ∃ (a9 : Option Addr) (a6 a5 : Nat), a8.cell? (ah.add 0) = some (.slice a9 a6 a5) ∧
 (0 : Int) ≤ (a3 : Int) ∧ (a3 : Int) ≤ (a6 : Int) ∧
 ac.elim False fun af =>
 Q02 a8 ((af.add 0).add 0) ∧
 thenW (a8.setCell ((af.add 0).add 0) (.slice (if a5 = Int.toNat a3 then a9 else Option.map (fun z : Addr => z.add ((Int.toNat a3) * 1)) a9) (a6 - (Int.toNat a3)) (a5 - (Int.toNat a3)))) fun ad =>
 R (.slice a0 a2 a1) ad

abbrev Q0b.J2 (a3 : Option Addr) (a7 : Int) (R : RW) (a0 : World) : Prop :=
 a3.elim False fun a8 =>
 ∃ (a4 : Option Addr) (a1 a5 : Nat), a0.cell? (a8.add 0) = some (.slice a4 a1 a5) ∧
 bif decide (a7 > (a1 : Int)) then (
 Calls Try.prog 74 #[.pointer a3, .int .i64 4] a0 fun a6 a2 => a6 = .returned (.tuple #[]) ∧
 R (.slice none 0 0) a2) else (
 Q0b.J1 a3 a7 R a0)

def Q0b.M (r1 : Option Addr) (n2 : Int) (R : RW) (w : World) : Prop :=
 Calls Try.prog 72 #[.pointer r1] w fun a2 a0 => ∃ (a1 : Bool), a2 = .returned (.bool a1) ∧
 bif !a1 then (
 R (.slice none 0 0) a0) else (
 Q0b.J2 r1 n2 R a0)

theorem Q0b.ok (r1 : Option Addr) (n2 : Int) {R : RW} {w : World} (h : Q0b.M r1 n2 R w) : Calls Try.prog 75 #[.pointer r1, .int .i64 n2] w fun e w' => ∃ v, e = .returned v ∧ R v w' :=
  Q07 follows (H := []) (args := [.pointer r1, .int .i64 n2]) (cast (by kernel_rfl) h)

def Q0b.N (r1 : Option Addr) (n2 : Int) (R : RW) (w : World) : Prop :=
 Calls Try.prog 72 #[.pointer r1] w fun ai a8 => ∃ (ad : Bool), ai = .returned (.bool ad) ∧
 (ad = false →
 R (.slice none 0 0) a8) ∧
 (ad = true →
 ∃ a7 : Addr, r1 = some a7 ∧
 ∃ (aj : Option Addr) (ac ak : Nat), a8.cell? (a7.add 0) = some (.slice aj ac ak) ∧
 (n2 > (ac : Int) →
 Calls Try.prog 74 #[.pointer r1, .int .i64 4] a8 fun ah ab => ah = .returned (.tuple #[]) ∧
 R (.slice none 0 0) ab) ∧
 (n2 ≤ (ac : Int) →
 ∃ (aa : Option Addr) (ag a6 : Nat), a8.cell? (a7.add 0) = some (.slice aa ag a6) ∧
 (0 : Int) ≤ (n2 : Int) ∧ (n2 : Int) ≤ (a6 : Int) ∧ 
 Calls Try.prog 57 #[.slice aa (Int.toNat n2) a6] a8 fun ae a3 => ∃ (a1 : Option Addr) (a2 a0 : Nat), ae = .returned (.slice a1 a2 a0) ∧
 ∃ (a9 : Option Addr) (a5 a4 : Nat), a3.cell? (a7.add 0) = some (.slice a9 a5 a4) ∧
 (0 : Int) ≤ (n2 : Int) ∧ (n2 : Int) ≤ (a5 : Int) ∧ 
 Q02 a3 ((a7.add 0).add 0) ∧
 thenW (a3.setCell ((a7.add 0).add 0) (.slice (cutA a9 a4 (Int.toNat n2) 1) (a5 - (Int.toNat n2)) (a4 - (Int.toNat n2)))) fun af =>
 R (.slice a1 a2 a0) af))

theorem Q0b.up (r1 : Option Addr) (n2 : Int) {R : RW} {w : World} (h : Q0b.N r1 n2 R w) : Q0b.M r1 n2 R w := by
  unfold Q0b.M
  unfold Q0b.N at h
  refine h.mono fun ar au h => ?_
  obtain ⟨aj, he, h⟩ := h
  refine ⟨aj, he, ?_⟩
  refine bif_of (fun c6 => ?_) (fun c6 => ?_)
  ·have h := h.1 (not_t c6)
   exact h
  have h := h.2 (not_f c6)
  unfold Q0b.J2
  obtain ⟨a7, a3, h⟩ := h
  refine Q0z a3 ?_
  obtain ⟨ak, ai, ao, an, h⟩ := h
  refine ⟨ak, ai, ao, an, ?_⟩
  refine bif_of (fun ab => ?_) (fun ab => ?_)
  ·have h := h.1 (of_decide_eq_true ab)
   refine h.mono fun aq ah h => ?_
   obtain ⟨he, h⟩ := h
   refine ⟨he, ?_⟩
   exact h
  have h := h.2 (Int.not_lt.1 (of_decide_eq_false ab))
  unfold Q0b.J1
  refine Q0z a3 ?_
  obtain ⟨aa, ad, af, a5, h⟩ := h
  refine ⟨aa, ad, af, a5, ?_⟩
  obtain ⟨a6, a4, h⟩ := h
  refine ⟨a6, a4, ?_⟩
  try rw [Q3A]
  refine h.mono fun al ag h => ?_
  obtain ⟨a1, a2, a0, he, h⟩ := h
  refine ⟨a1, a2, a0, he, ?_⟩
  refine Q0z a3 ?_
  obtain ⟨a9, ae, ac, a8, h⟩ := h
  refine ⟨a9, ae, ac, a8, ?_⟩
  obtain ⟨a6, a4, h⟩ := h
  refine ⟨a6, a4, ?_⟩
  refine Q0z a3 ?_
  obtain ⟨hcs, h⟩ := h
  refine ⟨hcs, Q01 fun am ap => ?_⟩
  replace h := Q11 h ap
  exact h

theorem Q0b.go (r1 : Option Addr) (n2 : Int) {R : RW} {w : World} (h : Q0b.N r1 n2 R w) : Calls Try.prog 75 #[.pointer r1, .int .i64 n2] w fun e w' => ∃ v, e = .returned v ∧ R v w' := Q0b.ok r1 n2 (Q0b.up r1 n2 h)
def Q0n.M (r1 : Option Addr) (a4 : Int) (R : RW) (w : World) : Prop :=
 Calls Try.prog 54 #[.pointer r1, .int .i64 a4] w fun a6 a8 => ∃ (a2 : Int), a6 = .returned (.int .i64 a2) ∧
 Calls Try.prog 75 #[.pointer r1, .int .i64 a2] a8 fun a5 a7 => ∃ (a3 : Option Addr) (a1 a0 : Nat), a5 = .returned (.slice a3 a1 a0) ∧
 R (.slice a3 a1 a0) a7

theorem Q0n.ok (r1 : Option Addr) (a0 : Int) {R : RW} {w : World} (h : Q0n.M r1 a0 R w) : Calls Try.prog 55 #[.pointer r1, .int .i64 a0] w fun e w' => ∃ v, e = .returned v ∧ R v w' :=
  Q07 follows (H := []) (args := [.pointer r1, .int .i64 a0]) (cast (by kernel_rfl) h)

def Q0n.N (r1 : Option Addr) (a4 : Int) (R : RW) (w : World) : Prop :=
 Calls Try.prog 54 #[.pointer r1, .int .i64 a4] w fun a6 a8 => ∃ (a2 : Int), a6 = .returned (.int .i64 a2) ∧
 Calls Try.prog 75 #[.pointer r1, .int .i64 a2] a8 fun a5 a7 => ∃ (a3 : Option Addr) (a1 a0 : Nat), a5 = .returned (.slice a3 a1 a0) ∧
 R (.slice a3 a1 a0) a7

theorem Q0n.up (r1 : Option Addr) (a0 : Int) {R : RW} {w : World} (h : Q0n.N r1 a0 R w) : Q0n.M r1 a0 R w := by
  unfold Q0n.M
  unfold Q0n.N at h
  refine h.mono fun a6 a8 h => ?_
  obtain ⟨a3, he, h⟩ := h
  refine ⟨a3, he, ?_⟩
  refine h.mono fun a5 a7 h => ?_
  obtain ⟨a4, a2, a1, he, h⟩ := h
  refine ⟨a4, a2, a1, he, ?_⟩
  exact h

theorem Q0n.go (r1 : Option Addr) (a0 : Int) {R : RW} {w : World} (h : Q0n.N r1 a0 R w) : Calls Try.prog 55 #[.pointer r1, .int .i64 a0] w fun e w' => ∃ v, e = .returned v ∧ R v w' := Q0n.ok r1 a0 (Q0n.up r1 a0 h)
abbrev RS := List UInt8 × Int
def takeR (n : Nat) (s : RS) : List UInt8 × RS := if s.2 = 0 then (if s.1.length < n then ([], ([], 4)) else (s.1.take n, (s.1.drop n, 0))) else ([], s)
def bytesR (m : Int) (s : RS) : List UInt8 × RS := takeR (countR m s).1 (countR m s).2
theorem Q4j (n : Nat) (s : RS) : (takeR n s).2.1.length ≤ s.1.length ∧ (takeR n s).1.length ≤ s.1.length := by
  unfold takeR
  split
  · split
    · simp
    · simp; omega
  · simp
theorem Q2F (m : Int) (s : RS) : (bytesR m s).2.1.length ≤ s.1.length ∧ (bytesR m s).1.length ≤ s.1.length := by
  have h1 := W.countR_len m s
  have h2 := Q4j (countR m s).1 (countR m s).2
  unfold bytesR
  omega
section
variable {w w' : World} {a : Option Addr} {c N p : Nat} {bs : List UInt8} {k : Int}
theorem Rd_drop (h : Rd w p bs k) {a : Option Addr} {c : Nat} (hb : Blk w p 100 [.slice a bs.length c, .int .i64 k]) {n : Nat} (hn : n ≤ bs.length) (hc : bs.length ≤ c) (hr : RowAt w a (bytesV bs)) (h4 : bytesV bs ≠ [] → ∀ ad, a = some ad → ad.block < p)
    (e : w' = w.setCell ((blk p).add 0) (.slice (cutA a c n 1) (bs.length - n) (c - n))) : Rd w' p (bs.drop n) k ∧ Ext (fun b => b = p) w w' := by
  have hx : Ext (fun b => b = p) w w' := (Ext.refl (fun b => b = p) w).x_set (q := p) (i := 0) rfl (.inl rfl) e
  have hb' := hb.seti 0 rfl e
  have hne : bytesV (bs.drop n) ≠ [] → bytesV bs ≠ [] := fun h0 e => h0 (by rw [bytesV, List.map_drop, show List.map u8V bs = [] from e]; simp)
  refine ⟨⟨cutA a c n 1, c - n, by rw [List.length_drop]; exact hb', by rw [List.length_drop]; omega, ?_, fun h0 ad ha => ?_⟩, hx⟩
  · have := hr.cut n c (by rw [Q0X]; exact hc)
    rw [show bytesV (bs.drop n) = (bytesV bs).drop n by simp [bytesV]]
    refine this.ext' hx fun h0 ad ha hq => ?_
    obtain ⟨b, hb, hbb⟩ := Q2u ha
    have := h4 (fun e => h0 (by rw [e]; simp)) b hb
    omega
  · obtain ⟨b, hb, hbb⟩ := Q2u ha
    have := h4 (hne h0) b hb
    omega
theorem Q42 (h : Rd w p bs k) (hl : bs.length < 1000000) (n : Nat) :
    Calls Try.prog 75 #[.pointer (some (blk p)), .int .i64 n] w (fun e w' => ∃ a c, e = .returned (.slice a (takeR n (bs, k)).1.length c) ∧ OwnB w.heap.size w' a c (takeR n (bs, k)).1 ∧ Rd w' p (takeR n (bs, k)).2.1 (takeR n (bs, k)).2.2 ∧ Ext (fun b => b = p) w w') := by
  refine (Q0b.go _ _ (R := fun v w' => ∃ a c, v = (.slice a (takeR n (bs, k)).1.length c) ∧ OwnB w.heap.size w' a c (takeR n (bs, k)).1 ∧ Rd w' p (takeR n (bs, k)).2.1 (takeR n (bs, k)).2.2 ∧ Ext (fun b => b = p) w w') ?_).mono fun e w' ⟨v, he, a, c, hv, hw⟩ => ⟨a, c, by rw [he, hv], hw⟩
  unfold Q0b.N
  refine (W.ok_spec h).mono fun e w5 ⟨he, hw⟩ => ⟨_, he, fun hk => ?_, fun hk => ?_⟩ <;> subst hw <;> simp only [beq_iff_eq, beq_eq_false_iff_ne] at hk
  · unfold takeR
    rw [if_neg hk]
    exact ⟨none, 0, rfl, OwnB.nil _ _, h, Ext.refl _ _⟩
  · subst hk
    obtain ⟨a, c, h1, h2, h3, h4⟩ := id h
    refine ⟨_, rfl, a, bs.length, c, h1.cella (i := 0) rfl, fun hn => ?_, fun hn => ?_⟩
    · unfold takeR
      rw [if_pos rfl, if_pos (by show bs.length < n; omega)]
      refine (W.fail_spec h 4).mono fun e w12 ⟨he, hr, hx⟩ => ⟨he, none, 0, rfl, OwnB.nil _ _, hr, hx⟩
    · unfold takeR
      rw [if_pos rfl, if_neg (by show ¬ bs.length < n; omega)]
      refine ⟨a, bs.length, c, h1.cella (i := 0) rfl, by omega, by omega, ?_⟩
      rw [Int.toNat_natCast]
      have ht : bytesV (bs.take n) = (bytesV bs).take n := by simp [bytesV]
      have hlt : (bs.take n).length = n := by rw [List.length_take]; omega
      have hc := W.clone_spec (c := c) (bs := bs.take n) (a := a) (w := w5) (by rw [ht]; exact h3.take n) (by omega)
      rw [hlt] at hc
      refine hc.mono fun e w18 ⟨ra, rc, he, hO, hx⟩ => ⟨ra, n, rc, he, ?_⟩
      have h' := h.no hx
      refine ⟨a, bs.length, c, (h1.ext hx id).cella (i := 0) rfl, by omega, by omega, (h1.ext hx id).cana (i := 0) rfl, Q01 fun w23 e23 => ?_⟩
      obtain ⟨q1, q2⟩ := Rd_drop h' (h1.ext hx id) (n := n) (by omega) h2 (h3.no hx) h4 e23
      refine ⟨ra, rc, by rw [hlt], hO.ext q2 fun ad ha hb => ?_, q1, hx.none.trans q2⟩
      have := (hO.fr ad ha).1
      have := h1.lt
      omega
theorem Q2h (h : Rd w p bs k) (hl : bs.length < 1000000) {m : Int} (hm : m < 4611686018427387904) :
    Calls Try.prog 55 #[.pointer (some (blk p)), .int .i64 m] w (fun e w' => ∃ a c, e = .returned (.slice a (bytesR m (bs, k)).1.length c) ∧ OwnB w.heap.size w' a c (bytesR m (bs, k)).1 ∧ Rd w' p (bytesR m (bs, k)).2.1 (bytesR m (bs, k)).2.2 ∧ Ext (fun b => b = p) w w') := by
  refine (Q0n.go _ _ (R := fun v w' => ∃ a c, v = (.slice a (bytesR m (bs, k)).1.length c) ∧ OwnB w.heap.size w' a c (bytesR m (bs, k)).1 ∧ Rd w' p (bytesR m (bs, k)).2.1 (bytesR m (bs, k)).2.2 ∧ Ext (fun b => b = p) w w') ?_).mono fun e w' ⟨v, he, a, c, hv, hw⟩ => ⟨a, c, by rw [he, hv], hw⟩
  unfold Q0n.N
  refine (W.Count_spec h hl hm).mono fun e w5 ⟨he, hr, hx⟩ => ⟨_, he, ?_⟩
  have hlen := W.countR_len m (bs, k)
  refine (Q42 hr (by simp only at hlen; omega) _).mono fun e w8 ⟨a, c, he, hO, hr2, hx2⟩ => ⟨a, _, c, he, a, c, rfl, ⟨hO.own, fun ad ha => ⟨Nat.le_trans hx.size (hO.fr ad ha).1, (hO.fr ad ha).2⟩⟩, hr2, hx.trans hx2⟩

/-! ### the reference's -/
end
end Go.Proofs.Ytoempemllkebkaa
namespace Go.Proofs.Ytoempemllkebkaa
open Go Go.Mx Go.Proofs
open W (OwnB Rd RdR GivesW numR countR doneR zig unzig intR)
def Q04.M (n1 a0 a1 : Int) (R : RW) (w : World) : Prop :=
 bif decide (n1 ≥ a0) then (
 R (.bool (decide (n1 < a1))) w) else (
 R (.bool false) w)

theorem Q04.ok (n1 a0 a1 : Int) {R : RW} {w : World} (h : Q04.M n1 a0 a1 R w) : Calls Try.prog 82 #[.int .i64 n1, .int .i64 a0, .int .i64 a1] w fun e w' => ∃ v, e = .returned v ∧ R v w' :=
  Q07 follows (H := []) (args := [.int .i64 n1, .int .i64 a0, .int .i64 a1]) (cast (by kernel_rfl) h)

def Q04.N (n1 a0 a1 : Int) (R : RW) (w : World) : Prop :=
 (n1 ≥ a0 →
 R (.bool (decide (n1 < a1))) w) ∧
 (n1 < a0 →
 R (.bool false) w)

theorem Q04.up (n1 a0 a1 : Int) {R : RW} {w : World} (h : Q04.N n1 a0 a1 R w) : Q04.M n1 a0 a1 R w := by
  unfold Q04.M
  unfold Q04.N at h
  refine bif_of (fun c4 => ?_) (fun c4 => ?_)
  ·have h := h.1 (of_decide_eq_true c4)
   exact h
  have h := h.2 (Int.not_le.1 (of_decide_eq_false c4))
  exact h

theorem Q04.go (n1 a0 a1 : Int) {R : RW} {w : World} (h : Q04.N n1 a0 a1 R w) : Calls Try.prog 82 #[.int .i64 n1, .int .i64 a0, .int .i64 a1] w fun e w' => ∃ v, e = .returned v ∧ R v w' := Q04.ok n1 a0 a1 (Q04.up n1 a0 a1 h)
theorem Q04.run (n1 a0 a1 : Int) {V : Value} {Q : World → Prop} {w : World} (h : Q04.N n1 a0 a1 (fun v w' => v = V ∧ Q w') w) : Calls Try.prog 82 #[.int .i64 n1, .int .i64 a0, .int .i64 a1] w (Ret V Q) := (Q04.go n1 a0 a1 h).mono fun e w' ⟨v, he, hv, hq⟩ => ⟨by rw [he, hv], hq⟩

def Q04.F (n1 a0 a1 : Int) : Bool :=
  if n1 ≥ a0 then
    (decide (n1 < a1))
  else
    false
theorem Q04.pure (n1 a0 a1 : Int) {w : World} : Calls Try.prog 82 #[.int .i64 n1, .int .i64 a0, .int .i64 a1] w (Ret (.bool (Q04.F n1 a0 a1)) fun w' => Ext no w w') := by
  refine Q04.run n1 a0 a1 ?_
  unfold Q04.N
  refine ⟨fun c0 => ?_, fun c0 => ?_⟩
  ·exact ⟨by unfold Q04.F; rw [if_pos c0], Ext.refl _ _⟩
  ·exact ⟨by unfold Q04.F; rw [if_neg (show ¬ (n1 ≥ a0) from by omega)], Ext.refl _ _⟩

def Q0h.M (a0 : Int) (R : RW) (w : World) : Prop :=
 bif decide (a0 ≥ 0) then (
 R (.bool (decide (a0 < 8))) w) else (
 R (.bool false) w)

theorem Q0h.ok (a0 : Int) {R : RW} {w : World} (h : Q0h.M a0 R w) : Calls Try.prog 94 #[.int .i64 a0] w fun e w' => ∃ v, e = .returned v ∧ R v w' :=
  Q07 follows (H := []) (args := [.int .i64 a0]) (cast (by kernel_rfl) h)

def Q0h.N (a0 : Int) (R : RW) (w : World) : Prop :=
 (a0 ≥ 0 →
 R (.bool (decide (a0 < 8))) w) ∧
 (a0 < 0 →
 R (.bool false) w)

theorem Q0h.up (a0 : Int) {R : RW} {w : World} (h : Q0h.N a0 R w) : Q0h.M a0 R w := by
  unfold Q0h.M
  unfold Q0h.N at h
  refine bif_of (fun c2 => ?_) (fun c2 => ?_)
  ·have h := h.1 (of_decide_eq_true c2)
   exact h
  have h := h.2 (Int.not_le.1 (of_decide_eq_false c2))
  exact h

theorem Q0h.go (a0 : Int) {R : RW} {w : World} (h : Q0h.N a0 R w) : Calls Try.prog 94 #[.int .i64 a0] w fun e w' => ∃ v, e = .returned v ∧ R v w' := Q0h.ok a0 (Q0h.up a0 h)
theorem Q0h.run (a0 : Int) {V : Value} {Q : World → Prop} {w : World} (h : Q0h.N a0 (fun v w' => v = V ∧ Q w') w) : Calls Try.prog 94 #[.int .i64 a0] w (Ret V Q) := (Q0h.go a0 h).mono fun e w' ⟨v, he, hv, hq⟩ => ⟨by rw [he, hv], hq⟩

def Q0h.F (a0 : Int) : Bool :=
  if a0 ≥ 0 then
    (decide (a0 < 8))
  else
    false
theorem Q0h.pure (a0 : Int) {w : World} : Calls Try.prog 94 #[.int .i64 a0] w (Ret (.bool (Q0h.F a0)) fun w' => Ext no w w') := by
  refine Q0h.run a0 ?_
  unfold Q0h.N
  refine ⟨fun c0 => ?_, fun c0 => ?_⟩
  ·exact ⟨by unfold Q0h.F; rw [if_pos c0], Ext.refl _ _⟩
  ·exact ⟨by unfold Q0h.F; rw [if_neg (show ¬ (a0 ≥ 0) from by omega)], Ext.refl _ _⟩

def Q0i.M (a3 a4 : Int) (R : RW) (w : World) : Prop :=
 thenW (w.alloc (.cells #[.int .i64 a3, .int .i64 a4] 24)) fun a1 =>
 ∃ (T4 : Int), a1.cell? ((blk w.heap.size).add 0) = some (.int .i64 T4) ∧
 bif decide (T4 > 0) then (
 ∃ (T5 : Int), a1.cell? ((blk w.heap.size).add 0) = some (.int .i64 T5) ∧
 bif decide (T5 ≤ 1099511627776) then (
 ∃ (W6 : Int), a1.cell? ((blk w.heap.size).add 1) = some (.int .i64 W6) ∧
 Calls Try.prog 94 #[.int .i64 W6] a1 fun a2 a5 => ∃ (a0 : Bool), a2 = .returned (.bool a0) ∧
 R (.bool a0) a5) else (
 R (.bool false) a1)) else (
 R (.bool false) a1)

theorem Q0i.ok (a1 a0 : Int) {R : RW} {w : World} (h : Q0i.M a1 a0 R w) : Calls Try.prog 83 #[.agg #[.int .i64 a1, .int .i64 a0]] w fun e w' => ∃ v, e = .returned v ∧ R v w' :=
  Q07 follows (H := []) (args := [.agg #[.int .i64 a1, .int .i64 a0]]) (cast (by kernel_rfl) h)

def Q0i.N (a1 a3 : Int) (R : RW) (w : World) : Prop :=
 (a1 > 0 →
 (a1 ≤ 1099511627776 →
 ∀ (a2 : World), Ext no w a2 →
 R (.bool (Q0h.F a3)) a2) ∧
 ((1099511627776 : Int) < a1 →
 ∀ (a0 : World), Ext no w a0 →
 R (.bool false) a0)) ∧
 (a1 ≤ 0 →
 ∀ (a0 : World), Ext no w a0 →
 R (.bool false) a0)

theorem Q0i.up (a1 a0 : Int) {R : RW} {w : World} (h : Q0i.N a1 a0 R w) : Q0i.M a1 a0 R w := by
  unfold Q0i.M
  unfold Q0i.N at h
  refine Q01 fun a4 e3 => ?_
  have a3 := Blk.of_new e3
  have a6 := ((Ext.refl no w)).size
  have a2 := (Ext.refl no w).x_alloc e3
  refine ⟨a1, a3.celli 0 rfl rfl, ?_⟩
  refine bif_fo (fun c4 => ?_) (fun c4 => ?_)
  ·have h := h.2 (Int.not_lt.1 (of_decide_eq_false c4))
   have h := h a4 a2
   exact h
  have h := h.1 (of_decide_eq_true c4)
  refine ⟨a1, a3.celli 0 rfl rfl, ?_⟩
  refine bif_fo (fun c5 => ?_) (fun c5 => ?_)
  ·have h := h.2 (Int.not_le.1 (of_decide_eq_false c5))
   have h := h a4 a2
   exact h
  have h := h.1 (of_decide_eq_true c5)
  refine ⟨a0, a3.celli 1 rfl rfl, ?_⟩
  refine (Q0h.pure a0).mono fun ee ww6 ⟨he, hxx⟩ => ⟨(Q0h.F a0), he, ?_⟩
  have a5 := a2.trans hxx
  have h := h ww6 a5
  exact h

theorem Q0i.go (a1 a0 : Int) {R : RW} {w : World} (h : Q0i.N a1 a0 R w) : Calls Try.prog 83 #[.agg #[.int .i64 a1, .int .i64 a0]] w fun e w' => ∃ v, e = .returned v ∧ R v w' := Q0i.ok a1 a0 (Q0i.up a1 a0 h)
theorem Q0i.run (a1 a0 : Int) {V : Value} {Q : World → Prop} {w : World} (h : Q0i.N a1 a0 (fun v w' => v = V ∧ Q w') w) : Calls Try.prog 83 #[.agg #[.int .i64 a1, .int .i64 a0]] w (Ret V Q) := (Q0i.go a1 a0 h).mono fun e w' ⟨v, he, hv, hq⟩ => ⟨by rw [he, hv], hq⟩

def Q0i.F (a0 a1 : Int) : Bool :=
  if a0 > 0 then
    if a0 ≤ 1099511627776 then
      (Q0h.F a1)
    else
      false
  else
    false
theorem Q0i.pure (a0 a1 : Int) {w : World} : Calls Try.prog 83 #[.agg #[.int .i64 a0, .int .i64 a1]] w (Ret (.bool (Q0i.F a0 a1)) fun w' => Ext no w w') := by
  refine Q0i.run a0 a1 ?_
  unfold Q0i.N
  refine ⟨fun c0 => ?_, fun c0 => ?_⟩
  ·refine ⟨fun c1 => ?_, fun c1 => ?_⟩
   ·intro w' hx; exact ⟨by unfold Q0i.F; rw [if_pos c0, if_pos c1], hx⟩
   ·intro w' hx; exact ⟨by unfold Q0i.F; rw [if_pos c0, if_neg (show ¬ (a0 ≤ 1099511627776) from by omega)], hx⟩
  ·intro w' hx; exact ⟨by unfold Q0i.F; rw [if_neg (show ¬ (a0 > 0) from by omega)], hx⟩

def Q06.M (b2 b7 bn bo bp be : Int) (bb : Option Addr) (ba b8 : Nat) (bq : Int) (R : RW) (w : World) : Prop :=
 thenW (w.alloc (.cells #[.int .i64 b2, .int .i64 b7, .int .u64 bn, .int .i64 bo, .int .i64 bp, .int .i64 be, .slice bb ba b8, .int .u64 bq] 27)) fun c1 =>
 ∃ (ac : Int), c1.cell? ((blk w.heap.size).add 0) = some (.int .i64 ac) ∧
 Calls Try.prog 82 #[.int .i64 ac, .int .i64 0, .int .i64 8] c1 fun br ar => ∃ (a3 : Bool), br = .returned (.bool a3) ∧
 bif !a3 then (
 bif !a3 then (
 R (.bool false) ar) else (
 ∃ (bh bk : Int), cellsAt ar ((blk w.heap.size).add 3) [.int .i64 bh, .int .i64 bk] 0 ∧
 Calls Try.prog 83 #[.agg #[.int .i64 bh, .int .i64 bk]] ar fun bt a1 => ∃ (aa : Bool), bt = .returned (.bool aa) ∧
 bif !aa then (
 bif !aa then (
 R (.bool false) a1) else (
 ∃ (aw : Int), a1.cell? ((blk w.heap.size).add 2) = some (.int .u64 aw) ∧
 ∃ (ai : Int), a1.cell? ((blk w.heap.size).add 1) = some (.int .i64 ai) ∧
 R (.bool ((aw == 0) == (ai == 0))) a1)) else (
 ∃ (bz : Int), a1.cell? (((blk w.heap.size).add 3).add 1) = some (.int .i64 bz) ∧
 ∃ (a5 : Int), a1.cell? ((blk w.heap.size).add 0) = some (.int .i64 a5) ∧
 bif bz != a5 then (
 bif bz != a5 then (
 R (.bool false) a1) else (
 ∃ (b3 : Int), a1.cell? ((blk w.heap.size).add 2) = some (.int .u64 b3) ∧
 ∃ (af : Int), a1.cell? ((blk w.heap.size).add 1) = some (.int .i64 af) ∧
 R (.bool ((b3 == 0) == (af == 0))) a1)) else (
 ∃ (b5 : Option Addr) (ao bf : Nat), a1.cell? ((blk w.heap.size).add 6) = some (.slice b5 ao bf) ∧
 bif decide ((ao : Int) > 1100) then (
 R (.bool false) a1) else (
 ∃ (av : Int), a1.cell? ((blk w.heap.size).add 2) = some (.int .u64 av) ∧
 ∃ (al : Int), a1.cell? ((blk w.heap.size).add 1) = some (.int .i64 al) ∧
 R (.bool ((av == 0) == (al == 0))) a1))))) else (
 ∃ (aq : Int), ar.cell? ((blk w.heap.size).add 1) = some (.int .i64 aq) ∧
 Calls Try.prog 82 #[.int .i64 aq, .int .i64 0, .int .i64 200] ar fun bs ay => ∃ (a4 : Bool), bs = .returned (.bool a4) ∧
 bif !a4 then (
 bif !a4 then (
 R (.bool false) ay) else (
 ∃ (bg bi : Int), cellsAt ay ((blk w.heap.size).add 3) [.int .i64 bg, .int .i64 bi] 0 ∧
 Calls Try.prog 83 #[.agg #[.int .i64 bg, .int .i64 bi]] ay fun bv a0 => ∃ (a8 : Bool), bv = .returned (.bool a8) ∧
 bif !a8 then (
 bif !a8 then (
 R (.bool false) a0) else (
 ∃ (b4 : Int), a0.cell? ((blk w.heap.size).add 2) = some (.int .u64 b4) ∧
 ∃ (ah : Int), a0.cell? ((blk w.heap.size).add 1) = some (.int .i64 ah) ∧
 R (.bool ((b4 == 0) == (ah == 0))) a0)) else (
 ∃ (bx : Int), a0.cell? (((blk w.heap.size).add 3).add 1) = some (.int .i64 bx) ∧
 ∃ (a6 : Int), a0.cell? ((blk w.heap.size).add 0) = some (.int .i64 a6) ∧
 bif bx != a6 then (
 bif bx != a6 then (
 R (.bool false) a0) else (
 ∃ (au : Int), a0.cell? ((blk w.heap.size).add 2) = some (.int .u64 au) ∧
 ∃ (am : Int), a0.cell? ((blk w.heap.size).add 1) = some (.int .i64 am) ∧
 R (.bool ((au == 0) == (am == 0))) a0)) else (
 ∃ (b6 : Option Addr) (ad b9 : Nat), a0.cell? ((blk w.heap.size).add 6) = some (.slice b6 ad b9) ∧
 bif decide ((ad : Int) > 1100) then (
 R (.bool false) a0) else (
 ∃ (b1 : Int), a0.cell? ((blk w.heap.size).add 2) = some (.int .u64 b1) ∧
 ∃ (ak : Int), a0.cell? ((blk w.heap.size).add 1) = some (.int .i64 ak) ∧
 R (.bool ((b1 == 0) == (ak == 0))) a0))))) else (
 ∃ (an : Int), ay.cell? ((blk w.heap.size).add 5) = some (.int .i64 an) ∧
 Calls Try.prog 82 #[.int .i64 an, .int .i64 (-1), .int .i64 20] ay fun bw bm => ∃ (ab : Bool), bw = .returned (.bool ab) ∧
 bif !ab then (
 R (.bool false) bm) else (
 ∃ (bj bl : Int), cellsAt bm ((blk w.heap.size).add 3) [.int .i64 bj, .int .i64 bl] 0 ∧
 Calls Try.prog 83 #[.agg #[.int .i64 bj, .int .i64 bl]] bm fun bu a2 => ∃ (a9 : Bool), bu = .returned (.bool a9) ∧
 bif !a9 then (
 bif !a9 then (
 R (.bool false) a2) else (
 ∃ (ax : Int), a2.cell? ((blk w.heap.size).add 2) = some (.int .u64 ax) ∧
 ∃ (ae : Int), a2.cell? ((blk w.heap.size).add 1) = some (.int .i64 ae) ∧
 R (.bool ((ax == 0) == (ae == 0))) a2)) else (
 ∃ (c0 : Int), a2.cell? (((blk w.heap.size).add 3).add 1) = some (.int .i64 c0) ∧
 ∃ (a7 : Int), a2.cell? ((blk w.heap.size).add 0) = some (.int .i64 a7) ∧
 bif c0 != a7 then (
 bif c0 != a7 then (
 R (.bool false) a2) else (
 ∃ (az : Int), a2.cell? ((blk w.heap.size).add 2) = some (.int .u64 az) ∧
 ∃ (aj : Int), a2.cell? ((blk w.heap.size).add 1) = some (.int .i64 aj) ∧
 R (.bool ((az == 0) == (aj == 0))) a2)) else (
 ∃ (bd : Option Addr) (ag bc : Nat), a2.cell? ((blk w.heap.size).add 6) = some (.slice bd ag bc) ∧
 bif decide ((ag : Int) > 1100) then (
 R (.bool false) a2) else (
 ∃ (b0 : Int), a2.cell? ((blk w.heap.size).add 2) = some (.int .u64 b0) ∧
 ∃ (ap : Int), a2.cell? ((blk w.heap.size).add 1) = some (.int .i64 ap) ∧
 R (.bool ((b0 == 0) == (ap == 0))) a2))))))

theorem Q06.ok (a0 a4 a6 a9 a8 a1 : Int) (a3 : Option Addr) (a2 a5 : Nat) (a7 : Int) {R : RW} {w : World} (h : Q06.M a0 a4 a6 a9 a8 a1 a3 a2 a5 a7 R w) : Calls Try.prog 62 #[.agg #[.int .i64 a0, .int .i64 a4, .int .u64 a6, .int .i64 a9, .int .i64 a8, .int .i64 a1, .slice a3 a2 a5, .int .u64 a7]] w fun e w' => ∃ v, e = .returned v ∧ R v w' :=
  Q07 follows (H := []) (args := [.agg #[.int .i64 a0, .int .i64 a4, .int .u64 a6, .int .i64 a9, .int .i64 a8, .int .i64 a1, .slice a3 a2 a5, .int .u64 a7]]) (cast (by kernel_rfl) h)

def Q06.N (a0 a2 a7 a6 a5 a3 : Int) (ab : Option Addr) (a4 ac : Nat) (ad : Int) (R : RW) (w : World) : Prop :=
 ((Q04.F a0 0 8) = false →
 ∀ (aa : World), Ext no w aa →
 R (.bool false) aa) ∧
 ((Q04.F a0 0 8) = true →
 ((Q04.F a2 0 200) = false →
 ∀ (a8 : World), Ext no w a8 →
 R (.bool false) a8) ∧
 ((Q04.F a2 0 200) = true →
 ((Q04.F a3 (-1) 20) = false →
 ∀ (a9 : World), Ext no w a9 →
 R (.bool false) a9) ∧
 ((Q04.F a3 (-1) 20) = true →
 ((Q0i.F a6 a5) = false →
 ∀ (a1 : World), Ext no w a1 →
 R (.bool false) a1) ∧
 ((Q0i.F a6 a5) = true →
 (a5 ≠ a0 →
 ∀ (a1 : World), Ext no w a1 →
 R (.bool false) a1) ∧
 (a5 = a0 →
 ((a4 : Int) > 1100 →
 ∀ (a1 : World), Ext no w a1 →
 R (.bool false) a1) ∧
 ((a4 : Int) ≤ 1100 →
 ∀ (a1 : World), Ext no w a1 →
 R (.bool ((a7 == 0) == (a2 == 0))) a1))))))

theorem Q06.up (a0 a1 a9 a8 a3 a2 : Int) (a5 : Option Addr) (a4 a6 : Nat) (ab : Int) {R : RW} {w : World} (h : Q06.N a0 a1 a9 a8 a3 a2 a5 a4 a6 ab R w) : Q06.M a0 a1 a9 a8 a3 a2 a5 a4 a6 ab R w := by
  unfold Q06.M
  unfold Q06.N at h
  refine Q01 fun an e9 => ?_
  have a7 := Blk.of_new e9
  have am := ((Ext.refl no w)).size
  have al := (Ext.refl no w).x_alloc e9
  refine ⟨a0, a7.celli 0 rfl rfl, ?_⟩
  refine (Q04.pure a0 0 8).mono fun ee ww10 ⟨he, hxx⟩ => ⟨(Q04.F a0 0 8), he, ?_⟩
  have ae := al.trans hxx
  have a7 := a7.ext hxx id
  refine bif_of (fun ai => ?_) (fun ai => ?_)
  ·have h := h.1 (not_t ai)
   refine bif_tt ai ?_
   have h := h ww10 ae
   exact h
  have h := h.2 (not_f ai)
  refine ⟨a1, a7.celli 1 rfl rfl, ?_⟩
  refine (Q04.pure a1 0 200).mono fun ee ww13 ⟨he, hxx⟩ => ⟨(Q04.F a1 0 200), he, ?_⟩
  have ac := ae.trans hxx
  have a7 := a7.ext hxx id
  refine bif_of (fun ah => ?_) (fun ah => ?_)
  ·have h := h.1 (not_t ah)
   refine bif_tt ah ?_
   have h := h ww13 ac
   exact h
  have h := h.2 (not_f ah)
  refine ⟨a2, a7.celli 5 rfl rfl, ?_⟩
  refine (Q04.pure a2 (-1) 20).mono fun ee ww16 ⟨he, hxx⟩ => ⟨(Q04.F a2 (-1) 20), he, ?_⟩
  have ad := ac.trans hxx
  have a7 := a7.ext hxx id
  refine bif_of (fun aj => ?_) (fun aj => ?_)
  ·have h := h.1 (not_t aj)
   have h := h ww16 ad
   exact h
  have h := h.2 (not_f aj)
  refine ⟨a8, a3, ⟨a7.celli 3 rfl rfl, a7.celli 4 rfl rfl, trivial⟩, ?_⟩
  refine (Q0i.pure a8 a3).mono fun ee ww19 ⟨he, hxx⟩ => ⟨(Q0i.F a8 a3), he, ?_⟩
  have aa := ad.trans hxx
  have a7 := a7.ext hxx id
  refine bif_of (fun af => ?_) (fun af => ?_)
  ·have h := h.1 (not_t af)
   refine bif_tt af ?_
   have h := h ww19 aa
   exact h
  have h := h.2 (not_f af)
  refine ⟨a3, a7.celli 4 rfl rfl, ?_⟩
  refine ⟨a0, a7.celli 0 rfl rfl, ?_⟩
  refine bif_of (fun ag => ?_) (fun ag => ?_)
  ·have h := h.1 (bne_t ag)
   refine bif_tt ag ?_
   have h := h ww19 aa
   exact h
  have h := h.2 (bne_f ag)
  refine ⟨a5, a4, a6, a7.celli 6 rfl rfl, ?_⟩
  refine bif_of (fun ak => ?_) (fun ak => ?_)
  ·have h := h.1 (of_decide_eq_true ak)
   have h := h ww19 aa
   exact h
  have h := h.2 (Int.not_lt.1 (of_decide_eq_false ak))
  refine ⟨a9, a7.celli 2 rfl rfl, ?_⟩
  refine ⟨a1, a7.celli 1 rfl rfl, ?_⟩
  have h := h ww19 aa
  exact h

theorem Q06.go (a0 a4 a6 a9 a8 a1 : Int) (a3 : Option Addr) (a2 a5 : Nat) (a7 : Int) {R : RW} {w : World} (h : Q06.N a0 a4 a6 a9 a8 a1 a3 a2 a5 a7 R w) : Calls Try.prog 62 #[.agg #[.int .i64 a0, .int .i64 a4, .int .u64 a6, .int .i64 a9, .int .i64 a8, .int .i64 a1, .slice a3 a2 a5, .int .u64 a7]] w fun e w' => ∃ v, e = .returned v ∧ R v w' := Q06.ok a0 a4 a6 a9 a8 a1 a3 a2 a5 a7 (Q06.up a0 a4 a6 a9 a8 a1 a3 a2 a5 a7 h)
theorem Q06.run (a0 a4 a6 a9 a8 a1 : Int) (a3 : Option Addr) (a2 a5 : Nat) (a7 : Int) {V : Value} {Q : World → Prop} {w : World} (h : Q06.N a0 a4 a6 a9 a8 a1 a3 a2 a5 a7 (fun v w' => v = V ∧ Q w') w) : Calls Try.prog 62 #[.agg #[.int .i64 a0, .int .i64 a4, .int .u64 a6, .int .i64 a9, .int .i64 a8, .int .i64 a1, .slice a3 a2 a5, .int .u64 a7]] w (Ret V Q) := (Q06.go a0 a4 a6 a9 a8 a1 a3 a2 a5 a7 h).mono fun e w' ⟨v, he, hv, hq⟩ => ⟨by rw [he, hv], hq⟩

def Q06.F (a0 a1 a5 a6 a4 a2 : Int) (a7 : Option Addr) (a3 a8 : Nat) (a9 : Int) : Bool :=
  if (Q04.F a0 0 8) = false then
    false
  else
    if (Q04.F a1 0 200) = false then
      false
    else
      if (Q04.F a2 (-1) 20) = false then
        false
      else
        if (Q0i.F a6 a4) = false then
          false
        else
          if a4 ≠ a0 then
            false
          else
            if (a3 : Int) > 1100 then
              false
            else
              ((a5 == 0) == (a1 == 0))
theorem Q06.pure (a1 a4 a6 a9 a8 a2 : Int) (a3 : Option Addr) (a0 a5 : Nat) (a7 : Int) {w : World} : Calls Try.prog 62 #[.agg #[.int .i64 a1, .int .i64 a4, .int .u64 a6, .int .i64 a9, .int .i64 a8, .int .i64 a2, .slice a3 a0 a5, .int .u64 a7]] w (Ret (.bool (Q06.F a1 a4 a6 a9 a8 a2 a3 a0 a5 a7)) fun w' => Ext no w w') := by
  refine Q06.run a1 a4 a6 a9 a8 a2 a3 a0 a5 a7 ?_
  unfold Q06.N
  refine ⟨fun c0 => ?_, fun c0 => ?_⟩
  ·intro w' hx; exact ⟨by unfold Q06.F; rw [if_pos c0], hx⟩
  ·refine ⟨fun c1 => ?_, fun c1 => ?_⟩
   ·intro w' hx; exact ⟨by unfold Q06.F; rw [if_neg (by rw [c0]; decide), if_pos c1], hx⟩
   ·refine ⟨fun c2 => ?_, fun c2 => ?_⟩
    ·intro w' hx; exact ⟨by unfold Q06.F; rw [if_neg (by rw [c0]; decide), if_neg (by rw [c1]; decide), if_pos c2], hx⟩
    ·refine ⟨fun c3 => ?_, fun c3 => ?_⟩
     ·intro w' hx; exact ⟨by unfold Q06.F; rw [if_neg (by rw [c0]; decide), if_neg (by rw [c1]; decide), if_neg (by rw [c2]; decide), if_pos c3], hx⟩
     ·refine ⟨fun c4 => ?_, fun c4 => ?_⟩
      ·intro w' hx; exact ⟨by unfold Q06.F; rw [if_neg (by rw [c0]; decide), if_neg (by rw [c1]; decide), if_neg (by rw [c2]; decide), if_neg (by rw [c3]; decide), if_pos c4], hx⟩
      ·refine ⟨fun c5 => ?_, fun c5 => ?_⟩
       ·intro w' hx; exact ⟨by unfold Q06.F; rw [if_neg (by rw [c0]; decide), if_neg (by rw [c1]; decide), if_neg (by rw [c2]; decide), if_neg (by rw [c3]; decide), if_neg (not_not_intro c4), if_pos c5], hx⟩
       ·intro w' hx; exact ⟨by unfold Q06.F; rw [if_neg (by rw [c0]; decide), if_neg (by rw [c1]; decide), if_neg (by rw [c2]; decide), if_neg (by rw [c3]; decide), if_neg (not_not_intro c4), if_neg (show ¬ ((a0 : Int) > 1100) from by omega)], hx⟩

structure Ent where
  w : Int
  i : Int
  pv : Int
  t : Int
  tw : Int
  ep : Int
  body : List UInt8
  sg : Int
deriving DecidableEq
def Ent.zero : Ent := ⟨0, 0, 0, 0, 0, 0, [], 0⟩
def entC (e : Ent) (a : Option Addr) (c : Nat) : List Value := [.int .i64 e.w, .int .i64 e.i, .int .u64 e.pv, .int .i64 e.t, .int .i64 e.tw, .int .i64 e.ep, .slice a e.body.length c, .int .u64 e.sg]
def entV (e : Ent) (a : Option Addr) (c : Nat) : Value := .agg #[.int .i64 e.w, .int .i64 e.i, .int .u64 e.pv, .int .i64 e.t, .int .i64 e.tw, .int .i64 e.ep, .slice a e.body.length c, .int .u64 e.sg]
structure Ent.fit (e : Ent) : Prop where
  pv0 : 0 ≤ e.pv
  pv1 : e.pv < 18446744073709551616
  sg0 : 0 ≤ e.sg
  sg1 : e.sg < 18446744073709551616
def Q0s (e : Ent) : Bool := decide (0 ≤ e.w ∧ e.w < 8 ∧ 0 ≤ e.i ∧ e.i < 200 ∧ -1 ≤ e.ep ∧ e.ep < 20 ∧ 0 < e.t ∧ e.t ≤ 1099511627776 ∧ e.tw = e.w ∧ e.body.length ≤ 1100 ∧ (e.pv = 0 ↔ e.i = 0))
theorem beq_dec (x y : Int) : ((x == 0) == (y == 0)) = decide (x = 0 ↔ y = 0) := by
  rw [Bool.eq_iff_iff, decide_eq_true_eq, beq_iff_eq, Bool.eq_iff_iff, beq_iff_eq, beq_iff_eq]
theorem Q4s (n a b : Int) : Q04.F n a b = decide (a ≤ n ∧ n < b) := by
  unfold Q04.F
  by_cases h : n ≥ a
  · rw [if_pos h, decide_eq_decide]; omega
  · rw [if_neg h, eq_comm, decide_eq_false_iff_not]; omega
theorem Q2Z (t w : Int) : Q0i.F t w = decide (0 < t ∧ t ≤ 1099511627776 ∧ 0 ≤ w ∧ w < 8) := by
  unfold Q0i.F Q0h.F
  by_cases h : t > 0
  · rw [if_pos h]
    by_cases h1 : t ≤ 1099511627776
    · rw [if_pos h1]
      by_cases h2 : w ≥ 0
      · rw [if_pos h2, decide_eq_decide]; omega
      · rw [if_neg h2, eq_comm, decide_eq_false_iff_not]; omega
    · rw [if_neg h1, eq_comm, decide_eq_false_iff_not]; omega
  · rw [if_neg h, eq_comm, decide_eq_false_iff_not]; omega
theorem Q1U (e : Ent) (a : Option Addr) (c : Nat) : Q06.F e.w e.i e.pv e.t e.tw e.ep a e.body.length c e.sg = Q0s e := by
  unfold Q06.F Q0s
  rw [beq_dec]
  simp only [Q4s, Q2Z, decide_eq_false_iff_not]
  rw [Bool.eq_iff_iff, decide_eq_true_eq]
  (repeat' split) <;> simp only [Bool.false_eq_true, decide_eq_true_eq, false_iff] <;> omega
def stampL (t w : Int) : List UInt8 := numL (zig t) ++ numL w.toNat
def textL (e : Ent) : List UInt8 := numL e.w.toNat ++ numL e.i.toNat ++ numL e.pv.toNat ++ stampL e.t e.tw ++ numL (zig e.ep) ++ (numL e.body.length ++ e.body)
def bytesL (e : Ent) : List UInt8 := textL e ++ numL e.sg.toNat
theorem Q34 (t w : Int) : (stampL t w).length ≤ 20 := by
  have h1 := W.numL_le (zig t); have h2 := W.numL_le w.toNat
  unfold stampL; rw [List.length_append]; omega
theorem Q3w (e : Ent) : (textL e).length ≤ 70 + e.body.length := by
  have h1 := W.numL_le e.w.toNat; have h2 := W.numL_le e.i.toNat; have h3 := W.numL_le e.pv.toNat; have h4 := Q34 e.t e.tw; have h5 := W.numL_le (zig e.ep); have h6 := W.numL_le e.body.length
  unfold textL; simp only [List.length_append]; omega
theorem Q4k (e : Ent) : (bytesL e).length ≤ 80 + e.body.length := by
  have h1 := Q3w e; have h2 := W.numL_le e.sg.toNat
  unfold bytesL; rw [List.length_append]; omega
def stampR (s : RS) : (Int × Nat) × RS := (((intR s).1, (countR 7 (intR s).2).1), (countR 7 (intR s).2).2)
def entR1 (s : RS) : RS := (countR 7 s).2
def entR2 (s : RS) : RS := (countR 199 (entR1 s)).2
def entR3 (s : RS) : RS := (numR (entR2 s)).2
def entR4 (s : RS) : RS := (stampR (entR3 s)).2
def entR5 (s : RS) : RS := (intR (entR4 s)).2
def entR6 (s : RS) : RS := (bytesR 1100 (entR5 s)).2
def entR7 (s : RS) : RS := (numR (entR6 s)).2
def entR (s : RS) : Ent := ⟨(countR 7 s).1, (countR 199 (entR1 s)).1, (numR (entR2 s)).1, (stampR (entR3 s)).1.1, (stampR (entR3 s)).1.2, (intR (entR4 s)).1, (bytesR 1100 (entR5 s)).1, (numR (entR6 s)).1⟩
def readE (b : List UInt8) : Ent × Int :=
  if doneR (entR7 (b, 0)) ≠ 0 then (Ent.zero, doneR (entR7 (b, 0))) else if Q0s (entR (b, 0)) = true then (entR (b, 0), 0) else (Ent.zero, 4)
theorem Q2P (s : RS) : (intR s).2.1.length ≤ s.1.length := W.numR_len s
theorem Q3L (s : RS) : (stampR s).2.1.length ≤ s.1.length := Nat.le_trans (W.countR_len 7 _) (Q2P s)
theorem Q4B (s : RS) : (entR1 s).1.length ≤ s.1.length ∧ (entR2 s).1.length ≤ s.1.length ∧ (entR3 s).1.length ≤ s.1.length ∧ (entR4 s).1.length ≤ s.1.length ∧ (entR5 s).1.length ≤ s.1.length ∧ (entR6 s).1.length ≤ s.1.length ∧ (entR7 s).1.length ≤ s.1.length := by
  have h1 : (entR1 s).1.length ≤ s.1.length := W.countR_len 7 s
  have h2 : (entR2 s).1.length ≤ (entR1 s).1.length := W.countR_len 199 _
  have h3 : (entR3 s).1.length ≤ (entR2 s).1.length := W.numR_len _
  have h4 : (entR4 s).1.length ≤ (entR3 s).1.length := Q3L _
  have h5 : (entR5 s).1.length ≤ (entR4 s).1.length := Q2P _
  have h6 : (entR6 s).1.length ≤ (entR5 s).1.length := (Q2F 1100 _).1
  have h7 : (entR7 s).1.length ≤ (entR6 s).1.length := W.numR_len _
  omega
/-! ### the plain law -/
theorem Q30 {t : Int} (h0 : -9223372036854775808 ≤ t) (h1 : t < 9223372036854775808) (r : List UInt8) : intR (numL (zig t) ++ r, 0) = (t, (r, 0)) := by
  unfold intR
  rw [W.numR_write (W.zig_lt h0 h1), W.unzig_zig]
theorem Q38 (x r : List UInt8) : takeR x.length (x ++ r, 0) = (x, (r, 0)) := by
  unfold takeR
  rw [if_pos rfl, if_neg (by simp), List.take_left' rfl, List.drop_left' rfl]
theorem Q0U {m : Int} {x : List UInt8} (hm : (x.length : Int) ≤ m) (hx : x.length < 18446744073709551616) (r : List UInt8) : bytesR m (numL x.length ++ (x ++ r), 0) = (x, (r, 0)) := by
  unfold bytesR
  rw [W.countR_write hx hm, Q38]
theorem Q3D {n : Nat} {s : RS} (h : (takeR n s).2.2 = 0) : s.2 = 0 ∧ s.1 = (takeR n s).1 ++ (takeR n s).2.1 ∧ (takeR n s).1.length = n := by
  unfold takeR at h ⊢
  by_cases h0 : s.2 = 0
  · rw [if_pos h0] at h ⊢
    by_cases h1 : s.1.length < n
    · rw [if_pos h1] at h; exact absurd h (by decide)
    · rw [if_neg h1]
      exact ⟨h0, (List.take_append_drop n s.1).symm, by simp; omega⟩
  · rw [if_neg h0] at h; exact absurd h h0
theorem Q0Z {m : Int} {s : RS} (h : (bytesR m s).2.2 = 0) : s.2 = 0 ∧ s.1 = numL (bytesR m s).1.length ++ ((bytesR m s).1 ++ (bytesR m s).2.1) := by
  unfold bytesR at h ⊢
  obtain ⟨h1, h2, h3⟩ := Q3D h
  obtain ⟨h4, h5⟩ := W.countR_good h1
  refine ⟨h4, ?_⟩
  rw [h3, ← h2]; exact h5
theorem Q2S {s : RS} (h : (intR s).2.2 = 0) : s.2 = 0 ∧ s.1 = numL (zig (intR s).1) ++ (intR s).2.1 := by
  unfold intR at h ⊢
  obtain ⟨h1, h2⟩ := W.numR_good h
  exact ⟨h1, by rw [W.zig_unzig]; exact h2⟩
theorem Q1d (e : Ent) : Q0s e = true ↔ (0 ≤ e.w ∧ e.w < 8 ∧ 0 ≤ e.i ∧ e.i < 200 ∧ -1 ≤ e.ep ∧ e.ep < 20 ∧ 0 < e.t ∧ e.t ≤ 1099511627776 ∧ e.tw = e.w ∧ e.body.length ≤ 1100 ∧ (e.pv = 0 ↔ e.i = 0)) := decide_eq_true_iff
theorem Q3G {e : Ent} (h : Q0s e = true) (hf : e.fit) (r : List UInt8) : entR (bytesL e ++ r, 0) = e ∧ entR7 (bytesL e ++ r, 0) = (r, 0) := by
  obtain ⟨h1, h2, h3, h4, h5, h6, h7, h8, h9, h10, h11⟩ := (Q1d e).1 h
  obtain ⟨l2, l3, l4, l5, l6, l7, l8, e1, rfl, rfl, rfl, rfl, rfl, rfl, rfl⟩ : ∃ l2 l3 l4 l5 l6 l7 l8, bytesL e ++ r = numL e.w.toNat ++ l2 ∧ l2 = numL e.i.toNat ++ l3 ∧ l3 = numL e.pv.toNat ++ l4 ∧ l4 = numL (zig e.t) ++ l5 ∧ l5 = numL e.tw.toNat ++ l6 ∧ l6 = numL (zig e.ep) ++ l7 ∧
      l7 = numL e.body.length ++ (e.body ++ l8) ∧ l8 = numL e.sg.toNat ++ r := ⟨_, _, _, _, _, _, _, by unfold bytesL textL stampL; simp only [List.append_assoc], rfl, rfl, rfl, rfl, rfl, rfl, rfl⟩
  have f1 := hf.pv0; have f2 := hf.pv1; have f3 := hf.sg0; have f4 := hf.sg1
  have q1 := W.countR_write (n := e.w.toNat) (m := 7) (by omega) (by omega) (numL e.i.toNat ++ (numL e.pv.toNat ++ (numL (zig e.t) ++ (numL e.tw.toNat ++ (numL (zig e.ep) ++ (numL e.body.length ++ (e.body ++ (numL e.sg.toNat ++ r))))))))
  rw [← e1] at q1
  have q2 := W.countR_write (n := e.i.toNat) (m := 199) (by omega) (by omega) (numL e.pv.toNat ++ (numL (zig e.t) ++ (numL e.tw.toNat ++ (numL (zig e.ep) ++ (numL e.body.length ++ (e.body ++ (numL e.sg.toNat ++ r)))))))
  have p1 : entR1 (bytesL e ++ r, 0) = (numL e.i.toNat ++ (numL e.pv.toNat ++ (numL (zig e.t) ++ (numL e.tw.toNat ++ (numL (zig e.ep) ++ (numL e.body.length ++ (e.body ++ (numL e.sg.toNat ++ r))))))), 0) := congrArg Prod.snd q1
  rw [← p1] at q2
  have q3 := W.numR_write (n := e.pv.toNat) (by omega) (numL (zig e.t) ++ (numL e.tw.toNat ++ (numL (zig e.ep) ++ (numL e.body.length ++ (e.body ++ (numL e.sg.toNat ++ r))))))
  have p2 : entR2 (bytesL e ++ r, 0) = (numL e.pv.toNat ++ (numL (zig e.t) ++ (numL e.tw.toNat ++ (numL (zig e.ep) ++ (numL e.body.length ++ (e.body ++ (numL e.sg.toNat ++ r)))))), 0) := congrArg Prod.snd q2
  rw [← p2] at q3
  have q4 := Q30 (t := e.t) (by omega) (by omega) (numL e.tw.toNat ++ (numL (zig e.ep) ++ (numL e.body.length ++ (e.body ++ (numL e.sg.toNat ++ r)))))
  have p3 : entR3 (bytesL e ++ r, 0) = (numL (zig e.t) ++ (numL e.tw.toNat ++ (numL (zig e.ep) ++ (numL e.body.length ++ (e.body ++ (numL e.sg.toNat ++ r))))), 0) := congrArg Prod.snd q3
  rw [← p3] at q4
  have q5 := W.countR_write (n := e.tw.toNat) (m := 7) (by omega) (by omega) (numL (zig e.ep) ++ (numL e.body.length ++ (e.body ++ (numL e.sg.toNat ++ r))))
  have p5 : (intR (entR3 (bytesL e ++ r, 0))).2 = (numL e.tw.toNat ++ (numL (zig e.ep) ++ (numL e.body.length ++ (e.body ++ (numL e.sg.toNat ++ r)))), 0) := congrArg Prod.snd q4
  rw [← p5] at q5
  have q6 := Q30 (t := e.ep) (by omega) (by omega) (numL e.body.length ++ (e.body ++ (numL e.sg.toNat ++ r)))
  have p6 : entR4 (bytesL e ++ r, 0) = (numL (zig e.ep) ++ (numL e.body.length ++ (e.body ++ (numL e.sg.toNat ++ r))), 0) := congrArg Prod.snd q5
  rw [← p6] at q6
  have q7 := Q0U (x := e.body) (m := 1100) (by omega) (by omega) (numL e.sg.toNat ++ r)
  have p7 : entR5 (bytesL e ++ r, 0) = (numL e.body.length ++ (e.body ++ (numL e.sg.toNat ++ r)), 0) := congrArg Prod.snd q6
  rw [← p7] at q7
  have q8 := W.numR_write (n := e.sg.toNat) (by omega) r
  have p8 : entR6 (bytesL e ++ r, 0) = (numL e.sg.toNat ++ r, 0) := congrArg Prod.snd q7
  rw [← p8] at q8
  refine ⟨?_, congrArg Prod.snd q8⟩
  unfold entR stampR
  rw [q1, q2, q3, q5, q4, q6, q7, q8]
  simp only
  obtain ⟨w, i, pv, t, tw, ep, body, sg⟩ := e
  simp only at *
  rw [Int.toNat_of_nonneg h1, Int.toNat_of_nonneg h3, Int.toNat_of_nonneg f1, Int.toNat_of_nonneg (by omega : 0 ≤ tw), Int.toNat_of_nonneg f3]
theorem Q1E {e : Ent} (h : Q0s e = true) (hf : e.fit) : readE (bytesL e) = (e, 0) := by
  obtain ⟨h1, h2⟩ := Q3G h hf []
  rw [List.append_nil] at h1 h2
  unfold readE
  rw [h2, h1, if_neg (by simp [doneR]), if_pos h]
theorem Q4b {s : RS} (h : (entR7 s).2 = 0) : s.2 = 0 ∧ s.1 = bytesL (entR s) ++ (entR7 s).1 ∧ (entR s).fit := by
  obtain ⟨a8, b8⟩ := W.numR_good (s := entR6 s) h
  obtain ⟨a7, b7⟩ := Q0Z (s := entR5 s) a8
  obtain ⟨a6, b6⟩ := Q2S (s := entR4 s) a7
  obtain ⟨a5, b5⟩ := W.countR_good (s := (intR (entR3 s)).2) a6
  obtain ⟨a4, b4⟩ := Q2S (s := entR3 s) a5
  obtain ⟨a3, b3⟩ := W.numR_good (s := entR2 s) a4
  obtain ⟨a2, b2⟩ := W.countR_good (s := entR1 s) a3
  obtain ⟨a1, b1⟩ := W.countR_good (s := s) a2
  refine ⟨a1, ?_, ⟨Int.natCast_nonneg _, ?_, Int.natCast_nonneg _, ?_⟩⟩
  · rw [b1]
    show _ ++ (entR1 s).1 = _
    rw [b2]
    show _ ++ (_ ++ (entR2 s).1) = _
    rw [b3]
    show _ ++ (_ ++ (_ ++ (entR3 s).1)) = _
    rw [b4, b5]
    show _ ++ (_ ++ (_ ++ (_ ++ (_ ++ (entR4 s).1)))) = _
    rw [b6]
    show _ ++ (_ ++ (_ ++ (_ ++ (_ ++ (_ ++ (entR5 s).1))))) = _
    rw [b7]
    show _ ++ (_ ++ (_ ++ (_ ++ (_ ++ (_ ++ (_ ++ (_ ++ (entR6 s).1))))))) = _
    rw [b8]
    show _ ++ (_ ++ (_ ++ (_ ++ (_ ++ (_ ++ (_ ++ (_ ++ (_ ++ (entR7 s).1)))))))) = _
    unfold bytesL textL stampL
    simp only [List.append_assoc]
    rfl
  · exact Int.ofNat_lt.2 (W.numR_lt (entR2 s))
  · exact Int.ofNat_lt.2 (W.numR_lt (entR6 s))
theorem Q2E {s : RS} (h : doneR s = 0) : s = ([], 0) := by
  obtain ⟨l, k⟩ := s
  unfold doneR at h
  by_cases h0 : k = 0
  · subst h0
    simp only [if_true] at h
    by_cases h1 : l.length > 0
    · rw [if_pos h1] at h; exact absurd h (by decide)
    · rw [List.eq_nil_of_length_eq_zero (by omega : l.length = 0)]
  · rw [if_neg h0] at h; exact absurd h h0
theorem Q1X {b : List UInt8} (h : (readE b).2 = 0) : bytesL (readE b).1 = b ∧ Q0s (readE b).1 = true ∧ (readE b).1.fit := by
  unfold readE at h ⊢
  by_cases h0 : doneR (entR7 (b, 0)) ≠ 0
  · rw [if_pos h0] at h; exact absurd h h0
  rw [if_neg h0] at h ⊢
  by_cases h1 : Q0s (entR (b, 0)) = true
  · rw [if_pos h1]
    have h2 := Q2E (Decidable.not_not.1 h0)
    obtain ⟨g1, g2, g3⟩ := Q4b (s := (b, 0)) (by rw [h2])
    rw [h2, List.append_nil] at g2
    exact ⟨g2.symm, h1, g3⟩
  · rw [if_neg h1] at h; exact absurd h (by decide)
end Go.Proofs.Ytoempemllkebkaa
namespace Go.Proofs.Ytoempemllkebkaa
open Go Go.Mx Go.Proofs
open W (OwnB Rd RdR GivesW numR countR doneR zig unzig intR)
def Q0u.M (a2 : Option Addr) (a3 a5 : Nat) (a4 : Option Addr) (a1 a0 : Nat) (R : RW) (w : World) : Prop :=
 ∃ (s3 : ByteArray), (convert 25 9 (.slice a2 a3 a5)).run Try.prog w = .ok (.string s3) w ∧
 ∃ (s4 : ByteArray), (convert 25 9 (.slice a4 a1 a0)).run Try.prog w = .ok (.string s4) w ∧
 R (.bool (s3.toList == s4.toList)) w

theorem Q0u.ok (a2 : Option Addr) (a3 a5 : Nat) (a4 : Option Addr) (a1 a0 : Nat) {R : RW} {w : World} (h : Q0u.M a2 a3 a5 a4 a1 a0 R w) : Calls Try.prog 59 #[.slice a2 a3 a5, .slice a4 a1 a0] w fun e w' => ∃ v, e = .returned v ∧ R v w' :=
  Q07 follows (H := []) (args := [.slice a2 a3 a5, .slice a4 a1 a0]) (cast (by kernel_rfl) h)

def Q0u.N (a2 : Option Addr) (a3 a5 : Nat) (a4 : Option Addr) (a1 a0 : Nat) (R : RW) (w : World) : Prop :=
 ∃ (s3 : ByteArray), (convert 25 9 (.slice a2 a3 a5)).run Try.prog w = .ok (.string s3) w ∧
 ∃ (s5 : ByteArray), (convert 25 9 (.slice a4 a1 a0)).run Try.prog w = .ok (.string s5) w ∧
 R (.bool (s3.toList == s5.toList)) w

theorem Q0u.up (a2 : Option Addr) (a3 a5 : Nat) (a4 : Option Addr) (a1 a0 : Nat) {R : RW} {w : World} (h : Q0u.N a2 a3 a5 a4 a1 a0 R w) : Q0u.M a2 a3 a5 a4 a1 a0 R w := by
  unfold Q0u.M
  unfold Q0u.N at h
  obtain ⟨s3, a7, h⟩ := h
  refine ⟨s3, a7, ?_⟩
  obtain ⟨s5, a6, h⟩ := h
  refine ⟨s5, a6, ?_⟩
  exact h

theorem Q0u.go (a2 : Option Addr) (a3 a5 : Nat) (a4 : Option Addr) (a1 a0 : Nat) {R : RW} {w : World} (h : Q0u.N a2 a3 a5 a4 a1 a0 R w) : Calls Try.prog 59 #[.slice a2 a3 a5, .slice a4 a1 a0] w fun e w' => ∃ v, e = .returned v ∧ R v w' := Q0u.ok a2 a3 a5 a4 a1 a0 (Q0u.up a2 a3 a5 a4 a1 a0 h)
theorem Q0u.run (a2 : Option Addr) (a3 a5 : Nat) (a4 : Option Addr) (a1 a0 : Nat) {V : Value} {Q : World → Prop} {w : World} (h : Q0u.N a2 a3 a5 a4 a1 a0 (fun v w' => v = V ∧ Q w') w) : Calls Try.prog 59 #[.slice a2 a3 a5, .slice a4 a1 a0] w (Ret V Q) := (Q0u.go a2 a3 a5 a4 a1 a0 h).mono fun e w' ⟨v, he, hv, hq⟩ => ⟨by rw [he, hv], hq⟩

def Q0L.M (ab : Option Addr) (aa ac : Nat) (ag af : Int) (R : RW) (w : World) : Prop :=
 thenW (w.alloc (.cells #[.int .i64 ag, .int .i64 af] 24)) fun ad =>
 thenW (ad.drew) fun a9 =>
 ∃ (T6 : Int), a9.cell? ((blk w.heap.size).add 0) = some (.int .i64 T6) ∧
 ∃ (W7 : Int), a9.cell? ((blk w.heap.size).add 1) = some (.int .i64 W7) ∧
 Calls Try.prog 89 #[.slice ab aa ac, .int .i64 T6] a9 fun ae a6 => ∃ (a5 : Option Addr) (a3 a4 : Nat), ae = .returned (.slice a5 a3 a4) ∧
 a6.cell? ((blk w.heap.size).add 1) = some (.int .i64 W7) ∧
 Calls Try.prog 26 #[.slice a5 a3 a4, .int .u64 (IntKind.u64.wrap (if (0 : Int) > W7 then 0 else W7))] a6 fun a8 a7 => ∃ (a0 : Option Addr) (a2 a1 : Nat), a8 = .returned (.slice a0 a2 a1) ∧
 R (.slice a0 a2 a1) a7

theorem Q0L.ok (a1 : Option Addr) (a0 a2 : Nat) (a4 a3 : Int) {R : RW} {w : World} (h : Q0L.M a1 a0 a2 a4 a3 R w) : Calls Try.prog 90 #[.slice a1 a0 a2, .agg #[.int .i64 a4, .int .i64 a3]] w fun e w' => ∃ v, e = .returned v ∧ R v w' :=
  Q07 follows (H := []) (args := [.slice a1 a0 a2, .agg #[.int .i64 a4, .int .i64 a3]]) (cast (by kernel_rfl) h)

def Q0L.N (ac : Option Addr) (ab ad : Nat) (af a9 : Int) (R : RW) (w : World) : Prop :=
 ∀ (a6 : World) (p6 : Nat), Ext no w a6 → Priv w a6 [p6] →
 Calls Try.prog 89 #[.slice ac ab ad, .int .i64 af] a6 fun ae aa => ∃ (a4 : Option Addr) (a3 a5 : Nat), ae = .returned (.slice a4 a3 a5) ∧
 Keep [p6] a6 aa ∧
 Calls Try.prog 26 #[.slice a4 a3 a5, .int .u64 (IntKind.u64.wrap (if (0 : Int) > a9 then 0 else a9))] aa fun a8 a7 => ∃ (a2 : Option Addr) (a1 a0 : Nat), a8 = .returned (.slice a2 a1 a0) ∧
 R (.slice a2 a1 a0) a7

theorem Q0L.up (ab : Option Addr) (aa a9 : Nat) (a8 a7 : Int) {R : RW} {w : World} (h : Q0L.N ab aa a9 a8 a7 R w) : Q0L.M ab aa a9 a8 a7 R w := by
  unfold Q0L.M
  unfold Q0L.N at h
  refine Q01 fun aj e4 => ?_
  have a0 := Blk.of_new e4
  have ae := ((Ext.refl no w)).size
  have af := (Ext.refl no w).x_alloc e4
  refine Q01 fun ag e5 => ?_
  have ad := af.x_drew e5
  have a0 := a0.x_drew e5
  refine ⟨a8, a0.celli 0 rfl rfl, ?_⟩
  refine ⟨a7, a0.celli 1 rfl rfl, ?_⟩
  have h := h ag (w.heap.size) ad (Priv.cons ae a0.lt Priv.nil)
  refine h.mono fun ai ak h => ?_
  obtain ⟨a4, a6, a5, he, hk, h⟩ := h
  refine ⟨a4, a6, a5, he, ?_⟩
  have a0 := hk.blk a0 (by simp)
  refine ⟨a0.celli 1 rfl rfl, ?_⟩
  refine h.mono fun ah ac h => ?_
  obtain ⟨a2, a1, a3, he, h⟩ := h
  refine ⟨a2, a1, a3, he, ?_⟩
  exact h

theorem Q0L.go (a1 : Option Addr) (a0 a2 : Nat) (a4 a3 : Int) {R : RW} {w : World} (h : Q0L.N a1 a0 a2 a4 a3 R w) : Calls Try.prog 90 #[.slice a1 a0 a2, .agg #[.int .i64 a4, .int .i64 a3]] w fun e w' => ∃ v, e = .returned v ∧ R v w' := Q0L.ok a1 a0 a2 a4 a3 (Q0L.up a1 a0 a2 a4 a3 h)
def Q0I.M (r1 : Option Addr) (R : RW) (w : World) : Prop :=
 thenW (w.alloc (.cells #[.int .i64 0, .int .i64 0] 24)) fun ad =>
 Calls Try.prog 100 #[.pointer r1] ad fun ac a9 => ∃ (a6 : Int), ac = .returned (.int .i64 a6) ∧
 Q02 a9 (((blk w.heap.size).add 0).add 0) ∧
 thenW (a9.setCell (((blk w.heap.size).add 0).add 0) (.int .i64 a6)) fun ae =>
 Calls Try.prog 54 #[.pointer r1, .int .i64 7] ae fun ab aa => ∃ (a2 : Int), ab = .returned (.int .i64 a2) ∧
 Q02 aa (((blk w.heap.size).add 1).add 0) ∧
 thenW (aa.setCell (((blk w.heap.size).add 1).add 0) (.int .i64 a2)) fun a3 =>
 ∃ (a5 a7 : Int), cellsAt a3 (blk w.heap.size) [.int .i64 a5, .int .i64 a7] 0 ∧
 Q02 a3 ((blk w.heap.size).add 0) ∧
 thenW (a3.setCell ((blk w.heap.size).add 0) (.int .i64 a5)) fun a4 =>
 Q02 a4 ((blk w.heap.size).add 1) ∧
 thenW (a4.setCell ((blk w.heap.size).add 1) (.int .i64 a7)) fun a8 =>
 ∃ (a0 a1 : Int), cellsAt a8 (blk w.heap.size) [.int .i64 a0, .int .i64 a1] 0 ∧
 R (.agg #[.int .i64 a0, .int .i64 a1]) a8

theorem Q0I.ok (r1 : Option Addr) {R : RW} {w : World} (h : Q0I.M r1 R w) : Calls Try.prog 99 #[.pointer r1] w fun e w' => ∃ v, e = .returned v ∧ R v w' :=
  Q07 follows (H := []) (args := [.pointer r1]) (cast (by kernel_rfl) h)

def Q0I.N (r1 : Option Addr) (R : RW) (w : World) : Prop :=
 ∀ (a4 : World) (p3 : Nat), Ext no w a4 → Priv w a4 [p3] →
 Calls Try.prog 100 #[.pointer r1] a4 fun a7 a6 => ∃ (a2 : Int), a7 = .returned (.int .i64 a2) ∧
 Keep [p3] a4 a6 ∧
 ∀ (a5 : World), Ext (fun b => b = p3) a6 a5 →
 Calls Try.prog 54 #[.pointer r1, .int .i64 7] a5 fun a8 a3 => ∃ (a0 : Int), a8 = .returned (.int .i64 a0) ∧
 Keep [p3] a5 a3 ∧
 ∀ (a1 : World), Ext (fun b => b = p3) a3 a1 →
 R (.agg #[.int .i64 a2, .int .i64 a0]) a1

theorem Q0I.up (r1 : Option Addr) {R : RW} {w : World} (h : Q0I.N r1 R w) : Q0I.M r1 R w := by
  unfold Q0I.M
  unfold Q0I.N at h
  refine Q01 fun ah e2 => ?_
  have a0 := Blk.of_new e2
  have af := ((Ext.refl no w)).size
  have ag := (Ext.refl no w).x_alloc e2
  have h := h ah (w.heap.size) ag (Priv.cons af a0.lt Priv.nil)
  refine h.mono fun al a9 h => ?_
  obtain ⟨a2, he, hk, h⟩ := h
  refine ⟨a2, he, ?_⟩
  have a0 := hk.blk a0 (by simp)
  have ak : Ext (fun b => b = w.heap.size) a9 a9 := ((Ext.refl no a9)).none
  refine ⟨a0.cani 0 rfl rfl, Q01 fun ai e7 => ?_⟩
  have ae := ak.x_set (q := w.heap.size) (i := 0) rfl (.inl rfl) e7
  have a0 := a0.seti 0 rfl e7
  have h := h ai ae
  refine h.mono fun am a3 h => ?_
  obtain ⟨a1, he, hk, h⟩ := h
  refine ⟨a1, he, ?_⟩
  have a0 := hk.blk a0 (by simp)
  have a6 : Ext (fun b => b = w.heap.size) a3 a3 := ((Ext.refl no a3)).none
  refine ⟨a0.cani 1 rfl rfl, Q01 fun aj aa => ?_⟩
  have a7 := a6.x_set (q := w.heap.size) (i := 1) rfl (.inl rfl) aa
  have a0 := a0.seti 1 rfl aa
  refine ⟨a2, a1, ⟨a0.celli 0 rfl rfl, a0.celli 1 rfl rfl, trivial⟩, ?_⟩
  refine ⟨a0.cani 0 rfl rfl, Q01 fun ad ab => ?_⟩
  have a8 := a7.x_set (q := w.heap.size) (i := 0) rfl (.inl rfl) ab
  have a0 := a0.seti 0 rfl ab
  refine ⟨a0.cani 1 rfl rfl, Q01 fun a4 ac => ?_⟩
  have a5 := a8.x_set (q := w.heap.size) (i := 1) rfl (.inl rfl) ac
  have a0 := a0.seti 1 rfl ac
  refine ⟨a2, a1, ⟨a0.celli 0 rfl rfl, a0.celli 1 rfl rfl, trivial⟩, ?_⟩
  have h := h a4 a5
  exact h

theorem Q0I.go (r1 : Option Addr) {R : RW} {w : World} (h : Q0I.N r1 R w) : Calls Try.prog 99 #[.pointer r1] w fun e w' => ∃ v, e = .returned v ∧ R v w' := Q0I.ok r1 (Q0I.up r1 h)
theorem Q0I.run (r1 : Option Addr) {V : Value} {Q : World → Prop} {w : World} (h : Q0I.N r1 (fun v w' => v = V ∧ Q w') w) : Calls Try.prog 99 #[.pointer r1] w (Ret V Q) := (Q0I.go r1 h).mono fun e w' ⟨v, he, hv, hq⟩ => ⟨by rw [he, hv], hq⟩

abbrev Q0g.J1 (j8 : Int) (I0 : Nat → List Value → World → Prop) (ag : Option Addr) (af m5 : Nat) (aa : Option Addr) (R : RW) (a9 : World) : Prop :=
 ag.elim False fun ae =>
 0 ≤ (j8 : Int) ∧ (j8 : Int) < (af : Int) ∧
 ∃ (ac : Int), a9.cell? (ae.add (Int.toNat j8 * 1)) = some (.int .u64 ac) ∧
 aa.elim False fun ah =>
 ∃ (a3 : Option Addr) (a4 a6 : Nat), a9.cell? ah = some (.slice a3 a4 a6) ∧
 Calls Try.prog 26 #[.slice a3 a4 a6, .int .u64 ac] a9 fun a8 a5 => ∃ (a2 : Option Addr) (a1 a0 : Nat), a8 = .returned (.slice a2 a1 a0) ∧
 aa.elim False fun ab =>
 Q02 a5 (ab.add 0) ∧
 thenW (a5.setCell (ab.add 0) (.slice a2 a1 a0)) fun a7 =>
 ∃ ad, ad < m5 ∧ I0 ad [.int .i64 (IntKind.i64.wrap (j8 + 1))] a7

def Q0g.M (a2 a3 : Option Addr) (a1 a4 : Nat) (R : RW) (w : World) : Prop :=
 ∃ (I0 : Nat → List Value → World → Prop) (m4 : Nat), I0 m4 [.int .i64 0] w ∧ ∀ (m5 : Nat) (a0 : World) (t3 : Int), I0 m5 [.int .i64 t3] a0 →
 bif decide (t3 < (a1 : Int)) then (
 Q0g.J1 t3 I0 a3 a1 m5 a2 R a0) else (
 R (.tuple #[]) a0)

theorem Q0g.ok (a2 a0 : Option Addr) (a1 a3 : Nat) {R : RW} {w : World} (h : Q0g.M a2 a0 a1 a3 R w) : Calls Try.prog 88 #[.pointer a2, .slice a0 a1 a3] w fun e w' => ∃ v, e = .returned v ∧ R v w' :=
  Q07 follows (H := [(0, [0, 6, 7], [(8, (.one (.int .i64)))])]) (args := [.pointer a2, .slice a0 a1 a3]) (cast (by kernel_rfl) h)

def Q0g.N (af ag : Option Addr) (ab ah : Nat) (R : RW) (w : World) : Prop :=
 ∃ (I0 : Nat → List Value → World → Prop) (m4 : Nat), I0 m4 [.int .i64 0] w ∧ ∀ (m5 : Nat) (a6 : World) (t3 : Int), I0 m5 [.int .i64 t3] a6 →
 (t3 < (ab : Int) →
 ∃ a8 : Addr, ag = some a8 ∧
 0 ≤ (t3 : Int) ∧ (t3 : Int) < (ab : Int) ∧
 ∃ (ad : Int), a6.cell? (a8.add (Int.toNat t3 * 1)) = some (.int .u64 ad) ∧
 ∃ a9 : Addr, af = some a9 ∧
 ∃ (a3 : Option Addr) (a4 a7 : Nat), a6.cell? a9 = some (.slice a3 a4 a7) ∧
 Calls Try.prog 26 #[.slice a3 a4 a7, .int .u64 ad] a6 fun ac a5 => ∃ (a2 : Option Addr) (a1 a0 : Nat), ac = .returned (.slice a2 a1 a0) ∧
 Q02 a5 (a9.add 0) ∧
 thenW (a5.setCell (a9.add 0) (.slice a2 a1 a0)) fun aa =>
 (-9223372036854775808 : Int) ≤ (t3 + 1) ∧ (t3 + 1) < 9223372036854775808 ∧
 ∃ ae, ae < m5 ∧ I0 ae [.int .i64 (t3 + 1)] aa) ∧
 ((ab : Int) ≤ t3 →
 R (.tuple #[]) a6)

theorem Q0g.up (aa ab : Option Addr) (a9 ac : Nat) {R : RW} {w : World} (h : Q0g.N aa ab a9 ac R w) : Q0g.M aa ab a9 ac R w := by
  unfold Q0g.M
  unfold Q0g.N at h
  obtain ⟨I0, m4, h0, h⟩ := h
  refine ⟨I0, m4, h0, fun m5 an t3 hI => ?_⟩
  have h := h m5 an t3 hI
  refine bif_fo (fun c7 => ?_) (fun c7 => ?_)
  ·have h := h.2 (Int.not_lt.1 (of_decide_eq_false c7))
   exact h
  have h := h.1 (of_decide_eq_true c7)
  unfold Q0g.J1
  obtain ⟨a8, ae, h⟩ := h
  refine Q0z ae ?_
  obtain ⟨af, ak, h⟩ := h
  refine ⟨af, ak, ?_⟩
  obtain ⟨aj, ag, h⟩ := h
  refine ⟨aj, ag, ?_⟩
  obtain ⟨aq, a3, h⟩ := h
  refine Q0z a3 ?_
  obtain ⟨a6, a4, a7, a5, h⟩ := h
  refine ⟨a6, a4, a7, a5, ?_⟩
  refine h.mono fun ao ah h => ?_
  obtain ⟨a1, a2, a0, he, h⟩ := h
  refine ⟨a1, a2, a0, he, ?_⟩
  refine Q0z a3 ?_
  obtain ⟨hcs, h⟩ := h
  refine ⟨hcs, Q01 fun ad am => ?_⟩
  replace h := Q11 h am
  obtain ⟨ai, al, h⟩ := h
  try rw [w64 ai al]
  obtain ⟨ap, hk, h⟩ := h
  exact ⟨ap, hk, h⟩

theorem Q0g.go (a2 a0 : Option Addr) (a1 a3 : Nat) {R : RW} {w : World} (h : Q0g.N a2 a0 a1 a3 R w) : Calls Try.prog 88 #[.pointer a2, .slice a0 a1 a3] w fun e w' => ∃ v, e = .returned v ∧ R v w' := Q0g.ok a2 a0 a1 a3 (Q0g.up a2 a0 a1 a3 h)
def Q0J.M (af aj aq av ax am : Int) (al : Option Addr) (ak an : Nat) (az : Int) (R : RW) (w : World) : Prop :=
 thenW (w.alloc (.cells #[.int .i64 af, .int .i64 aj, .int .u64 aq, .int .i64 av, .int .i64 ax, .int .i64 am, .slice al ak an, .int .u64 az] 27)) fun b6 =>
 thenW (b6.alloc (.cells #[.slice none 0 0] 113)) fun ah =>
 ∃ (a1 : Int), ah.cell? ((blk w.heap.size).add 0) = some (.int .i64 a1) ∧
 ∃ (a8 : Int), ah.cell? ((blk w.heap.size).add 1) = some (.int .i64 a8) ∧
 ∃ (ac : Int), ah.cell? ((blk w.heap.size).add 2) = some (.int .u64 ac) ∧
 thenW (ah.alloc (.cells #[.int .u64 (IntKind.u64.wrap a1), .int .u64 (IntKind.u64.wrap a8), .int .u64 ac] 22)) fun b8 =>
 Calls Try.prog 88 #[.pointer (some (blk b6.heap.size)), .slice (some (blk ah.heap.size)) 3 3] b8 fun b5 b2 => b5 = .returned (.tuple #[]) ∧
 thenW (b2.drew) fun ai =>
 ∃ (ay : Option Addr) (au ar : Nat), ai.cell? (blk b6.heap.size) = some (.slice ay au ar) ∧
 ∃ (ao ap : Int), cellsAt ai ((blk w.heap.size).add 3) [.int .i64 ao, .int .i64 ap] 0 ∧
 ∃ (a0 : Int), ai.cell? ((blk w.heap.size).add 5) = some (.int .i64 a0) ∧
 Calls Try.prog 90 #[.slice ay au ar, .agg #[.int .i64 ao, .int .i64 ap]] ai fun b1 b0 => ∃ (a9 : Option Addr) (ae aa : Nat), b1 = .returned (.slice a9 ae aa) ∧
 b0.cell? ((blk w.heap.size).add 5) = some (.int .i64 a0) ∧
 Calls Try.prog 89 #[.slice a9 ae aa, .int .i64 a0] b0 fun b7 aw => ∃ (ab : Option Addr) (ad ag : Nat), b7 = .returned (.slice ab ad ag) ∧
 ∃ (a7 : Option Addr) (a6 a5 : Nat), aw.cell? ((blk w.heap.size).add 6) = some (.slice a7 a6 a5) ∧
 Calls Try.prog 29 #[.slice ab ad ag, .slice a7 a6 a5] aw fun b3 b4 => ∃ (a4 : Option Addr) (a2 a3 : Nat), b3 = .returned (.slice a4 a2 a3) ∧
 R (.slice a4 a2 a3) b4

theorem Q0J.ok (a0 a4 a6 a9 a8 a1 : Int) (a3 : Option Addr) (a2 a5 : Nat) (a7 : Int) {R : RW} {w : World} (h : Q0J.M a0 a4 a6 a9 a8 a1 a3 a2 a5 a7 R w) : Calls Try.prog 76 #[.agg #[.int .i64 a0, .int .i64 a4, .int .u64 a6, .int .i64 a9, .int .i64 a8, .int .i64 a1, .slice a3 a2 a5, .int .u64 a7]] w fun e w' => ∃ v, e = .returned v ∧ R v w' :=
  Q07 follows (H := []) (args := [.agg #[.int .i64 a0, .int .i64 a4, .int .u64 a6, .int .i64 a9, .int .i64 a8, .int .i64 a1, .slice a3 a2 a5, .int .u64 a7]]) (cast (by kernel_rfl) h)

def Q0J.N (a7 ac ak ap ar af : Int) (ae : Option Addr) (ad ag : Nat) (b1 : Int) (R : RW) (w : World) : Prop :=
 ∀ (ab : World) (al au : Nat), Ext no w ab → Blk ab al 113 [.slice none 0 0] → w.heap.size ≤ al → al < ab.heap.size → Privq w al [au] →
 ∀ (a3 : World) (av : Nat), Ext no ab a3 → Blk a3 av 22 [.int .u64 (IntKind.u64.wrap a7), .int .u64 (IntKind.u64.wrap ac), .int .u64 ak] → ab.heap.size ≤ av → av < a3.heap.size →
 Calls Try.prog 88 #[.pointer (some (blk al)), .slice (some (blk av)) 3 3] a3 fun ay ai => ay = .returned (.tuple #[]) ∧
 Keep [au] a3 ai ∧
 ∃ (am : Option Addr) (an ao : Nat), ai.cell? (blk al) = some (.slice am an ao) ∧
 ∀ (ah : World), Ext no ai ah →
 Calls Try.prog 90 #[.slice am an ao, .agg #[.int .i64 ap, .int .i64 ar]] ah fun aw aj => ∃ (a8 : Option Addr) (aa a5 : Nat), aw = .returned (.slice a8 aa a5) ∧
 Keep [au] ah aj ∧
 Calls Try.prog 89 #[.slice a8 aa a5, .int .i64 af] aj fun b0 aq => ∃ (a4 : Option Addr) (a6 a9 : Nat), b0 = .returned (.slice a4 a6 a9) ∧
 Keep [au] aj aq ∧
 Calls Try.prog 29 #[.slice a4 a6 a9, .slice ae ad ag] aq fun ax az => ∃ (a0 : Option Addr) (a2 a1 : Nat), ax = .returned (.slice a0 a2 a1) ∧
 R (.slice a0 a2 a1) az

theorem Q0J.up (a0 a2 a7 a8 aa a5 : Int) (a4 : Option Addr) (a3 a6 : Nat) (ae : Int) {R : RW} {w : World} (h : Q0J.N a0 a2 a7 a8 aa a5 a4 a3 a6 ae R w) : Q0J.M a0 a2 a7 a8 aa a5 a4 a3 a6 ae R w := by
  unfold Q0J.M
  unfold Q0J.N at h
  refine Q01 fun b8 e9 => ?_
  have a1 := Blk.of_new e9
  have b0 := ((Ext.refl no w)).size
  have ax := (Ext.refl no w).x_alloc e9
  refine Q01 fun ad am => ?_
  have b2 := a1.lt
  have a1 := a1.x_alloc am
  have h := h ad b8.heap.size (w.heap.size) (ax.x_alloc am) (Blk.of_new am) (ax).size (Q0q am) (Privq.cons b0 b2 Privq.nil)
  refine ⟨a0, a1.celli 0 rfl rfl, ?_⟩
  refine ⟨a2, a1.celli 1 rfl rfl, ?_⟩
  refine ⟨a7, a1.celli 2 rfl rfl, ?_⟩
  refine Q01 fun ao an => ?_
  have a1 := a1.x_alloc an
  have h := h ao ad.heap.size ((Ext.refl no ad).x_alloc an) (Blk.of_new an) ((Ext.refl no ad)).size (Q0q an)
  refine h.mono fun b5 au h => ?_
  obtain ⟨he, hk, h⟩ := h
  refine ⟨he, ?_⟩
  have a1 := hk.blk a1 (by simp)
  refine Q01 fun ap ay => ?_
  have al := (Ext.refl no au).x_drew ay
  have a1 := a1.x_drew ay
  obtain ⟨aq, ar, aw, av, h⟩ := h
  refine ⟨aq, ar, aw, (al).cell av id, ?_⟩
  refine ⟨a8, aa, ⟨a1.celli 3 rfl rfl, a1.celli 4 rfl rfl, trivial⟩, ?_⟩
  refine ⟨a5, a1.celli 5 rfl rfl, ?_⟩
  have h := h ap al
  refine h.mono fun az b1 h => ?_
  obtain ⟨ai, ak, ag, he, hk, h⟩ := h
  refine ⟨ai, ak, ag, he, ?_⟩
  have a1 := hk.blk a1 (by simp)
  refine ⟨a1.celli 5 rfl rfl, ?_⟩
  refine h.mono fun b7 b3 h => ?_
  obtain ⟨af, ah, aj, he, hk, h⟩ := h
  refine ⟨af, ah, aj, he, ?_⟩
  have a1 := hk.blk a1 (by simp)
  refine ⟨a4, a3, a6, a1.celli 6 rfl rfl, ?_⟩
  refine h.mono fun b4 b6 h => ?_
  obtain ⟨a9, ac, ab, he, h⟩ := h
  refine ⟨a9, ac, ab, he, ?_⟩
  exact h

theorem Q0J.go (a0 a4 a6 a9 a8 a1 : Int) (a3 : Option Addr) (a2 a5 : Nat) (a7 : Int) {R : RW} {w : World} (h : Q0J.N a0 a4 a6 a9 a8 a1 a3 a2 a5 a7 R w) : Calls Try.prog 76 #[.agg #[.int .i64 a0, .int .i64 a4, .int .u64 a6, .int .i64 a9, .int .i64 a8, .int .i64 a1, .slice a3 a2 a5, .int .u64 a7]] w fun e w' => ∃ v, e = .returned v ∧ R v w' := Q0J.ok a0 a4 a6 a9 a8 a1 a3 a2 a5 a7 (Q0J.up a0 a4 a6 a9 a8 a1 a3 a2 a5 a7 h)
abbrev Q0w.J1 (aj : Addr) (R : RW) (an : World) : Prop :=
 thenW (an.drew) fun ah =>
 ∃ (a0 a3 a6 ac aa a5 : Int) (a2 : Option Addr) (a4 a1 : Nat) (ad : Int), cellsAt ah aj [.int .i64 a0, .int .i64 a3, .int .u64 a6, .int .i64 ac, .int .i64 aa, .int .i64 a5, .slice a2 a4 a1, .int .u64 ad] 0 ∧
 ∃ (ae : Int), ah.cell? (aj.add 7) = some (.int .u64 ae) ∧
 Calls Try.prog 76 #[.agg #[.int .i64 a0, .int .i64 a3, .int .u64 a6, .int .i64 ac, .int .i64 aa, .int .i64 a5, .slice a2 a4 a1, .int .u64 ad]] ah fun al ai => ∃ (a9 : Option Addr) (a8 a7 : Nat), al = .returned (.slice a9 a8 a7) ∧
 ai.cell? (aj.add 7) = some (.int .u64 ae) ∧
 Calls Try.prog 26 #[.slice a9 a8 a7, .int .u64 ae] ai fun am ak => ∃ (af : Option Addr) (ab ag : Nat), am = .returned (.slice af ab ag) ∧
 R (.tuple #[.slice af ab ag, .int .i64 0]) ak

def Q0w.M (aa ac ah ai aj af : Int) (ae : Option Addr) (ad ag : Nat) (al : Int) (R : RW) (w : World) : Prop :=
 thenW (w.alloc (.cells #[.int .i64 aa, .int .i64 ac, .int .u64 ah, .int .i64 ai, .int .i64 aj, .int .i64 af, .slice ae ad ag, .int .u64 al] 27)) fun an =>
 ∃ (a0 a4 a7 a9 ab a5 : Int) (a2 : Option Addr) (a3 a1 : Nat) (a8 : Int), cellsAt an (blk w.heap.size) [.int .i64 a0, .int .i64 a4, .int .u64 a7, .int .i64 a9, .int .i64 ab, .int .i64 a5, .slice a2 a3 a1, .int .u64 a8] 0 ∧
 Calls Try.prog 62 #[.agg #[.int .i64 a0, .int .i64 a4, .int .u64 a7, .int .i64 a9, .int .i64 ab, .int .i64 a5, .slice a2 a3 a1, .int .u64 a8]] an fun am ak => ∃ (a6 : Bool), am = .returned (.bool a6) ∧
 bif !a6 then (
 R (.tuple #[.slice none 0 0, .int .i64 1]) ak) else (
 Q0w.J1 (blk w.heap.size) R ak)

theorem Q0w.ok (a0 a4 a6 a9 a8 a1 : Int) (a3 : Option Addr) (a2 a5 : Nat) (a7 : Int) {R : RW} {w : World} (h : Q0w.M a0 a4 a6 a9 a8 a1 a3 a2 a5 a7 R w) : Calls Try.prog 58 #[.agg #[.int .i64 a0, .int .i64 a4, .int .u64 a6, .int .i64 a9, .int .i64 a8, .int .i64 a1, .slice a3 a2 a5, .int .u64 a7]] w fun e w' => ∃ v, e = .returned v ∧ R v w' :=
  Q07 follows (H := []) (args := [.agg #[.int .i64 a0, .int .i64 a4, .int .u64 a6, .int .i64 a9, .int .i64 a8, .int .i64 a1, .slice a3 a2 a5, .int .u64 a7]]) (cast (by kernel_rfl) h)

def Q0w.N (a0 a1 a6 ae af a4 : Int) (a3 : Option Addr) (a2 a5 : Nat) (aa : Int) (R : RW) (w : World) : Prop :=
 ((Q06.F a0 a1 a6 ae af a4 a3 a2 a5 aa) = false →
 ∀ (ai : World), Ext no w ai →
 R (.tuple #[.slice none 0 0, .int .i64 1]) ai) ∧
 ((Q06.F a0 a1 a6 ae af a4 a3 a2 a5 aa) = true →
 ∀ (ag : World) (am : Nat), Ext no w ag → Priv w ag [am] →
 Calls Try.prog 76 #[.agg #[.int .i64 a0, .int .i64 a1, .int .u64 a6, .int .i64 ae, .int .i64 af, .int .i64 a4, .slice a3 a2 a5, .int .u64 aa]] ag fun aj ah => ∃ (a8 : Option Addr) (a9 a7 : Nat), aj = .returned (.slice a8 a9 a7) ∧
 Keep [am] ag ah ∧
 Calls Try.prog 26 #[.slice a8 a9 a7, .int .u64 aa] ah fun al ak => ∃ (ad : Option Addr) (ab ac : Nat), al = .returned (.slice ad ab ac) ∧
 R (.tuple #[.slice ad ab ac, .int .i64 0]) ak)

theorem Q0w.up (a0 a1 a6 a9 aa a4 : Int) (a3 : Option Addr) (a2 a5 : Nat) (a8 : Int) {R : RW} {w : World} (h : Q0w.N a0 a1 a6 a9 aa a4 a3 a2 a5 a8 R w) : Q0w.M a0 a1 a6 a9 aa a4 a3 a2 a5 a8 R w := by
  unfold Q0w.M
  unfold Q0w.N at h
  refine Q01 fun au e9 => ?_
  have a7 := Blk.of_new e9
  have an := ((Ext.refl no w)).size
  have ao := (Ext.refl no w).x_alloc e9
  refine ⟨a0, a1, a6, a9, aa, a4, a3, a2, a5, a8, ⟨a7.celli 0 rfl rfl, a7.celli 1 rfl rfl, a7.celli 2 rfl rfl, a7.celli 3 rfl rfl, a7.celli 4 rfl rfl, a7.celli 5 rfl rfl, a7.celli 6 rfl rfl, a7.celli 7 rfl rfl, trivial⟩, ?_⟩
  refine (Q06.pure a0 a1 a6 a9 aa a4 a3 a2 a5 a8).mono fun ee ww10 ⟨he, hxx⟩ => ⟨(Q06.F a0 a1 a6 a9 aa a4 a3 a2 a5 a8), he, ?_⟩
  have ah := ao.trans hxx
  have a7 := a7.ext hxx id
  refine bif_of (fun ak => ?_) (fun ak => ?_)
  ·have h := h.1 (not_t ak)
   have h := h ww10 ah
   exact h
  have h := h.2 (not_f ak)
  unfold Q0w.J1
  refine Q01 fun ai al => ?_
  have aj := ah.x_drew al
  have a7 := a7.x_drew al
  refine ⟨a0, a1, a6, a9, aa, a4, a3, a2, a5, a8, ⟨a7.celli 0 rfl rfl, a7.celli 1 rfl rfl, a7.celli 2 rfl rfl, a7.celli 3 rfl rfl, a7.celli 4 rfl rfl, a7.celli 5 rfl rfl, a7.celli 6 rfl rfl, a7.celli 7 rfl rfl, trivial⟩, ?_⟩
  refine ⟨a8, a7.celli 7 rfl rfl, ?_⟩
  have h := h ai (w.heap.size) aj (Priv.cons an a7.lt Priv.nil)
  refine h.mono fun ap am h => ?_
  obtain ⟨ac, ad, ab, he, hk, h⟩ := h
  refine ⟨ac, ad, ab, he, ?_⟩
  have a7 := hk.blk a7 (by simp)
  refine ⟨a7.celli 7 rfl rfl, ?_⟩
  refine h.mono fun ar aq h => ?_
  obtain ⟨ag, ae, af, he, h⟩ := h
  refine ⟨ag, ae, af, he, ?_⟩
  exact h

theorem Q0w.go (a0 a4 a6 a9 a8 a1 : Int) (a3 : Option Addr) (a2 a5 : Nat) (a7 : Int) {R : RW} {w : World} (h : Q0w.N a0 a4 a6 a9 a8 a1 a3 a2 a5 a7 R w) : Calls Try.prog 58 #[.agg #[.int .i64 a0, .int .i64 a4, .int .u64 a6, .int .i64 a9, .int .i64 a8, .int .i64 a1, .slice a3 a2 a5, .int .u64 a7]] w fun e w' => ∃ v, e = .returned v ∧ R v w' := Q0w.ok a0 a4 a6 a9 a8 a1 a3 a2 a5 a7 (Q0w.up a0 a4 a6 a9 a8 a1 a3 a2 a5 a7 h)
abbrev Q0B.J1 (cd : Int) (cb a0 : Addr) (R : RW) (c8 : World) : Prop :=
 Q02 c8 ((cb.add 5).add 0) ∧
 thenW (c8.setCell ((cb.add 5).add 0) (.int .i64 cd)) fun bk =>
 ∃ (bh : Int), bk.cell? (cb.add 5) = some (.int .i64 bh) ∧
 bif bh != cd then (
 Q02 bk (a0.add 0) ∧
 thenW (bk.setCell (a0.add 0) (.int .i64 0)) fun c9 =>
 Q02 c9 (a0.add 1) ∧
 thenW (c9.setCell (a0.add 1) (.int .i64 0)) fun ca =>
 Q02 ca (a0.add 2) ∧
 thenW (ca.setCell (a0.add 2) (.int .u64 0)) fun bt =>
 Q02 bt (a0.add 3) ∧
 thenW (bt.setCell (a0.add 3) (.int .i64 0)) fun bp =>
 Q02 bp (a0.add 4) ∧
 thenW (bp.setCell (a0.add 4) (.int .i64 0)) fun bm =>
 Q02 bm (a0.add 5) ∧
 thenW (bm.setCell (a0.add 5) (.int .i64 0)) fun bu =>
 Q02 bu (a0.add 6) ∧
 thenW (bu.setCell (a0.add 6) (.slice none 0 0)) fun bz =>
 Q02 bz (a0.add 7) ∧
 thenW (bz.setCell (a0.add 7) (.int .u64 0)) fun bn =>
 ∃ (a1 a7 an b0 b3 ae : Int) (a5 : Option Addr) (ad a9 : Nat) (b5 : Int), cellsAt bn a0 [.int .i64 a1, .int .i64 a7, .int .u64 an, .int .i64 b0, .int .i64 b3, .int .i64 ae, .slice a5 ad a9, .int .u64 b5] 0 ∧
 R (.tuple #[.agg #[.int .i64 a1, .int .i64 a7, .int .u64 an, .int .i64 b0, .int .i64 b3, .int .i64 ae, .slice a5 ad a9, .int .u64 b5], .int .i64 4]) bn) else (
 ∃ (am au bb bi be b7 : Int) (b2 : Option Addr) (ap av : Nat) (bg : Int), cellsAt bk cb [.int .i64 am, .int .i64 au, .int .u64 bb, .int .i64 bi, .int .i64 be, .int .i64 b7, .slice b2 ap av, .int .u64 bg] 0 ∧
 Calls Try.prog 62 #[.agg #[.int .i64 am, .int .i64 au, .int .u64 bb, .int .i64 bi, .int .i64 be, .int .i64 b7, .slice b2 ap av, .int .u64 bg]] bk fun cc b9 => ∃ (ba : Bool), cc = .returned (.bool ba) ∧
 bif !ba then (
 Q02 b9 (a0.add 0) ∧
 thenW (b9.setCell (a0.add 0) (.int .i64 0)) fun c1 =>
 Q02 c1 (a0.add 1) ∧
 thenW (c1.setCell (a0.add 1) (.int .i64 0)) fun bl =>
 Q02 bl (a0.add 2) ∧
 thenW (bl.setCell (a0.add 2) (.int .u64 0)) fun bw =>
 Q02 bw (a0.add 3) ∧
 thenW (bw.setCell (a0.add 3) (.int .i64 0)) fun c6 =>
 Q02 c6 (a0.add 4) ∧
 thenW (c6.setCell (a0.add 4) (.int .i64 0)) fun bq =>
 Q02 bq (a0.add 5) ∧
 thenW (bq.setCell (a0.add 5) (.int .i64 0)) fun br =>
 Q02 br (a0.add 6) ∧
 thenW (br.setCell (a0.add 6) (.slice none 0 0)) fun c3 =>
 Q02 c3 (a0.add 7) ∧
 thenW (c3.setCell (a0.add 7) (.int .u64 0)) fun bx =>
 ∃ (a3 a8 ak ay ar a4 : Int) (aa : Option Addr) (ai ah : Nat) (b1 : Int), cellsAt bx a0 [.int .i64 a3, .int .i64 a8, .int .u64 ak, .int .i64 ay, .int .i64 ar, .int .i64 a4, .slice aa ai ah, .int .u64 b1] 0 ∧
 R (.tuple #[.agg #[.int .i64 a3, .int .i64 a8, .int .u64 ak, .int .i64 ay, .int .i64 ar, .int .i64 a4, .slice aa ai ah, .int .u64 b1], .int .i64 4]) bx) else (
 ∃ (al b8 bc bf bj b6 : Int) (ao : Option Addr) (ax aq : Nat) (bd : Int), cellsAt b9 cb [.int .i64 al, .int .i64 b8, .int .u64 bc, .int .i64 bf, .int .i64 bj, .int .i64 b6, .slice ao ax aq, .int .u64 bd] 0 ∧
 Q02 b9 (a0.add 0) ∧
 thenW (b9.setCell (a0.add 0) (.int .i64 al)) fun c4 =>
 Q02 c4 (a0.add 1) ∧
 thenW (c4.setCell (a0.add 1) (.int .i64 b8)) fun bv =>
 Q02 bv (a0.add 2) ∧
 thenW (bv.setCell (a0.add 2) (.int .u64 bc)) fun c5 =>
 Q02 c5 (a0.add 3) ∧
 thenW (c5.setCell (a0.add 3) (.int .i64 bf)) fun c7 =>
 Q02 c7 (a0.add 4) ∧
 thenW (c7.setCell (a0.add 4) (.int .i64 bj)) fun bs =>
 Q02 bs (a0.add 5) ∧
 thenW (bs.setCell (a0.add 5) (.int .i64 b6)) fun c0 =>
 Q02 c0 (a0.add 6) ∧
 thenW (c0.setCell (a0.add 6) (.slice ao ax aq)) fun c2 =>
 Q02 c2 (a0.add 7) ∧
 thenW (c2.setCell (a0.add 7) (.int .u64 bd)) fun bo =>
 ∃ (a2 a6 aj az b4 ac : Int) (af : Option Addr) (ag ab : Nat) (aw : Int), cellsAt bo a0 [.int .i64 a2, .int .i64 a6, .int .u64 aj, .int .i64 az, .int .i64 b4, .int .i64 ac, .slice af ag ab, .int .u64 aw] 0 ∧
 R (.tuple #[.agg #[.int .i64 a2, .int .i64 a6, .int .u64 aj, .int .i64 az, .int .i64 b4, .int .i64 ac, .slice af ag ab, .int .u64 aw], .int .i64 0]) bo))

def Q0B.M (bp : Option Addr) (bo bk : Nat) (R : RW) (w : World) : Prop :=
 thenW (w.alloc (.cells #[.int .i64 0, .int .i64 0, .int .u64 0, .int .i64 0, .int .i64 0, .int .i64 0, .slice none 0 0, .int .u64 0] 27)) fun bm =>
 Calls Try.prog 33 #[.slice bp bo bk] bm fun bl ae => ∃ (a0 : Option Addr), bl = .returned (.pointer a0) ∧
 thenW (ae.alloc (.cells #[.int .i64 0, .int .i64 0, .int .u64 0, .int .i64 0, .int .i64 0, .int .i64 0, .slice none 0 0, .int .u64 0] 27)) fun bn =>
 Calls Try.prog 54 #[.pointer a0, .int .i64 7] bn fun bj bh => ∃ (ah : Int), bj = .returned (.int .i64 ah) ∧
 Q02 bh (((blk ae.heap.size).add 0).add 0) ∧
 thenW (bh.setCell (((blk ae.heap.size).add 0).add 0) (.int .i64 ah)) fun bf =>
 Calls Try.prog 54 #[.pointer a0, .int .i64 199] bf fun b3 am => ∃ (ag : Int), b3 = .returned (.int .i64 ag) ∧
 Q02 am (((blk ae.heap.size).add 1).add 0) ∧
 thenW (am.setCell (((blk ae.heap.size).add 1).add 0) (.int .i64 ag)) fun be =>
 Calls Try.prog 71 #[.pointer a0] be fun ba an => ∃ (aj : Int), ba = .returned (.int .u64 aj) ∧
 Q02 an (((blk ae.heap.size).add 2).add 0) ∧
 thenW (an.setCell (((blk ae.heap.size).add 2).add 0) (.int .u64 aj)) fun b5 =>
 Calls Try.prog 99 #[.pointer a0] b5 fun b2 au => ∃ (bi bg : Int), b2 = .returned (.agg #[.int .i64 bi, .int .i64 bg]) ∧
 Q02 au (((blk ae.heap.size).add 3).add 0) ∧
 thenW (au.setCell (((blk ae.heap.size).add 3).add 0) (.int .i64 bi)) fun b1 =>
 Q02 b1 (((blk ae.heap.size).add 3).add 1) ∧
 thenW (b1.setCell (((blk ae.heap.size).add 3).add 1) (.int .i64 bg)) fun bb =>
 Calls Try.prog 100 #[.pointer a0] bb fun bc b7 => ∃ (ak : Int), bc = .returned (.int .i64 ak) ∧
 Calls Try.prog 55 #[.pointer a0, .int .i64 1100] b7 fun bd az => ∃ (aa : Option Addr) (ac a9 : Nat), bd = .returned (.slice aa ac a9) ∧
 Q02 az (((blk ae.heap.size).add 6).add 0) ∧
 thenW (az.setCell (((blk ae.heap.size).add 6).add 0) (.slice aa ac a9)) fun b6 =>
 Calls Try.prog 71 #[.pointer a0] b6 fun b9 av => ∃ (ai : Int), b9 = .returned (.int .u64 ai) ∧
 Q02 av (((blk ae.heap.size).add 7).add 0) ∧
 thenW (av.setCell (((blk ae.heap.size).add 7).add 0) (.int .u64 ai)) fun b8 =>
 Calls Try.prog 56 #[.pointer a0] b8 fun b4 al => ∃ (af : Int), b4 = .returned (.int .i64 af) ∧
 bif af != 0 then (
 Q02 al ((blk w.heap.size).add 0) ∧
 thenW (al.setCell ((blk w.heap.size).add 0) (.int .i64 0)) fun ap =>
 Q02 ap ((blk w.heap.size).add 1) ∧
 thenW (ap.setCell ((blk w.heap.size).add 1) (.int .i64 0)) fun ax =>
 Q02 ax ((blk w.heap.size).add 2) ∧
 thenW (ax.setCell ((blk w.heap.size).add 2) (.int .u64 0)) fun aw =>
 Q02 aw ((blk w.heap.size).add 3) ∧
 thenW (aw.setCell ((blk w.heap.size).add 3) (.int .i64 0)) fun b0 =>
 Q02 b0 ((blk w.heap.size).add 4) ∧
 thenW (b0.setCell ((blk w.heap.size).add 4) (.int .i64 0)) fun ao =>
 Q02 ao ((blk w.heap.size).add 5) ∧
 thenW (ao.setCell ((blk w.heap.size).add 5) (.int .i64 0)) fun ay =>
 Q02 ay ((blk w.heap.size).add 6) ∧
 thenW (ay.setCell ((blk w.heap.size).add 6) (.slice none 0 0)) fun aq =>
 Q02 aq ((blk w.heap.size).add 7) ∧
 thenW (aq.setCell ((blk w.heap.size).add 7) (.int .u64 0)) fun ar =>
 ∃ (a1 a6 a7 ad a8 a2 : Int) (a4 : Option Addr) (a5 a3 : Nat) (ab : Int), cellsAt ar (blk w.heap.size) [.int .i64 a1, .int .i64 a6, .int .u64 a7, .int .i64 ad, .int .i64 a8, .int .i64 a2, .slice a4 a5 a3, .int .u64 ab] 0 ∧
 R (.tuple #[.agg #[.int .i64 a1, .int .i64 a6, .int .u64 a7, .int .i64 ad, .int .i64 a8, .int .i64 a2, .slice a4 a5 a3, .int .u64 ab], .int .i64 af]) ar) else (
 Q0B.J1 ak (blk ae.heap.size) (blk w.heap.size) R al)

theorem Q0B.ok (a1 : Option Addr) (a0 a2 : Nat) {R : RW} {w : World} (h : Q0B.M a1 a0 a2 R w) : Calls Try.prog 98 #[.slice a1 a0 a2] w fun e w' => ∃ v, e = .returned v ∧ R v w' :=
  Q07 follows (H := []) (args := [.slice a1 a0 a2]) (cast (by kernel_rfl) h)

def Q0B.N (b9 : Option Addr) (b8 b7 : Nat) (R : RW) (w : World) : Prop :=
 ∀ (av : World) (p3 : Nat), Ext no w av → Priv w av [p3] →
 Calls Try.prog 33 #[.slice b9 b8 b7] av fun ba b2 => ∃ (a0 : Option Addr), ba = .returned (.pointer a0) ∧
 Keep [p3] av b2 ∧
 ∀ (aw : World) (p8 : Nat), Ext no b2 aw → Priv b2 aw [p8] →
 Calls Try.prog 54 #[.pointer a0, .int .i64 7] aw fun az am => ∃ (a7 : Int), az = .returned (.int .i64 a7) ∧
 Keep [p3, p8] aw am ∧
 ∀ (ab : World), Ext (fun b => b = p8) am ab →
 Calls Try.prog 54 #[.pointer a0, .int .i64 199] ab fun b6 ao => ∃ (a5 : Int), b6 = .returned (.int .i64 a5) ∧
 Keep [p3, p8] ab ao ∧
 ∀ (ad : World), Ext (fun b => b = p8) ao ad →
 Calls Try.prog 71 #[.pointer a0] ad fun b5 ar => ∃ (a9 : Int), b5 = .returned (.int .u64 a9) ∧
 Keep [p3, p8] ad ar ∧
 ∀ (ag : World), Ext (fun b => b = p8) ar ag →
 Calls Try.prog 99 #[.pointer a0] ag fun ay aq => ∃ (ax au : Int), ay = .returned (.agg #[.int .i64 ax, .int .i64 au]) ∧
 Keep [p3, p8] ag aq ∧
 ∀ (ah : World), Ext (fun b => b = p8) aq ah →
 Calls Try.prog 100 #[.pointer a0] ah fun b0 ae => ∃ (a4 : Int), b0 = .returned (.int .i64 a4) ∧
 Keep [p3, p8] ah ae ∧
 Calls Try.prog 55 #[.pointer a0, .int .i64 1100] ae fun b3 ap => ∃ (a2 : Option Addr) (a1 a3 : Nat), b3 = .returned (.slice a2 a1 a3) ∧
 Keep [p3, p8] ae ap ∧
 ∀ (ac : World), Ext (fun b => b = p8) ap ac →
 Calls Try.prog 71 #[.pointer a0] ac fun b1 ai => ∃ (a8 : Int), b1 = .returned (.int .u64 a8) ∧
 Keep [p3, p8] ac ai ∧
 ∀ (af : World), Ext (fun b => b = p8) ai af →
 Calls Try.prog 56 #[.pointer a0] af fun b4 aa => ∃ (a6 : Int), b4 = .returned (.int .i64 a6) ∧
 Keep [p3, p8] af aa ∧
 (a6 ≠ 0 →
 ∀ (al : World), Ext (fun b => b = p3) aa al →
 R (.tuple #[.agg #[.int .i64 0, .int .i64 0, .int .u64 0, .int .i64 0, .int .i64 0, .int .i64 0, .slice none 0 0, .int .u64 0], .int .i64 a6]) al) ∧
 (a6 = 0 →
 (a4 ≠ a4 →
 ∀ (aj : World), Ext (fun b => b = p3 ∨ b = p8) aa aj →
 R (.tuple #[.agg #[.int .i64 0, .int .i64 0, .int .u64 0, .int .i64 0, .int .i64 0, .int .i64 0, .slice none 0 0, .int .u64 0], .int .i64 4]) aj) ∧
 (a4 = a4 →
 ((Q06.F a7 a5 a9 ax au a4 a2 a1 a3 a8) = false →
 ∀ (an : World), Ext (fun b => b = p3 ∨ b = p8) aa an →
 R (.tuple #[.agg #[.int .i64 0, .int .i64 0, .int .u64 0, .int .i64 0, .int .i64 0, .int .i64 0, .slice none 0 0, .int .u64 0], .int .i64 4]) an) ∧
 ((Q06.F a7 a5 a9 ax au a4 a2 a1 a3 a8) = true →
 ∀ (ak : World), Ext (fun b => b = p3 ∨ b = p8) aa ak →
 R (.tuple #[.agg #[.int .i64 a7, .int .i64 a5, .int .u64 a9, .int .i64 ax, .int .i64 au, .int .i64 a4, .slice a2 a1 a3, .int .u64 a8], .int .i64 0]) ak)))

theorem Q0B.up (dr : Option Addr) (dq eh : Nat) {R : RW} {w : World} (h : Q0B.N dr dq eh R w) : Q0B.M dr dq eh R w := by
  unfold Q0B.M
  unfold Q0B.N at h
  refine Q01 fun er e2 => ?_
  have a0 := Blk.of_new e2
  have f1 := ((Ext.refl no w)).size
  have eo := (Ext.refl no w).x_alloc e2
  have h := h er (w.heap.size) eo (Priv.cons f1 a0.lt Priv.nil)
  refine h.mono fun f3 a8 h => ?_
  obtain ⟨ap, he, hk, h⟩ := h
  refine ⟨ap, he, ?_⟩
  have a0 := hk.blk a0 (by simp)
  refine Q01 fun eq e7 => ?_
  have a6 := Blk.of_new e7
  have ez := ((Ext.refl no a8)).size
  have ab := Nat.ne_of_lt a0.lt
  have a0 := a0.x_alloc e7
  have ev := (Ext.refl no a8).x_alloc e7
  have h := h eq (a8.heap.size) ev (Priv.cons ez a6.lt Priv.nil)
  refine h.mono fun ep ah h => ?_
  obtain ⟨a2, he, hk, h⟩ := h
  refine ⟨a2, he, ?_⟩
  have a0 := hk.blk a0 (by simp)
  have a6 := hk.blk a6 (by simp)
  have bf : Ext (fun b => b = a8.heap.size) ah ah := ((Ext.refl no ah)).none
  refine ⟨a6.cani 0 rfl rfl, Q01 fun am bt => ?_⟩
  have db := bf.x_set (q := a8.heap.size) (i := 0) rfl (.inl rfl) bt
  have a0 := a0.oth (q := a8.heap.size) (i := 0) rfl ab bt
  have a6 : Blk am a8.heap.size 27 [.int .i64 a2, .int .i64 0, .int .u64 0, .int .i64 0, .int .i64 0, .int .i64 0, .slice none 0 0, .int .u64 0] := a6.seti 0 rfl bt
  have h := h am db
  refine h.mono fun f0 ak h => ?_
  obtain ⟨a1, he, hk, h⟩ := h
  refine ⟨a1, he, ?_⟩
  have a0 := hk.blk a0 (by simp)
  have a6 := hk.blk a6 (by simp)
  have bu : Ext (fun b => b = a8.heap.size) ak ak := ((Ext.refl no ak)).none
  refine ⟨a6.cani 1 rfl rfl, Q01 fun an d0 => ?_⟩
  have cz := bu.x_set (q := a8.heap.size) (i := 1) rfl (.inl rfl) d0
  have a0 := a0.oth (q := a8.heap.size) (i := 1) rfl ab d0
  have a6 : Blk an a8.heap.size 27 [.int .i64 a2, .int .i64 a1, .int .u64 0, .int .i64 0, .int .i64 0, .int .i64 0, .slice none 0 0, .int .u64 0] := a6.seti 1 rfl d0
  have h := h an cz
  refine h.mono fun et ai h => ?_
  obtain ⟨a7, he, hk, h⟩ := h
  refine ⟨a7, he, ?_⟩
  have a0 := hk.blk a0 (by simp)
  have a6 := hk.blk a6 (by simp)
  have bc : Ext (fun b => b = a8.heap.size) ai ai := ((Ext.refl no ai)).none
  refine ⟨a6.cani 2 rfl rfl, Q01 fun aw ca => ?_⟩
  have d1 := bc.x_set (q := a8.heap.size) (i := 2) rfl (.inl rfl) ca
  have a0 := a0.oth (q := a8.heap.size) (i := 2) rfl ab ca
  have a6 : Blk aw a8.heap.size 27 [.int .i64 a2, .int .i64 a1, .int .u64 a7, .int .i64 0, .int .i64 0, .int .i64 0, .slice none 0 0, .int .u64 0] := a6.seti 2 rfl ca
  have h := h aw d1
  refine h.mono fun eu af h => ?_
  obtain ⟨ad, ae, he, hk, h⟩ := h
  refine ⟨ad, ae, he, ?_⟩
  have a0 := hk.blk a0 (by simp)
  have a6 := hk.blk a6 (by simp)
  have bs : Ext (fun b => b = a8.heap.size) af af := ((Ext.refl no af)).none
  refine ⟨a6.cani 3 rfl rfl, Q01 fun c1 cn => ?_⟩
  have b8 := bs.x_set (q := a8.heap.size) (i := 3) rfl (.inl rfl) cn
  have a0 := a0.oth (q := a8.heap.size) (i := 3) rfl ab cn
  have a6 : Blk c1 a8.heap.size 27 [.int .i64 a2, .int .i64 a1, .int .u64 a7, .int .i64 ad, .int .i64 0, .int .i64 0, .slice none 0 0, .int .u64 0] := a6.seti 3 rfl cn
  refine ⟨a6.cani 4 rfl rfl, Q01 fun aq c9 => ?_⟩
  have bv := b8.x_set (q := a8.heap.size) (i := 4) rfl (.inl rfl) c9
  have a0 := a0.oth (q := a8.heap.size) (i := 4) rfl ab c9
  have a6 : Blk aq a8.heap.size 27 [.int .i64 a2, .int .i64 a1, .int .u64 a7, .int .i64 ad, .int .i64 ae, .int .i64 0, .slice none 0 0, .int .u64 0] := a6.seti 4 rfl c9
  have h := h aq bv
  refine h.mono fun es ew h => ?_
  obtain ⟨a9, he, hk, h⟩ := h
  refine ⟨a9, he, ?_⟩
  have a0 := hk.blk a0 (by simp)
  have a6 := hk.blk a6 (by simp)
  refine h.mono fun f2 al h => ?_
  obtain ⟨a5, a4, a3, he, hk, h⟩ := h
  refine ⟨a5, a4, a3, he, ?_⟩
  have a0 := hk.blk a0 (by simp)
  have a6 := hk.blk a6 (by simp)
  have ci : Ext (fun b => b = a8.heap.size) al al := ((Ext.refl no al)).none
  refine ⟨a6.cani 6 rfl rfl, Q01 fun ax cx => ?_⟩
  have cl := ci.x_set (q := a8.heap.size) (i := 6) rfl (.inl rfl) cx
  have a0 := a0.oth (q := a8.heap.size) (i := 6) rfl ab cx
  have a6 : Blk ax a8.heap.size 27 [.int .i64 a2, .int .i64 a1, .int .u64 a7, .int .i64 ad, .int .i64 ae, .int .i64 0, .slice a5 a4 a3, .int .u64 0] := a6.seti 6 rfl cx
  have h := h ax cl
  refine h.mono fun ex ag h => ?_
  obtain ⟨aa, he, hk, h⟩ := h
  refine ⟨aa, he, ?_⟩
  have a0 := hk.blk a0 (by simp)
  have a6 := hk.blk a6 (by simp)
  have c3 : Ext (fun b => b = a8.heap.size) ag ag := ((Ext.refl no ag)).none
  refine ⟨a6.cani 7 rfl rfl, Q01 fun au bn => ?_⟩
  have cj := c3.x_set (q := a8.heap.size) (i := 7) rfl (.inl rfl) bn
  have a0 := a0.oth (q := a8.heap.size) (i := 7) rfl ab bn
  have a6 : Blk au a8.heap.size 27 [.int .i64 a2, .int .i64 a1, .int .u64 a7, .int .i64 ad, .int .i64 ae, .int .i64 0, .slice a5 a4 a3, .int .u64 aa] := a6.seti 7 rfl bn
  have h := h au cj
  refine h.mono fun ey ac h => ?_
  obtain ⟨aj, he, hk, h⟩ := h
  refine ⟨aj, he, ?_⟩
  have a0 := hk.blk a0 (by simp)
  have a6 := hk.blk a6 (by simp)
  refine bif_of (fun bq => ?_) (fun bq => ?_)
  ·have h := h.1 (bne_t bq)
   have di : Ext (fun b => b = w.heap.size) ac ac := ((Ext.refl no ac)).none
   refine ⟨a0.cani 0 rfl rfl, Q01 fun c7 ds => ?_⟩
   have cy := di.x_set (q := w.heap.size) (i := 0) rfl (.inl rfl) ds
   have a0 : Blk c7 w.heap.size 27 [.int .i64 0, .int .i64 0, .int .u64 0, .int .i64 0, .int .i64 0, .int .i64 0, .slice none 0 0, .int .u64 0] := a0.seti 0 rfl ds
   refine ⟨a0.cani 1 rfl rfl, Q01 fun bp em => ?_⟩
   have bx := cy.x_set (q := w.heap.size) (i := 1) rfl (.inl rfl) em
   have a0 : Blk bp w.heap.size 27 [.int .i64 0, .int .i64 0, .int .u64 0, .int .i64 0, .int .i64 0, .int .i64 0, .slice none 0 0, .int .u64 0] := a0.seti 1 rfl em
   refine ⟨a0.cani 2 rfl rfl, Q01 fun cm dw => ?_⟩
   have df := bx.x_set (q := w.heap.size) (i := 2) rfl (.inl rfl) dw
   have a0 : Blk cm w.heap.size 27 [.int .i64 0, .int .i64 0, .int .u64 0, .int .i64 0, .int .i64 0, .int .i64 0, .slice none 0 0, .int .u64 0] := a0.seti 2 rfl dw
   refine ⟨a0.cani 3 rfl rfl, Q01 fun cg en => ?_⟩
   have ce := df.x_set (q := w.heap.size) (i := 3) rfl (.inl rfl) en
   have a0 : Blk cg w.heap.size 27 [.int .i64 0, .int .i64 0, .int .u64 0, .int .i64 0, .int .i64 0, .int .i64 0, .slice none 0 0, .int .u64 0] := a0.seti 3 rfl en
   refine ⟨a0.cani 4 rfl rfl, Q01 fun bw dp => ?_⟩
   have dj := ce.x_set (q := w.heap.size) (i := 4) rfl (.inl rfl) dp
   have a0 : Blk bw w.heap.size 27 [.int .i64 0, .int .i64 0, .int .u64 0, .int .i64 0, .int .i64 0, .int .i64 0, .slice none 0 0, .int .u64 0] := a0.seti 4 rfl dp
   refine ⟨a0.cani 5 rfl rfl, Q01 fun cd ec => ?_⟩
   have da := dj.x_set (q := w.heap.size) (i := 5) rfl (.inl rfl) ec
   have a0 : Blk cd w.heap.size 27 [.int .i64 0, .int .i64 0, .int .u64 0, .int .i64 0, .int .i64 0, .int .i64 0, .slice none 0 0, .int .u64 0] := a0.seti 5 rfl ec
   refine ⟨a0.cani 6 rfl rfl, Q01 fun cs eb => ?_⟩
   have cr := da.x_set (q := w.heap.size) (i := 6) rfl (.inl rfl) eb
   have a0 : Blk cs w.heap.size 27 [.int .i64 0, .int .i64 0, .int .u64 0, .int .i64 0, .int .i64 0, .int .i64 0, .slice none 0 0, .int .u64 0] := a0.seti 6 rfl eb
   refine ⟨a0.cani 7 rfl rfl, Q01 fun b1 dt => ?_⟩
   have cw := cr.x_set (q := w.heap.size) (i := 7) rfl (.inl rfl) dt
   have a0 : Blk b1 w.heap.size 27 [.int .i64 0, .int .i64 0, .int .u64 0, .int .i64 0, .int .i64 0, .int .i64 0, .slice none 0 0, .int .u64 0] := a0.seti 7 rfl dt
   refine ⟨0, 0, 0, 0, 0, 0, none, 0, 0, 0, ⟨a0.celli 0 rfl rfl, a0.celli 1 rfl rfl, a0.celli 2 rfl rfl, a0.celli 3 rfl rfl, a0.celli 4 rfl rfl, a0.celli 5 rfl rfl, a0.celli 6 rfl rfl, a0.celli 7 rfl rfl, trivial⟩, ?_⟩
   have h := h b1 cw
   exact h
  have h := h.2 (bne_f bq)
  unfold Q0B.J1
  have c8 : Ext (fun b => b = a8.heap.size) ac ac := ((Ext.refl no ac)).none
  refine ⟨a6.cani 5 rfl rfl, Q01 fun ar ba => ?_⟩
  have b0 := c8.x_set (q := a8.heap.size) (i := 5) rfl (.inl rfl) ba
  have a0 := a0.oth (q := a8.heap.size) (i := 5) rfl ab ba
  have a6 : Blk ar a8.heap.size 27 [.int .i64 a2, .int .i64 a1, .int .u64 a7, .int .i64 ad, .int .i64 ae, .int .i64 a9, .slice a5 a4 a3, .int .u64 aa] := a6.seti 5 rfl ba
  refine ⟨a9, a6.celli 5 rfl rfl, ?_⟩
  refine bif_of (fun d3 => ?_) (fun d3 => ?_)
  ·have h := h.1 (bne_t d3)
   have bg : Ext (fun b => b = w.heap.size ∨ b = a8.heap.size) ac ar := (b0).mono fun _ h _ => .inr h
   refine ⟨a0.cani 0 rfl rfl, Q01 fun ck el => ?_⟩
   have b2 := bg.x_set (q := w.heap.size) (i := 0) rfl (.inl (.inl rfl)) el
   have a0 : Blk ck w.heap.size 27 [.int .i64 0, .int .i64 0, .int .u64 0, .int .i64 0, .int .i64 0, .int .i64 0, .slice none 0 0, .int .u64 0] := a0.seti 0 rfl el
   refine ⟨a0.cani 1 rfl rfl, Q01 fun c6 e5 => ?_⟩
   have co := b2.x_set (q := w.heap.size) (i := 1) rfl (.inl (.inl rfl)) e5
   have a0 : Blk c6 w.heap.size 27 [.int .i64 0, .int .i64 0, .int .u64 0, .int .i64 0, .int .i64 0, .int .i64 0, .slice none 0 0, .int .u64 0] := a0.seti 1 rfl e5
   refine ⟨a0.cani 2 rfl rfl, Q01 fun dh ej => ?_⟩
   have br := co.x_set (q := w.heap.size) (i := 2) rfl (.inl (.inl rfl)) ej
   have a0 : Blk dh w.heap.size 27 [.int .i64 0, .int .i64 0, .int .u64 0, .int .i64 0, .int .i64 0, .int .i64 0, .slice none 0 0, .int .u64 0] := a0.seti 2 rfl ej
   refine ⟨a0.cani 3 rfl rfl, Q01 fun b6 ea => ?_⟩
   have be := br.x_set (q := w.heap.size) (i := 3) rfl (.inl (.inl rfl)) ea
   have a0 : Blk b6 w.heap.size 27 [.int .i64 0, .int .i64 0, .int .u64 0, .int .i64 0, .int .i64 0, .int .i64 0, .slice none 0 0, .int .u64 0] := a0.seti 3 rfl ea
   refine ⟨a0.cani 4 rfl rfl, Q01 fun ch du => ?_⟩
   have bm := be.x_set (q := w.heap.size) (i := 4) rfl (.inl (.inl rfl)) du
   have a0 : Blk ch w.heap.size 27 [.int .i64 0, .int .i64 0, .int .u64 0, .int .i64 0, .int .i64 0, .int .i64 0, .slice none 0 0, .int .u64 0] := a0.seti 4 rfl du
   refine ⟨a0.cani 5 rfl rfl, Q01 fun cp dy => ?_⟩
   have bb := bm.x_set (q := w.heap.size) (i := 5) rfl (.inl (.inl rfl)) dy
   have a0 : Blk cp w.heap.size 27 [.int .i64 0, .int .i64 0, .int .u64 0, .int .i64 0, .int .i64 0, .int .i64 0, .slice none 0 0, .int .u64 0] := a0.seti 5 rfl dy
   refine ⟨a0.cani 6 rfl rfl, Q01 fun d9 e3 => ?_⟩
   have dg := bb.x_set (q := w.heap.size) (i := 6) rfl (.inl (.inl rfl)) e3
   have a0 : Blk d9 w.heap.size 27 [.int .i64 0, .int .i64 0, .int .u64 0, .int .i64 0, .int .i64 0, .int .i64 0, .slice none 0 0, .int .u64 0] := a0.seti 6 rfl e3
   refine ⟨a0.cani 7 rfl rfl, Q01 fun ao dn => ?_⟩
   have c4 := dg.x_set (q := w.heap.size) (i := 7) rfl (.inl (.inl rfl)) dn
   have a0 : Blk ao w.heap.size 27 [.int .i64 0, .int .i64 0, .int .u64 0, .int .i64 0, .int .i64 0, .int .i64 0, .slice none 0 0, .int .u64 0] := a0.seti 7 rfl dn
   refine ⟨0, 0, 0, 0, 0, 0, none, 0, 0, 0, ⟨a0.celli 0 rfl rfl, a0.celli 1 rfl rfl, a0.celli 2 rfl rfl, a0.celli 3 rfl rfl, a0.celli 4 rfl rfl, a0.celli 5 rfl rfl, a0.celli 6 rfl rfl, a0.celli 7 rfl rfl, trivial⟩, ?_⟩
   have h := h ao c4
   exact h
  have h := h.2 (bne_f d3)
  refine ⟨a2, a1, a7, ad, ae, a9, a5, a4, a3, aa, ⟨a6.celli 0 rfl rfl, a6.celli 1 rfl rfl, a6.celli 2 rfl rfl, a6.celli 3 rfl rfl, a6.celli 4 rfl rfl, a6.celli 5 rfl rfl, a6.celli 6 rfl rfl, a6.celli 7 rfl rfl, trivial⟩, ?_⟩
  refine (Q06.pure a2 a1 a7 ad ae a9 a5 a4 a3 aa).mono fun ee ww60 ⟨he, hxx⟩ => ⟨(Q06.F a2 a1 a7 ad ae a9 a5 a4 a3 aa), he, ?_⟩
  have av := b0.trans hxx.none
  have a0 := a0.ext hxx id
  have a6 := a6.ext hxx id
  refine bif_of (fun b3 => ?_) (fun b3 => ?_)
  ·have h := h.1 (not_t b3)
   have b5 : Ext (fun b => b = w.heap.size ∨ b = a8.heap.size) ac ww60 := (av).mono fun _ h _ => .inr h
   refine ⟨a0.cani 0 rfl rfl, Q01 fun b9 dl => ?_⟩
   have bk := b5.x_set (q := w.heap.size) (i := 0) rfl (.inl (.inl rfl)) dl
   have a0 : Blk b9 w.heap.size 27 [.int .i64 0, .int .i64 0, .int .u64 0, .int .i64 0, .int .i64 0, .int .i64 0, .slice none 0 0, .int .u64 0] := a0.seti 0 rfl dl
   refine ⟨a0.cani 1 rfl rfl, Q01 fun d6 ef => ?_⟩
   have bi := bk.x_set (q := w.heap.size) (i := 1) rfl (.inl (.inl rfl)) ef
   have a0 : Blk d6 w.heap.size 27 [.int .i64 0, .int .i64 0, .int .u64 0, .int .i64 0, .int .i64 0, .int .i64 0, .slice none 0 0, .int .u64 0] := a0.seti 1 rfl ef
   refine ⟨a0.cani 2 rfl rfl, Q01 fun bo ek => ?_⟩
   have cc := bi.x_set (q := w.heap.size) (i := 2) rfl (.inl (.inl rfl)) ek
   have a0 : Blk bo w.heap.size 27 [.int .i64 0, .int .i64 0, .int .u64 0, .int .i64 0, .int .i64 0, .int .i64 0, .slice none 0 0, .int .u64 0] := a0.seti 2 rfl ek
   refine ⟨a0.cani 3 rfl rfl, Q01 fun d5 e1 => ?_⟩
   have ct := cc.x_set (q := w.heap.size) (i := 3) rfl (.inl (.inl rfl)) e1
   have a0 : Blk d5 w.heap.size 27 [.int .i64 0, .int .i64 0, .int .u64 0, .int .i64 0, .int .i64 0, .int .i64 0, .slice none 0 0, .int .u64 0] := a0.seti 3 rfl e1
   refine ⟨a0.cani 4 rfl rfl, Q01 fun bd e0 => ?_⟩
   have d8 := ct.x_set (q := w.heap.size) (i := 4) rfl (.inl (.inl rfl)) e0
   have a0 : Blk bd w.heap.size 27 [.int .i64 0, .int .i64 0, .int .u64 0, .int .i64 0, .int .i64 0, .int .i64 0, .slice none 0 0, .int .u64 0] := a0.seti 4 rfl e0
   refine ⟨a0.cani 5 rfl rfl, Q01 fun c2 e6 => ?_⟩
   have dd := d8.x_set (q := w.heap.size) (i := 5) rfl (.inl (.inl rfl)) e6
   have a0 : Blk c2 w.heap.size 27 [.int .i64 0, .int .i64 0, .int .u64 0, .int .i64 0, .int .i64 0, .int .i64 0, .slice none 0 0, .int .u64 0] := a0.seti 5 rfl e6
   refine ⟨a0.cani 6 rfl rfl, Q01 fun d2 ed => ?_⟩
   have de := dd.x_set (q := w.heap.size) (i := 6) rfl (.inl (.inl rfl)) ed
   have a0 : Blk d2 w.heap.size 27 [.int .i64 0, .int .i64 0, .int .u64 0, .int .i64 0, .int .i64 0, .int .i64 0, .slice none 0 0, .int .u64 0] := a0.seti 6 rfl ed
   refine ⟨a0.cani 7 rfl rfl, Q01 fun ay e8 => ?_⟩
   have bz := de.x_set (q := w.heap.size) (i := 7) rfl (.inl (.inl rfl)) e8
   have a0 : Blk ay w.heap.size 27 [.int .i64 0, .int .i64 0, .int .u64 0, .int .i64 0, .int .i64 0, .int .i64 0, .slice none 0 0, .int .u64 0] := a0.seti 7 rfl e8
   refine ⟨0, 0, 0, 0, 0, 0, none, 0, 0, 0, ⟨a0.celli 0 rfl rfl, a0.celli 1 rfl rfl, a0.celli 2 rfl rfl, a0.celli 3 rfl rfl, a0.celli 4 rfl rfl, a0.celli 5 rfl rfl, a0.celli 6 rfl rfl, a0.celli 7 rfl rfl, trivial⟩, ?_⟩
   have h := h ay bz
   exact h
  have h := h.2 (not_f b3)
  refine ⟨a2, a1, a7, ad, ae, a9, a5, a4, a3, aa, ⟨a6.celli 0 rfl rfl, a6.celli 1 rfl rfl, a6.celli 2 rfl rfl, a6.celli 3 rfl rfl, a6.celli 4 rfl rfl, a6.celli 5 rfl rfl, a6.celli 6 rfl rfl, a6.celli 7 rfl rfl, trivial⟩, ?_⟩
  have cb : Ext (fun b => b = w.heap.size ∨ b = a8.heap.size) ac ww60 := (av).mono fun _ h _ => .inr h
  refine ⟨a0.cani 0 rfl rfl, Q01 fun d7 e9 => ?_⟩
  have c0 := cb.x_set (q := w.heap.size) (i := 0) rfl (.inl (.inl rfl)) e9
  have a0 : Blk d7 w.heap.size 27 [.int .i64 a2, .int .i64 0, .int .u64 0, .int .i64 0, .int .i64 0, .int .i64 0, .slice none 0 0, .int .u64 0] := a0.seti 0 rfl e9
  refine ⟨a0.cani 1 rfl rfl, Q01 fun bj dm => ?_⟩
  have dk := c0.x_set (q := w.heap.size) (i := 1) rfl (.inl (.inl rfl)) dm
  have a0 : Blk bj w.heap.size 27 [.int .i64 a2, .int .i64 a1, .int .u64 0, .int .i64 0, .int .i64 0, .int .i64 0, .slice none 0 0, .int .u64 0] := a0.seti 1 rfl dm
  refine ⟨a0.cani 2 rfl rfl, Q01 fun b4 eg => ?_⟩
  have b7 := dk.x_set (q := w.heap.size) (i := 2) rfl (.inl (.inl rfl)) eg
  have a0 : Blk b4 w.heap.size 27 [.int .i64 a2, .int .i64 a1, .int .u64 a7, .int .i64 0, .int .i64 0, .int .i64 0, .slice none 0 0, .int .u64 0] := a0.seti 2 rfl eg
  refine ⟨a0.cani 3 rfl rfl, Q01 fun cq dz => ?_⟩
  have bh := b7.x_set (q := w.heap.size) (i := 3) rfl (.inl (.inl rfl)) dz
  have a0 : Blk cq w.heap.size 27 [.int .i64 a2, .int .i64 a1, .int .u64 a7, .int .i64 ad, .int .i64 0, .int .i64 0, .slice none 0 0, .int .u64 0] := a0.seti 3 rfl dz
  refine ⟨a0.cani 4 rfl rfl, Q01 fun dc ei => ?_⟩
  have d4 := bh.x_set (q := w.heap.size) (i := 4) rfl (.inl (.inl rfl)) ei
  have a0 : Blk dc w.heap.size 27 [.int .i64 a2, .int .i64 a1, .int .u64 a7, .int .i64 ad, .int .i64 ae, .int .i64 0, .slice none 0 0, .int .u64 0] := a0.seti 4 rfl ei
  refine ⟨a0.cani 5 rfl rfl, Q01 fun bl dv => ?_⟩
  have cf := d4.x_set (q := w.heap.size) (i := 5) rfl (.inl (.inl rfl)) dv
  have a0 : Blk bl w.heap.size 27 [.int .i64 a2, .int .i64 a1, .int .u64 a7, .int .i64 ad, .int .i64 ae, .int .i64 a9, .slice none 0 0, .int .u64 0] := a0.seti 5 rfl dv
  refine ⟨a0.cani 6 rfl rfl, Q01 fun cv dx => ?_⟩
  have c5 := cf.x_set (q := w.heap.size) (i := 6) rfl (.inl (.inl rfl)) dx
  have a0 : Blk cv w.heap.size 27 [.int .i64 a2, .int .i64 a1, .int .u64 a7, .int .i64 ad, .int .i64 ae, .int .i64 a9, .slice a5 a4 a3, .int .u64 0] := a0.seti 6 rfl dx
  refine ⟨a0.cani 7 rfl rfl, Q01 fun az e4 => ?_⟩
  have cu := c5.x_set (q := w.heap.size) (i := 7) rfl (.inl (.inl rfl)) e4
  have a0 : Blk az w.heap.size 27 [.int .i64 a2, .int .i64 a1, .int .u64 a7, .int .i64 ad, .int .i64 ae, .int .i64 a9, .slice a5 a4 a3, .int .u64 aa] := a0.seti 7 rfl e4
  refine ⟨a2, a1, a7, ad, ae, a9, a5, a4, a3, aa, ⟨a0.celli 0 rfl rfl, a0.celli 1 rfl rfl, a0.celli 2 rfl rfl, a0.celli 3 rfl rfl, a0.celli 4 rfl rfl, a0.celli 5 rfl rfl, a0.celli 6 rfl rfl, a0.celli 7 rfl rfl, trivial⟩, ?_⟩
  have h := h az cu
  exact h

theorem Q0B.go (a1 : Option Addr) (a0 a2 : Nat) {R : RW} {w : World} (h : Q0B.N a1 a0 a2 R w) : Calls Try.prog 98 #[.slice a1 a0 a2] w fun e w' => ∃ v, e = .returned v ∧ R v w' := Q0B.ok a1 a0 a2 (Q0B.up a1 a0 a2 h)
def Q0D.M (ak ao b3 b7 b8 av : Int) (au : Option Addr) (aq ap : Nat) (b9 ah aj ar b5 b2 an : Int) (ai : Option Addr) (am al : Nat) (b4 : Int) (R : RW) (w : World) : Prop :=
 thenW (w.alloc (.cells #[.int .i64 ak, .int .i64 ao, .int .u64 b3, .int .i64 b7, .int .i64 b8, .int .i64 av, .slice au aq ap, .int .u64 b9] 27)) fun a2 =>
 thenW (a2.alloc (.cells #[.int .i64 ah, .int .i64 aj, .int .u64 ar, .int .i64 b5, .int .i64 b2, .int .i64 an, .slice ai am al, .int .u64 b4] 27)) fun bb =>
 thenW (bb.drew) fun b6 =>
 ∃ (a4 : Option Addr) (a5 aa : Nat), b6.cell? ((blk w.heap.size).add 6) = some (.slice a4 a5 aa) ∧
 ∃ (ad : Option Addr) (a8 a6 : Nat), b6.cell? ((blk a2.heap.size).add 6) = some (.slice ad a8 a6) ∧
 Calls Try.prog 59 #[.slice a4 a5 aa, .slice ad a8 a6] b6 fun ba a0 => ∃ (a9 : Bool), ba = .returned (.bool a9) ∧
 bif a9 then (
 ∃ (a3 : Int), a0.cell? ((blk w.heap.size).add 0) = some (.int .i64 a3) ∧
 ∃ (a1 : Int), a0.cell? ((blk a2.heap.size).add 0) = some (.int .i64 a1) ∧
 bif a3 == a1 then (
 ∃ (a7 : Int), a0.cell? ((blk w.heap.size).add 1) = some (.int .i64 a7) ∧
 ∃ (ae : Int), a0.cell? ((blk a2.heap.size).add 1) = some (.int .i64 ae) ∧
 bif a7 == ae then (
 ∃ (af : Int), a0.cell? ((blk w.heap.size).add 2) = some (.int .u64 af) ∧
 ∃ (ag : Int), a0.cell? ((blk a2.heap.size).add 2) = some (.int .u64 ag) ∧
 bif af == ag then (
 ∃ (b1 ay : Int), cellsAt a0 ((blk w.heap.size).add 3) [.int .i64 b1, .int .i64 ay] 0 ∧
 ∃ (ax aw : Int), cellsAt a0 ((blk a2.heap.size).add 3) [.int .i64 ax, .int .i64 aw] 0 ∧
 ∃ (bc : Bool), (binOp .eql 24 (.agg #[.int .i64 b1, .int .i64 ay]) (.agg #[.int .i64 ax, .int .i64 aw])).run Try.prog a0 = .ok (.bool bc) a0 ∧
 bif bc then (
 ∃ (ab : Int), a0.cell? ((blk w.heap.size).add 5) = some (.int .i64 ab) ∧
 ∃ (ac : Int), a0.cell? ((blk a2.heap.size).add 5) = some (.int .i64 ac) ∧
 bif ab == ac then (
 ∃ (b0 : Int), a0.cell? ((blk w.heap.size).add 7) = some (.int .u64 b0) ∧
 ∃ (az : Int), a0.cell? ((blk a2.heap.size).add 7) = some (.int .u64 az) ∧
 R (.bool (b0 == az)) a0) else (
 R (.bool false) a0)) else (
 R (.bool false) a0)) else (
 R (.bool false) a0)) else (
 R (.bool false) a0)) else (
 R (.bool false) a0)) else (
 R (.bool false) a0)

theorem Q0D.ok (a3 a7 ae ah ai ac : Int) (ab : Option Addr) (a9 a8 : Nat) (aj a0 a2 aa ag ad a6 : Int) (a1 : Option Addr) (a5 a4 : Nat) (af : Int) {R : RW} {w : World} (h : Q0D.M a3 a7 ae ah ai ac ab a9 a8 aj a0 a2 aa ag ad a6 a1 a5 a4 af R w) : Calls Try.prog 30 #[.agg #[.int .i64 a3, .int .i64 a7, .int .u64 ae, .int .i64 ah, .int .i64 ai, .int .i64 ac, .slice ab a9 a8, .int .u64 aj], .agg #[.int .i64 a0, .int .i64 a2, .int .u64 aa, .int .i64 ag, .int .i64 ad, .int .i64 a6, .slice a1 a5 a4, .int .u64 af]] w fun e w' => ∃ v, e = .returned v ∧ R v w' :=
  Q07 follows (H := []) (args := [.agg #[.int .i64 a3, .int .i64 a7, .int .u64 ae, .int .i64 ah, .int .i64 ai, .int .i64 ac, .slice ab a9 a8, .int .u64 aj], .agg #[.int .i64 a0, .int .i64 a2, .int .u64 aa, .int .i64 ag, .int .i64 ad, .int .i64 a6, .slice a1 a5 a4, .int .u64 af]]) (cast (by kernel_rfl) h)

def Q0D.N (a4 a6 aa aj ak a8 : Int) (ah : Option Addr) (ag af : Nat) (am a1 a2 a7 ac a9 a5 : Int) (ab : Option Addr) (ae ad : Nat) (al : Int) (R : RW) (w : World) : Prop :=
 ∀ (ai : World) (ap ao : Nat), Ext no w ai → Priv w ai [ap, ao] →
 Calls Try.prog 59 #[.slice ah ag af, .slice ab ae ad] ai fun an a3 => ∃ (a0 : Bool), an = .returned (.bool a0) ∧
 Keep [ap, ao] ai a3 ∧
 (a0 = true →
 (a4 = a1 →
 (a6 = a2 →
 (aa = a7 →
 (aj = ac ∧ ak = a9 →
 (a8 = a5 →
 R (.bool (am == al)) a3) ∧
 (a8 ≠ a5 →
 R (.bool false) a3)) ∧
 (¬ (aj = ac ∧ ak = a9) →
 R (.bool false) a3)) ∧
 (aa ≠ a7 →
 R (.bool false) a3)) ∧
 (a6 ≠ a2 →
 R (.bool false) a3)) ∧
 (a4 ≠ a1 →
 R (.bool false) a3)) ∧
 (a0 = false →
 R (.bool false) a3)

theorem Q0D.up (a3 a7 ag ai aj ae : Int) (ad : Option Addr) (aa a9 : Nat) (al a0 a2 ab ac a8 a6 : Int) (a1 : Option Addr) (a5 a4 : Nat) (ah : Int) {R : RW} {w : World} (h : Q0D.N a3 a7 ag ai aj ae ad aa a9 al a0 a2 ab ac a8 a6 a1 a5 a4 ah R w) : Q0D.M a3 a7 ag ai aj ae ad aa a9 al a0 a2 ab ac a8 a6 a1 a5 a4 ah R w := by
  unfold Q0D.M
  unfold Q0D.N at h
  refine Q01 fun ao b2 => ?_
  have af := Blk.of_new b2
  have b6 := ((Ext.refl no w)).size
  have an := (Ext.refl no w).x_alloc b2
  refine Q01 fun b5 ar => ?_
  have ak := Blk.of_new ar
  have b8 := (an).size
  have b3 := Nat.ne_of_lt af.lt
  have af := af.x_alloc ar
  have av := an.x_alloc ar
  refine Q01 fun b0 ay => ?_
  have ap := av.x_drew ay
  have af := af.x_drew ay
  have ak := ak.x_drew ay
  refine ⟨ad, aa, a9, af.celli 6 rfl rfl, ?_⟩
  refine ⟨a1, a5, a4, ak.celli 6 rfl rfl, ?_⟩
  have h := h b0 (w.heap.size) (ao.heap.size) ap (Priv.cons b6 af.lt (Priv.cons b8 ak.lt Priv.nil))
  refine h.mono fun b4 b7 h => ?_
  obtain ⟨am, he, hk, h⟩ := h
  refine ⟨am, he, ?_⟩
  have af := hk.blk af (by simp)
  have ak := hk.blk ak (by simp)
  refine bif_fo (fun az => ?_) (fun az => ?_)
  ·have h := h.2 az
   exact h
  have h := h.1 az
  refine ⟨a3, af.celli 0 rfl rfl, ?_⟩
  refine ⟨a0, ak.celli 0 rfl rfl, ?_⟩
  refine bif_fo (fun au => ?_) (fun au => ?_)
  ·have h := h.2 (beq_f au)
   exact h
  have h := h.1 (beq_t au)
  refine ⟨a7, af.celli 1 rfl rfl, ?_⟩
  refine ⟨a2, ak.celli 1 rfl rfl, ?_⟩
  refine bif_fo (fun b1 => ?_) (fun b1 => ?_)
  ·have h := h.2 (beq_f b1)
   exact h
  have h := h.1 (beq_t b1)
  refine ⟨ag, af.celli 2 rfl rfl, ?_⟩
  refine ⟨ab, ak.celli 2 rfl rfl, ?_⟩
  refine bif_fo (fun aq => ?_) (fun aq => ?_)
  ·have h := h.2 (beq_f aq)
   exact h
  have h := h.1 (beq_t aq)
  refine ⟨ai, aj, ⟨af.celli 3 rfl rfl, af.celli 4 rfl rfl, trivial⟩, ?_⟩
  refine ⟨ac, a8, ⟨ak.celli 3 rfl rfl, ak.celli 4 rfl rfl, trivial⟩, ?_⟩
  refine ⟨_, Q3s ai aj ac a8 _, ?_⟩
  refine bif_fo (fun ax => ?_) (fun ax => ?_)
  ·have h := h.2 (of_decide_eq_false ax)
   exact h
  have h := h.1 (of_decide_eq_true ax)
  refine ⟨ae, af.celli 5 rfl rfl, ?_⟩
  refine ⟨a6, ak.celli 5 rfl rfl, ?_⟩
  refine bif_fo (fun aw => ?_) (fun aw => ?_)
  ·have h := h.2 (beq_f aw)
   exact h
  have h := h.1 (beq_t aw)
  refine ⟨al, af.celli 7 rfl rfl, ?_⟩
  refine ⟨ah, ak.celli 7 rfl rfl, ?_⟩
  exact h

theorem Q0D.go (a3 a7 ae ah ai ac : Int) (ab : Option Addr) (a9 a8 : Nat) (aj a0 a2 aa ag ad a6 : Int) (a1 : Option Addr) (a5 a4 : Nat) (af : Int) {R : RW} {w : World} (h : Q0D.N a3 a7 ae ah ai ac ab a9 a8 aj a0 a2 aa ag ad a6 a1 a5 a4 af R w) : Calls Try.prog 30 #[.agg #[.int .i64 a3, .int .i64 a7, .int .u64 ae, .int .i64 ah, .int .i64 ai, .int .i64 ac, .slice ab a9 a8, .int .u64 aj], .agg #[.int .i64 a0, .int .i64 a2, .int .u64 aa, .int .i64 ag, .int .i64 ad, .int .i64 a6, .slice a1 a5 a4, .int .u64 af]] w fun e w' => ∃ v, e = .returned v ∧ R v w' := Q0D.ok a3 a7 ae ah ai ac ab a9 a8 aj a0 a2 aa ag ad a6 a1 a5 a4 af (Q0D.up a3 a7 ae ah ai ac ab a9 a8 aj a0 a2 aa ag ad a6 a1 a5 a4 af h)
theorem Q0D.run (a3 a7 ae ah ai ac : Int) (ab : Option Addr) (a9 a8 : Nat) (aj a0 a2 aa ag ad a6 : Int) (a1 : Option Addr) (a5 a4 : Nat) (af : Int) {V : Value} {Q : World → Prop} {w : World} (h : Q0D.N a3 a7 ae ah ai ac ab a9 a8 aj a0 a2 aa ag ad a6 a1 a5 a4 af (fun v w' => v = V ∧ Q w') w) : Calls Try.prog 30 #[.agg #[.int .i64 a3, .int .i64 a7, .int .u64 ae, .int .i64 ah, .int .i64 ai, .int .i64 ac, .slice ab a9 a8, .int .u64 aj], .agg #[.int .i64 a0, .int .i64 a2, .int .u64 aa, .int .i64 ag, .int .i64 ad, .int .i64 a6, .slice a1 a5 a4, .int .u64 af]] w (Ret V Q) := (Q0D.go a3 a7 ae ah ai ac ab a9 a8 aj a0 a2 aa ag ad a6 a1 a5 a4 af h).mono fun e w' ⟨v, he, hv, hq⟩ => ⟨by rw [he, hv], hq⟩

theorem keep1 {w w' : World} {m : Nat → Prop} {p : Nat} (h : Ext m w w') (hp : ¬ m p) : Keep [p] w w' := h.keep fun q hq _ => by simp at hq; subst hq; exact hp
theorem keep2 {w w' : World} {m : Nat → Prop} {p q : Nat} (h : Ext m w w') (hp : ¬ m p) (hq : ¬ m q) : Keep [p, q] w w' := h.keep fun r hr _ => by
  simp at hr
  rcases hr with rfl | rfl
  · exact hp
  · exact hq
theorem OwnB.up {N M : Nat} {w : World} {a : Option Addr} {c : Nat} {bs : List UInt8} (h : OwnB N w a c bs) (hM : M ≤ N) : OwnB M w a c bs := ⟨h.own, fun ad ha => ⟨Nat.le_trans hM (h.fr ad ha).1, (h.fr ad ha).2⟩⟩
theorem app {w0 wi w1 : World} {N : Nat} {a xa : Option Addr} {c xc : Nat} {l x : List UInt8} (hB : OwnB N wi a c l) (X : Ext no w0 wi) (h0 : w0.heap.size ≤ N) (hN : N ≤ wi.heap.size) (hx : Ext no wi w1) (hO : RowAt w1 xa (bytesV x)) (hl : l.length + x.length ≤ 100000000) :
    ∃ a' c' w', (Builtin.append_ #[25, 25] 25 #[.slice a l.length c, .slice xa x.length xc]).run Try.prog w1 = .ok (.slice a' (l ++ x).length c') w' ∧ OwnB N w' a' c' (l ++ x) ∧ Ext no w0 w' ∧ Ext (fun b => N ≤ b) w1 w' ∧ N ≤ w'.heap.size := by
  obtain ⟨a', c', w', hr, hO2, hx2⟩ := (hB.no hx).append (t := 25) (ty := 25) Try.underlying25 (Nat.le_trans hN hx.size) (xc := xc) hO hl
  exact ⟨a', c', w', hr, hO2, (X.trans hx).then hx2 fun b hb => .inr (Nat.le_trans h0 hb), hx2, Nat.le_trans hN (Nat.le_trans hx.size hx2.size)⟩
section
variable {w w' : World} {a : Option Addr} {c N p : Nat} {bs : List UInt8} {k : Int}
theorem Q4E (h : RowAt w a (bytesV bs)) (hl : bs.length ≤ 900000) {t s : Int} (h0 : -9223372036854775808 ≤ t) (h1 : t < 9223372036854775808) (hs : s < 9223372036854775808) :
    Calls Try.prog 90 #[.slice a bs.length c, .agg #[.int .i64 t, .int .i64 s]] w (fun e w' => ∃ a' c', e = .returned (.slice a' (bs ++ stampL t s).length c') ∧ OwnB w.heap.size w' a' c' (bs ++ stampL t s) ∧ Ext no w w') := by
  refine (Q0L.go _ _ _ _ _ (R := fun v w' => ∃ a' c', v = (.slice a' (bs ++ stampL t s).length c') ∧ OwnB w.heap.size w' a' c' (bs ++ stampL t s) ∧ Ext no w w') ?_).mono fun e w' ⟨v, he, a, c, hv, hw⟩ => ⟨a, c, by rw [he, hv], hw⟩
  unfold Q0L.N
  intro w5 p6 hx5 hp
  refine (W.Int_spec (h.no hx5) (by omega) h0 h1).mono fun e w9 ⟨a9, c9, he, hO, hx9⟩ => ⟨a9, _, c9, he, hx9.kept, ?_⟩
  have e1 : IntKind.u64.wrap (if (0 : Int) > s then 0 else s) = ((s.toNat : Nat) : Int) := by split <;> rw [wu64 (by omega) (by omega)] <;> omega
  rw [e1]
  have hz := W.numL_le (zig t)
  refine (W.Num_spec hO.row (by rw [List.length_append]; omega) (n := s.toNat) (by omega)).mono fun e w12 ⟨a12, c12, he, hO2, hx12⟩ => ⟨a12, _, c12, he, a12, c12, ?_, ?_, (hx5.trans hx9).trans hx12⟩
  · unfold stampL; rw [List.append_assoc]
  · unfold stampL; rw [← List.append_assoc]; exact OwnB.up hO2 (Nat.le_trans hx5.size hx9.size)
theorem Q4f {q : Nat} (hq : Blk w q 113 [.slice a bs.length c]) (h : RowAt w a (bytesV bs)) (ho : ∀ ad, a = some ad → ad.block ≠ q) {la : Option Addr} {lc : Nat} {xs : List Nat} (hx : RowAt w la (xs.map fun (n : Nat) => Value.int .u64 (n : Int))) (hla : ∀ ad, la = some ad → ad.block ≠ q)
    (hxs : ∀ n ∈ xs, n < 18446744073709551616) (hl : bs.length + xs.length * 10 ≤ 900000) :
    Calls Try.prog 88 #[.pointer (some (blk q)), .slice la xs.length lc] w (fun e w' => e = .returned (.tuple #[]) ∧ ∃ a' c', Blk w' q 113 [.slice a' (bs ++ xs.flatMap numL).length c'] ∧ RowAt w' a' (bytesV (bs ++ xs.flatMap numL)) ∧ (∀ ad, a' = some ad → ad.block ≠ q ∧ (a' = a ∨ w.heap.size ≤ ad.block)) ∧ Ext (fun b => b = q) w w') := by
  refine (Q0g.go _ _ _ _ (R := fun v w' => v = .tuple #[] ∧ ∃ a' c', Blk w' q 113 [.slice a' (bs ++ xs.flatMap numL).length c'] ∧ RowAt w' a' (bytesV (bs ++ xs.flatMap numL)) ∧ (∀ ad, a' = some ad → ad.block ≠ q ∧ (a' = a ∨ w.heap.size ≤ ad.block)) ∧ Ext (fun b => b = q) w w') ?_).mono fun e w' ⟨v, he, hv, hw⟩ => ⟨by rw [he, hv], hw⟩
  unfold Q0g.N
  refine ⟨fun k vs w1 => ∃ (t : Nat) (a1 : Option Addr) (c1 : Nat) (l1 : List UInt8), vs = [.int .i64 t] ∧ k + t = xs.length ∧ l1 = bs ++ (xs.take t).flatMap numL ∧ l1.length ≤ bs.length + t * 10 ∧ Blk w1 q 113 [.slice a1 l1.length c1] ∧ RowAt w1 a1 (bytesV l1) ∧ (∀ ad, a1 = some ad → ad.block ≠ q ∧ (a1 = a ∨ w.heap.size ≤ ad.block)) ∧ Ext (fun b => b = q) w w1, xs.length,
    ⟨0, a, c, bs, rfl, rfl, by simp, by omega, hq, h, fun ad ha => ⟨ho ad ha, .inl rfl⟩, Ext.refl _ _⟩, ?_⟩
  rintro k w1 i ⟨t, a1, c1, l1, hi, hk, hl1, hlen, hb, hr, hf, X⟩
  simp only [List.cons.injEq, Value.int.injEq, true_and, and_true] at hi
  subst hi
  refine ⟨fun ht => ?_, fun ht => ?_⟩
  · have htl : t < xs.length := by omega
    have hx1 := hx.ext' X fun _ ad ha => hla ad ha
    obtain ⟨ad, rfl⟩ := hx1.addr (by intro e; rw [List.map_eq_nil_iff] at e; subst e; simp at htl)
    have hnb := hxs xs[t] (List.getElem_mem htl)
    refine ⟨ad, rfl, by omega, by omega, xs[t], by rw [Int.toNat_natCast, Nat.mul_one]; exact hx1.at_ (by simp [htl]), blk q, rfl, a1, _, c1, hb.cella (i := 0) rfl, ?_⟩
    refine (W.Num_spec hr (by omega) hnb).mono fun e w16 ⟨a2, c2, he, hO, hx16⟩ => ⟨a2, _, c2, he, (hb.ext hx16 id).cana (i := 0) rfl, Q01 fun w18 e18 => ?_⟩
    have hb18 := (hb.ext hx16 id).seti 0 rfl e18
    have x18 : Ext (fun b => b = q) w16 w18 := (Ext.refl (fun b => b = q) w16).x_set (q := q) (i := 0) rfl (.inl rfl) e18
    have hne : ∀ ad, a2 = some ad → ad.block ≠ q := fun ad ha e => by have := (hO.fr ad ha).1; have := hb.lt; omega
    have htk : xs.take (t + 1) = xs.take t ++ [xs[t]] := by rw [List.take_add_one]; simp [htl]
    have hnl := W.numL_le xs[t]
    refine ⟨by omega, by omega, k - 1, by omega, t + 1, a2, c2, l1 ++ numL xs[t], rfl, by omega, ?_, by rw [List.length_append]; omega, hb18, hO.row.ext' x18 fun _ ad ha => hne ad ha, fun ad ha => ⟨hne ad ha, .inr (Nat.le_trans X.size (hO.fr ad ha).1)⟩, (X.trans hx16.none).trans x18⟩
    rw [hl1, htk, List.flatMap_append, List.append_assoc]; simp
  · obtain rfl : t = xs.length := by omega
    rw [List.take_length] at hl1
    subst hl1
    exact ⟨rfl, a1, c1, hb, hr, hf, X⟩
theorem Q49 {e : Ent} (hr : Q0s e = true) (hf : e.fit) {ba : Option Addr} {bc : Nat} (hb : RowAt w ba (bytesV e.body)) :
    Calls Try.prog 76 #[entV e ba bc] w (fun x w' => ∃ a' c', x = .returned (.slice a' (textL e).length c') ∧ OwnB w.heap.size w' a' c' (textL e) ∧ Ext no w w') := by
  obtain ⟨h1, h2, h3, h4, h5, h6, h7, h8, h9, h10, h11⟩ := (Q1d e).1 hr
  have f1 := hf.pv0; have f2 := hf.pv1
  refine (Q0J.go e.w e.i e.pv e.t e.tw e.ep ba e.body.length bc e.sg (R := fun v w' => ∃ a' c', v = (.slice a' (textL e).length c') ∧ OwnB w.heap.size w' a' c' (textL e) ∧ Ext no w w') ?_).mono fun x w' ⟨v, he, a, c, hv, hw⟩ => ⟨a, c, by rw [he, hv], hw⟩
  unfold Q0J.N
  intro w10 q p X10 hq hq1 hq2 hp w13 q2 X13 hq3 hq4 hq5
  rw [wu64 (n := e.w) h1 (by omega), wu64 (n := e.i) h3 (by omega)] at hq3
  have hrow : RowAt w13 (some (blk q2)) (([e.w.toNat, e.i.toNat, e.pv.toNat] : List Nat).map fun (n : Nat) => Value.int .u64 (n : Int)) := by
    have := RowAt.of_blk hq3
    simp only [List.map_cons, List.map_nil, Int.toNat_of_nonneg h1, Int.toNat_of_nonneg h3, Int.toNat_of_nonneg f1]
    exact this
  have hp1 := hp.one
  refine (Q4f (bs := []) (q := q) (hq.ext X13 id) (RowAt.nil _ _) (fun ad ha => by cases ha) hrow (fun ad ha => by cases ha; simp only [blk]; omega) (by simp; omega) (by simp)).mono fun x w16 ⟨he, a1, c1, hb1, hr1, hf1, X16⟩ => ?_
  have hw16 : Ext no w w16 := (X10.trans X13).then X16 fun b hb => .inr (by omega)
  have hpq : p ≠ q := by omega
  have e1 : ([] ++ [e.w.toNat, e.i.toNat, e.pv.toNat].flatMap numL) = numL e.w.toNat ++ numL e.i.toNat ++ numL e.pv.toNat := by simp
  rw [e1] at hr1 hb1
  refine ⟨he, keep1 X16 hpq, a1, _, c1, hb1.cell (i := 0) rfl, fun w17 X17 => ?_⟩
  have g1 := W.numL_le e.w.toNat; have g2 := W.numL_le e.i.toNat; have g3 := W.numL_le e.pv.toNat; have g4 := Q34 e.t e.tw; have g5 := W.numL_le (zig e.ep)
  have h17 := hw16.trans X17
  refine (Q4E (hr1.no X17) (by simp only [List.length_append]; omega) (by omega) (by omega) (by omega)).mono fun x w22 ⟨a2, c2, he, hO2, X22⟩ => ⟨a2, _, c2, he, X22.kept, ?_⟩
  refine (W.Int_spec hO2.row (by simp only [List.length_append]; omega) (by omega) (by omega)).mono fun x w25 ⟨a3, c3, he, hO3, X25⟩ => ⟨a3, _, c3, he, X25.kept, ?_⟩
  have h25 := (h17.trans X22).trans X25
  refine (W.Bytes_spec hO3.row (by simp only [List.length_append]; omega) (hb.no h25) (by omega)).mono fun x w28 ⟨a4, c4, he, hO4, X28⟩ => ⟨a4, _, c4, he, a4, c4, ?_, ?_, h25.trans X28⟩
  · unfold textL; simp only [List.append_assoc]
  · unfold textL; rw [← List.append_assoc]; exact OwnB.up hO4 h25.size
theorem Q3j {e : Ent} (hf : Q0s e = true → e.fit) {ba : Option Addr} {bc : Nat} (hb : RowAt w ba (bytesV e.body)) :
    Calls Try.prog 58 #[entV e ba bc] w (fun x w' => Ext no w w' ∧ ((Q0s e = false ∧ x = .returned (.tuple #[.slice none 0 0, .int .i64 1])) ∨ (Q0s e = true ∧ ∃ a' c', x = .returned (.tuple #[.slice a' (bytesL e).length c', .int .i64 0]) ∧ OwnB w.heap.size w' a' c' (bytesL e)))) := by
  refine (Q0w.go e.w e.i e.pv e.t e.tw e.ep ba e.body.length bc e.sg (R := fun v w' => Ext no w w' ∧ ((Q0s e = false ∧ v = (.tuple #[.slice none 0 0, .int .i64 1])) ∨ (Q0s e = true ∧ ∃ a' c', v = (.tuple #[.slice a' (bytesL e).length c', .int .i64 0]) ∧ OwnB w.heap.size w' a' c' (bytesL e)))) ?_).mono fun x w' ⟨v, he, hx, hv⟩ => ⟨hx, hv.imp (fun ⟨h1, h2⟩ => ⟨h1, by rw [he, h2]⟩) fun ⟨h1, a, c, h2, h3⟩ => ⟨h1, a, c, by rw [he, h2], h3⟩⟩
  unfold Q0w.N
  rw [Q1U]
  refine ⟨fun h w10 X => ⟨X, .inl ⟨h, rfl⟩⟩, fun h w13 p X hp => ?_⟩
  have hf := hf h
  have f3 := hf.sg0; have f4 := hf.sg1
  have hbl := ((Q1d e).1 h).2.2.2.2.2.2.2.2.2.1
  have htl := Q3w e
  refine (Q49 h hf (hb.no X)).mono fun x w17 ⟨a1, c1, he, hO, X17⟩ => ⟨a1, _, c1, he, X17.kept, ?_⟩
  rw [← Int.toNat_of_nonneg f3]
  refine (W.Num_spec hO.row (by omega) (n := e.sg.toNat) (by omega)).mono fun x w20 ⟨a2, c2, he, hO2, X20⟩ => ⟨a2, _, c2, he, (X.trans X17).trans X20, .inr ⟨h, a2, c2, rfl, OwnB.up hO2 (X.trans X17).size⟩⟩
/-! ### reading -/
theorem Q4q (h : Rd w p bs k) (hl : bs.length < 1000000) :
    Calls Try.prog 99 #[.pointer (some (blk p))] w (GivesW (.agg #[.int .i64 (stampR (bs, k)).1.1, .int .i64 (stampR (bs, k)).1.2]) fun w' => Rd w' p (stampR (bs, k)).2.1 (stampR (bs, k)).2.2 ∧ Ext (fun b => b = p) w w') := by
  refine (Q0I.run _ (Q := fun w' => Rd w' p (stampR (bs, k)).2.1 (stampR (bs, k)).2.2 ∧ Ext (fun b => b = p) w w') ?_)
  unfold Q0I.N
  intro w2 p3 X2 hp
  have hp := hp.one
  have hpp : p < p3 := by have := h.lt; omega
  refine (W.RInt_spec (h.no X2) hl).mono fun e w6 ⟨he, h6, X6⟩ => ⟨_, he, keep1 X6 (by omega), fun w7 X7 => ?_⟩
  have h7 := h6.up X7 fun b hb => by omega
  have hlen := Q2P (bs, k)
  have hc := W.Count_spec h7 (by simp only at hlen; omega) (m := 7) (by decide)
  refine hc.mono fun e w10 ⟨he, h10, X10⟩ => ⟨_, he, keep1 X10 (by omega), fun w13 X13 => ?_⟩
  have h13 := h10.up X13 fun b hb => by omega
  refine ⟨rfl, h13, ?_⟩
  have y1 : Ext (fun b => b = p) w w7 := (X2.none.trans X6).then X7 fun b hb => .inr (by omega)
  exact (y1.trans X10).then X13 fun b hb => .inr (by omega)
theorem Read_spec (h : RowAt w a (bytesV bs)) (hc : bs.length ≤ c) (hl : bs.length < 1000000) :
    Calls Try.prog 98 #[.slice a bs.length c] w (fun e w' => ∃ a' c', e = .returned (.tuple #[entV (readE bs).1 a' c', .int .i64 (readE bs).2]) ∧ RowAt w' a' (bytesV (readE bs).1.body) ∧ (∀ ad, a' = some ad → w.heap.size ≤ ad.block) ∧ Ext no w w') := by
  refine (Q0B.go _ _ _ (R := fun v w' => ∃ a' c', v = (.tuple #[entV (readE bs).1 a' c', .int .i64 (readE bs).2]) ∧ RowAt w' a' (bytesV (readE bs).1.body) ∧ (∀ ad, a' = some ad → w.heap.size ≤ ad.block) ∧ Ext no w w') ?_).mono fun e w' ⟨v, he, a, c, hv, hw⟩ => ⟨a, c, by rw [he, hv], hw⟩
  unfold Q0B.N
  intro w2 p3 X2 hp3
  have hp3 := hp3.one
  obtain ⟨L1, L2, L3, L4, L5, L6, L7⟩ := Q4B (bs, 0)
  simp only at L1 L2 L3 L4 L5 L6 L7
  refine (W.Read_spec (h.no X2) hc).mono fun e w6 ⟨q, he, hr6, hq6, X6⟩ => ⟨_, he, X6.kept, fun w7 p8 X7 hp8 => ?_⟩
  have hp8 := hp8.one
  have hq7 := hr6.lt
  have s6 := X6.size
  have Y7 : Ext no w w7 := (X2.trans X6).trans X7
  -- what is changed is new
  have new : ∀ {w1 w2 : World}, Ext no w w1 → Ext (fun b => b = q) w1 w2 → Ext no w w2 := fun h1 h2 => h1.then h2 fun b hb => .inr (by omega)
  have new8 : ∀ {w1 w2 : World}, Ext no w w1 → Ext (fun b => b = p8) w1 w2 → Ext no w w2 := fun h1 h2 => h1.then h2 fun b hb => .inr (by omega)
  have new3 : ∀ {w1 w2 : World}, Ext no w w1 → Ext (fun b => b = p3) w1 w2 → Ext no w w2 := fun h1 h2 => h1.then h2 fun b hb => .inr (by omega)
  have up8 : ∀ b, b = p8 → q < b := fun b hb => by omega
  have k8 : ¬ (p8 = q) := by omega
  have k3 : ¬ (p3 = q) := by omega
  refine (W.Count_spec (hr6.no X7) hl (m := 7) (by decide)).mono fun e w11 ⟨he, hr11, X11⟩ => ⟨_, he, keep2 X11 k3 k8, fun w12 X12 => ?_⟩
  refine (W.Count_spec (bs := (entR1 (bs, 0)).1) (k := (entR1 (bs, 0)).2) (hr11.up X12 up8) (by omega) (m := 199) (by decide)).mono fun e w15 ⟨he, hr15, X15⟩ => ⟨_, he, keep2 X15 k3 k8, fun w16 X16 => ?_⟩
  refine (W.RNum_spec (bs := (entR2 (bs, 0)).1) (k := (entR2 (bs, 0)).2) (hr15.up X16 up8) (by omega)).mono fun e w19 ⟨he, hr19, X19⟩ => ⟨_, he, keep2 X19 k3 k8, fun w20 X20 => ?_⟩
  refine (Q4q (bs := (entR3 (bs, 0)).1) (k := (entR3 (bs, 0)).2) (hr19.up X20 up8) (by omega)).mono fun e w24 ⟨he, hr24, X24⟩ => ⟨_, _, he, keep2 X24 k3 k8, fun w26 X26 => ?_⟩
  refine (W.RInt_spec (bs := (entR4 (bs, 0)).1) (k := (entR4 (bs, 0)).2) (hr24.up X26 up8) (by omega)).mono fun e w29 ⟨he, hr29, X29⟩ => ⟨_, he, keep2 X29 k3 k8, ?_⟩
  refine (Q2h (bs := (entR5 (bs, 0)).1) (k := (entR5 (bs, 0)).2) hr29 (by omega) (m := 1100) (by decide)).mono fun e w32 ⟨ba, bc, he, hO, hr32, X32⟩ => ⟨ba, _, bc, he, keep2 X32 k3 k8, fun w33 X33 => ?_⟩
  have Y29 := new (new8 (new (new8 (new (new8 (new (new8 (new Y7 X11) X12) X15) X16) X19) X20) X24) X26) X29
  have hO33 : OwnB w29.heap.size w33 ba bc (bytesR 1100 (entR5 (bs, 0))).1 := hO.ext X33 fun ad ha hb => by have := (hO.fr ad ha).1; have := X29.size; have := X26.size; have := X24.size; have := X20.size; have := X19.size; have := X16.size; have := X15.size; have := X12.size; have := X11.size; omega
  have s29 : w7.heap.size ≤ w29.heap.size := by have := X29.size; have := X26.size; have := X24.size; have := X20.size; have := X19.size; have := X16.size; have := X15.size; have := X12.size; have := X11.size; omega
  refine (W.RNum_spec (bs := (entR6 (bs, 0)).1) (k := (entR6 (bs, 0)).2) (hr32.up X33 up8) (by omega)).mono fun e w36 ⟨he, hr36, X36⟩ => ⟨_, he, keep2 X36 k3 k8, fun w37 X37 => ?_⟩
  have hO37 : OwnB w29.heap.size w37 ba bc (bytesR 1100 (entR5 (bs, 0))).1 := (hO33.ext X36 fun ad ha hb => by have := (hO.fr ad ha).1; have := X7.size; omega).ext X37 fun ad ha hb => by have := (hO.fr ad ha).1; omega
  refine (W.Done_spec (bs := (entR7 (bs, 0)).1) (k := (entR7 (bs, 0)).2) (hr36.up X37 up8)).mono fun e w40 ⟨he, hw⟩ => ⟨_, he, Keep.refl _ _ |> fun k => by subst hw; exact k, ?_⟩
  subst hw
  have Y40 := new8 (new (new8 (new Y29 X32) X33) X36) X37
  have hF := Q1U (entR (bs, 0)) ba bc
  have hF' : Q06.F ((countR 7 (bs, 0)).1 : Int) ((countR 199 (entR1 (bs, 0))).1 : Int) ((numR (entR2 (bs, 0))).1 : Int) (stampR (entR3 (bs, 0))).1.1 ((stampR (entR3 (bs, 0))).1.2 : Int) (intR (entR4 (bs, 0))).1 ba (bytesR 1100 (entR5 (bs, 0))).1.length bc ((numR (entR6 (bs, 0))).1 : Int) = Q0s (entR (bs, 0)) := hF
  have new38 : ∀ {w1 w2 : World}, Ext no w w1 → Ext (fun b => b = p3 ∨ b = p8) w1 w2 → Ext no w w2 := fun h1 h2 => h1.then h2 fun b hb => .inr (by omega)
  refine ⟨fun hd w49 X49 => ?_, fun hd => ⟨fun hn => absurd rfl hn, fun _ => ⟨fun hr w69 X69 => ?_, fun hr w77 X77 => ?_⟩⟩⟩
  · have : readE bs = (Ent.zero, doneR (entR7 (bs, 0))) := by unfold readE; rw [if_pos hd]
    rw [this]
    exact ⟨none, 0, rfl, RowAt.nil _ _, fun ad ha => by (cases ha), new3 Y40 X49⟩
  · rw [hF'] at hr
    have : readE bs = (Ent.zero, 4) := by unfold readE; rw [if_neg (by rw [hd]; simp), if_neg (by rw [hr]; simp)]
    rw [this]
    exact ⟨none, 0, rfl, RowAt.nil _ _, fun ad ha => by (cases ha), new38 Y40 X69⟩
  · rw [hF'] at hr
    have : readE bs = (entR (bs, 0), 0) := by unfold readE; rw [if_neg (by rw [hd]; simp), if_pos hr]
    rw [this]
    refine ⟨ba, bc, rfl, ?_, fun ad ha => ?_, new38 Y40 X77⟩
    · refine (hO37.ext X77 fun ad ha hb => ?_).row
      have := (hO.fr ad ha).1; have := X7.size; omega
    · have := (hO.fr ad ha).1; have := Y7.size; omega
end
end Go.Proofs.Ytoempemllkebkaa
namespace Go.Proofs.Ytoempemllkebkaa
open Go Go.Mx Go.Proofs
open W (OwnB Rd RdR GivesW numR countR doneR zig unzig intR)
theorem litB {w w1 : World} {t e : TypeId} (hs : Try.prog.underlying t = some (.slice e)) (he : Try.prog.underlying e = some (.int .u8)) (bs : List UInt8) {q : Nat} (X : Ext no w w1) (hb : Blk w1 q e (bytesV bs)) (hq : w.heap.size ≤ q) :
    ∃ w2, (convert t t (.slice (some (blk q)) bs.length bs.length)).run Try.prog w1 = .ok (.slice (some (blk q)) bs.length bs.length) w2 ∧ RowAt w2 (some (blk q)) (bytesV bs) ∧ Ext no w w2 :=
  ⟨_, Q4m hs he hb, (RowAt.of_blk hb).freeze _ _, X.freeze (.inr hq) _⟩
section
variable {w w' : World} {a : Option Addr} {c N p : Nat} {bs : List UInt8} {k : Int}
theorem Q3Y {b : Option Addr} {d : Nat} {x y : List UInt8} (ha : RowAt w a (bytesV x)) (hb : RowAt w b (bytesV y)) :
    Calls Try.prog 59 #[.slice a x.length c, .slice b y.length d] w (Ret (.bool (decide (x = y))) fun w' => w' = w) := by
  refine Q0u.run _ _ _ _ _ _ ?_
  unfold Q0u.N
  refine ⟨_, Q3l Try.underlying25 Try.underlying5 Try.underlying9 ha, _, Q3l Try.underlying25 Try.underlying5 Try.underlying9 hb, ?_, rfl⟩
  have key := Q47 x y
  have e : ∀ s : List UInt8, (ByteArray.mk s.toArray).toList = s := fun s => by
    simp
  congr 1
  rw [e, e, Bool.eq_iff_iff]
  simp
theorem Q3X {e f : Ent} {b : Option Addr} {d : Nat} (ha : RowAt w a (bytesV e.body)) (hb : RowAt w b (bytesV f.body)) :
    Calls Try.prog 30 #[entV e a c, entV f b d] w (Ret (.bool (decide (e = f))) fun w' => Ext no w w') := by
  refine Q0D.run _ _ _ _ _ _ _ _ _ _ _ _ _ _ _ _ _ _ _ _ ?_
  unfold Q0D.N
  intro w19 p20 p21 X hp
  refine (Q3Y (ha.no X) (hb.no X)).mono fun x w24 ⟨he, hw⟩ => ⟨_, he, by subst hw; exact Keep.refl _ _, ?_⟩
  subst hw
  obtain ⟨e1, e2, e3, e4, e5, e6, e7, e8⟩ := e
  obtain ⟨f1, f2, f3, f4, f5, f6, f7, f8⟩ := f
  simp only [Ent.mk.injEq]
  refine ⟨fun h => ?_, fun h => ?_⟩
  · have h := of_decide_eq_true h
    subst h
    refine ⟨fun c1 => ⟨fun c2 => ⟨fun c3 => ⟨fun c4 => ⟨fun c5 => ?_, fun c5 => ?_⟩, fun c4 => ?_⟩, fun c3 => ?_⟩, fun c2 => ?_⟩, fun c1 => ?_⟩ <;> refine ⟨?_, X⟩
    · congr 1; rw [Bool.eq_iff_iff, beq_iff_eq, decide_eq_true_eq]; exact ⟨fun h => ⟨c1, c2, c3, c4.1, c4.2, c5, rfl, h⟩, fun h => h.2.2.2.2.2.2.2⟩
    · rw [decide_eq_false fun h => c5 h.2.2.2.2.2.1]
    · rw [decide_eq_false fun h => c4 ⟨h.2.2.2.1, h.2.2.2.2.1⟩]
    · rw [decide_eq_false fun h => c3 h.2.2.1]
    · rw [decide_eq_false fun h => c2 h.2.1]
    · rw [decide_eq_false fun h => c1 h.1]
  · have h := of_decide_eq_false h
    exact ⟨by rw [decide_eq_false fun q => h q.2.2.2.2.2.2.1], X⟩
end
end Go.Proofs.Ytoempemllkebkaa
namespace Go.Proofs.Ytoempemllkebkaa
open Go Go.Mx Go.Proofs
open W (OwnB Rd RdR GivesW numR countR doneR zig unzig intR)
def Q0E.M (af ag : Int) (R : RW) (w : World) : Prop :=
 thenW (w.alloc (.cells #[.int .i64 af, .int .i64 ag] 24)) fun ah =>
 thenW (ah.drew) fun ab =>
 ∃ (T5 : Int), ab.cell? ((blk w.heap.size).add 0) = some (.int .i64 T5) ∧
 ∃ (W6 : Int), ab.cell? ((blk w.heap.size).add 1) = some (.int .i64 W6) ∧
 Calls Try.prog 96 #[.int .i64 T5] ab fun ae ad => ∃ (a4 : Option Addr) (a3 a5 : Nat), ae = .returned (.slice a4 a3 a5) ∧
 ad.cell? ((blk w.heap.size).add 1) = some (.int .i64 W6) ∧
 Calls Try.prog 39 #[.int .u64 (IntKind.u64.wrap (if (0 : Int) > W6 then 0 else W6))] ad fun ac aa => ∃ (a2 : Option Addr) (a1 a0 : Nat), ac = .returned (.slice a2 a1 a0) ∧
 ∃ (a8 : Option Addr) (a6 a7 : Nat) (a9 : World), (Builtin.append_ #[25, 25] 25 #[.slice a4 a3 a5, .slice a2 a1 a0]).run Try.prog aa = .ok (.slice a8 a6 a7) a9 ∧
 R (.slice a8 a6 a7) a9

theorem Q0E.ok (a1 a0 : Int) {R : RW} {w : World} (h : Q0E.M a1 a0 R w) : Calls Try.prog 95 #[.agg #[.int .i64 a1, .int .i64 a0]] w fun e w' => ∃ v, e = .returned v ∧ R v w' :=
  Q07 follows (H := []) (args := [.agg #[.int .i64 a1, .int .i64 a0]]) (cast (by kernel_rfl) h)

def Q0E.N (af ad : Int) (R : RW) (w : World) : Prop :=
 ∀ (aa : World) (p5 : Nat), Ext no w aa → Priv w aa [p5] →
 Calls Try.prog 96 #[.int .i64 af] aa fun ag ae => ∃ (a3 : Option Addr) (a5 a1 : Nat), ag = .returned (.slice a3 a5 a1) ∧
 Keep [p5] aa ae ∧
 Calls Try.prog 39 #[.int .u64 (IntKind.u64.wrap (if (0 : Int) > ad then 0 else ad))] ae fun ac ab => ∃ (a4 : Option Addr) (a0 a2 : Nat), ac = .returned (.slice a4 a0 a2) ∧
 ∃ (a8 : Option Addr) (a7 a9 : Nat) (a6 : World), (Builtin.append_ #[25, 25] 25 #[.slice a3 a5 a1, .slice a4 a0 a2]).run Try.prog ab = .ok (.slice a8 a7 a9) a6 ∧
 R (.slice a8 a7 a9) a6

theorem Q0E.up (aa ac : Int) {R : RW} {w : World} (h : Q0E.N aa ac R w) : Q0E.M aa ac R w := by
  unfold Q0E.M
  unfold Q0E.N at h
  refine Q01 fun al e3 => ?_
  have a0 := Blk.of_new e3
  have ae := ((Ext.refl no w)).size
  have ad := (Ext.refl no w).x_alloc e3
  refine Q01 fun ai e4 => ?_
  have ag := ad.x_drew e4
  have a0 := a0.x_drew e4
  refine ⟨aa, a0.celli 0 rfl rfl, ?_⟩
  refine ⟨ac, a0.celli 1 rfl rfl, ?_⟩
  have h := h ai (w.heap.size) ag (Priv.cons ae a0.lt Priv.nil)
  refine h.mono fun ak aj h => ?_
  obtain ⟨a3, a6, a1, he, hk, h⟩ := h
  refine ⟨a3, a6, a1, he, ?_⟩
  have a0 := hk.blk a0 (by simp)
  refine ⟨a0.celli 1 rfl rfl, ?_⟩
  refine h.mono fun af ah h => ?_
  obtain ⟨a4, a5, a2, he, h⟩ := h
  refine ⟨a4, a5, a2, he, ?_⟩
  obtain ⟨a9, a8, ab, a7, hr, h⟩ := h
  refine ⟨a9, a8, ab, a7, hr, ?_⟩
  exact h

def Q0c.M (ak ao b3 b6 b7 av : Int) (au : Option Addr) (aq ap : Nat) (b8 ag ai ar b5 b2 an : Int) (ah : Option Addr) (am al : Nat) (b4 : Int) (R : RW) (w : World) : Prop :=
 thenW (w.alloc (.cells #[.int .i64 ak, .int .i64 ao, .int .u64 b3, .int .i64 b6, .int .i64 b7, .int .i64 av, .slice au aq ap, .int .u64 b8] 27)) fun a1 =>
 thenW (a1.alloc (.cells #[.int .i64 ag, .int .i64 ai, .int .u64 ar, .int .i64 b5, .int .i64 b2, .int .i64 an, .slice ah am al, .int .u64 b4] 27)) fun a0 =>
 ∃ (a3 : Int), a0.cell? ((blk w.heap.size).add 0) = some (.int .i64 a3) ∧
 ∃ (a2 : Int), a0.cell? ((blk a1.heap.size).add 0) = some (.int .i64 a2) ∧
 bif a3 == a2 then (
 ∃ (ac : Int), a0.cell? ((blk w.heap.size).add 1) = some (.int .i64 ac) ∧
 ∃ (a4 : Int), a0.cell? ((blk a1.heap.size).add 1) = some (.int .i64 a4) ∧
 bif ac == a4 then (
 ∃ (aj : Int), a0.cell? ((blk w.heap.size).add 2) = some (.int .u64 aj) ∧
 ∃ (af : Int), a0.cell? ((blk a1.heap.size).add 2) = some (.int .u64 af) ∧
 bif aj == af then (
 ∃ (az aw : Int), cellsAt a0 ((blk w.heap.size).add 3) [.int .i64 az, .int .i64 aw] 0 ∧
 ∃ (b1 b0 : Int), cellsAt a0 ((blk a1.heap.size).add 3) [.int .i64 b1, .int .i64 b0] 0 ∧
 ∃ (bb : Bool), (binOp .eql 24 (.agg #[.int .i64 az, .int .i64 aw]) (.agg #[.int .i64 b1, .int .i64 b0])).run Try.prog a0 = .ok (.bool bb) a0 ∧
 bif bb then (
 ∃ (a7 : Int), a0.cell? ((blk w.heap.size).add 5) = some (.int .i64 a7) ∧
 ∃ (a9 : Int), a0.cell? ((blk a1.heap.size).add 5) = some (.int .i64 a9) ∧
 bif a7 == a9 then (
 ∃ (ax : Int), a0.cell? ((blk w.heap.size).add 7) = some (.int .u64 ax) ∧
 ∃ (ay : Int), a0.cell? ((blk a1.heap.size).add 7) = some (.int .u64 ay) ∧
 bif ax == ay then (
 ∃ (ad : Option Addr) (a8 a6 : Nat), a0.cell? ((blk w.heap.size).add 6) = some (.slice ad a8 a6) ∧
 ∃ (aa : Option Addr) (a5 ab : Nat), a0.cell? ((blk a1.heap.size).add 6) = some (.slice aa a5 ab) ∧
 Calls Try.prog 11 #[.slice ad a8 a6, .slice aa a5 ab] a0 fun b9 ba => ∃ (ae : Bool), b9 = .returned (.bool ae) ∧
 R (.bool ae) ba) else (
 R (.bool false) a0)) else (
 R (.bool false) a0)) else (
 R (.bool false) a0)) else (
 R (.bool false) a0)) else (
 R (.bool false) a0)) else (
 R (.bool false) a0)

theorem Q0c.ok (a3 a7 ae ah ai ac : Int) (ab : Option Addr) (a9 a8 : Nat) (aj a0 a2 aa ag ad a6 : Int) (a1 : Option Addr) (a5 a4 : Nat) (af : Int) {R : RW} {w : World} (h : Q0c.M a3 a7 ae ah ai ac ab a9 a8 aj a0 a2 aa ag ad a6 a1 a5 a4 af R w) : Calls Try.prog 35 #[.agg #[.int .i64 a3, .int .i64 a7, .int .u64 ae, .int .i64 ah, .int .i64 ai, .int .i64 ac, .slice ab a9 a8, .int .u64 aj], .agg #[.int .i64 a0, .int .i64 a2, .int .u64 aa, .int .i64 ag, .int .i64 ad, .int .i64 a6, .slice a1 a5 a4, .int .u64 af]] w fun e w' => ∃ v, e = .returned v ∧ R v w' :=
  Q07 follows (H := []) (args := [.agg #[.int .i64 a3, .int .i64 a7, .int .u64 ae, .int .i64 ah, .int .i64 ai, .int .i64 ac, .slice ab a9 a8, .int .u64 aj], .agg #[.int .i64 a0, .int .i64 a2, .int .u64 aa, .int .i64 ag, .int .i64 ad, .int .i64 a6, .slice a1 a5 a4, .int .u64 af]]) (cast (by kernel_rfl) h)

def Q0c.N (a3 a5 aa aj ak a7 : Int) (ai : Option Addr) (ah ag : Nat) (al a1 a2 a6 ad a9 a4 : Int) (ac : Option Addr) (af ae : Nat) (ab : Int) (R : RW) (w : World) : Prop :=
 (a3 = a1 →
 (a5 = a2 →
 (aa = a6 →
 (aj = ad ∧ ak = a9 →
 (a7 = a4 →
 (al = ab →
 ∀ (a0 : World), Ext no w a0 →
 Calls Try.prog 11 #[.slice ai ah ag, .slice ac af ae] a0 fun an am => ∃ (a8 : Bool), an = .returned (.bool a8) ∧
 R (.bool a8) am) ∧
 (al ≠ ab →
 ∀ (a0 : World), Ext no w a0 →
 R (.bool false) a0)) ∧
 (a7 ≠ a4 →
 ∀ (a0 : World), Ext no w a0 →
 R (.bool false) a0)) ∧
 (¬ (aj = ad ∧ ak = a9) →
 ∀ (a0 : World), Ext no w a0 →
 R (.bool false) a0)) ∧
 (aa ≠ a6 →
 ∀ (a0 : World), Ext no w a0 →
 R (.bool false) a0)) ∧
 (a5 ≠ a2 →
 ∀ (a0 : World), Ext no w a0 →
 R (.bool false) a0)) ∧
 (a3 ≠ a1 →
 ∀ (a0 : World), Ext no w a0 →
 R (.bool false) a0)

theorem Q0c.up (a3 a7 ag aj ak ae : Int) (ad : Option Addr) (aa a9 : Nat) (al a0 a2 ab ac a8 a6 : Int) (a1 : Option Addr) (a5 a4 : Nat) (ai : Int) {R : RW} {w : World} (h : Q0c.N a3 a7 ag aj ak ae ad aa a9 al a0 a2 ab ac a8 a6 a1 a5 a4 ai R w) : Q0c.M a3 a7 ag aj ak ae ad aa a9 al a0 a2 ab ac a8 a6 a1 a5 a4 ai R w := by
  unfold Q0c.M
  unfold Q0c.N at h
  refine Q01 fun b1 az => ?_
  have am := Blk.of_new az
  have b4 := ((Ext.refl no w)).size
  have ap := (Ext.refl no w).x_alloc az
  refine Q01 fun af aw => ?_
  have an := Blk.of_new aw
  have b5 := (ap).size
  have b0 := Nat.ne_of_lt am.lt
  have am := am.x_alloc aw
  have ah := ap.x_alloc aw
  refine ⟨a3, am.celli 0 rfl rfl, ?_⟩
  refine ⟨a0, an.celli 0 rfl rfl, ?_⟩
  refine bif_fo (fun au => ?_) (fun au => ?_)
  ·have h := h.2 (beq_f au)
   have h := h af ah
   exact h
  have h := h.1 (beq_t au)
  refine ⟨a7, am.celli 1 rfl rfl, ?_⟩
  refine ⟨a2, an.celli 1 rfl rfl, ?_⟩
  refine bif_fo (fun aq => ?_) (fun aq => ?_)
  ·have h := h.2 (beq_f aq)
   have h := h af ah
   exact h
  have h := h.1 (beq_t aq)
  refine ⟨ag, am.celli 2 rfl rfl, ?_⟩
  refine ⟨ab, an.celli 2 rfl rfl, ?_⟩
  refine bif_fo (fun av => ?_) (fun av => ?_)
  ·have h := h.2 (beq_f av)
   have h := h af ah
   exact h
  have h := h.1 (beq_t av)
  refine ⟨aj, ak, ⟨am.celli 3 rfl rfl, am.celli 4 rfl rfl, trivial⟩, ?_⟩
  refine ⟨ac, a8, ⟨an.celli 3 rfl rfl, an.celli 4 rfl rfl, trivial⟩, ?_⟩
  refine ⟨_, Q3s aj ak ac a8 _, ?_⟩
  refine bif_fo (fun ar => ?_) (fun ar => ?_)
  ·have h := h.2 (of_decide_eq_false ar)
   have h := h af ah
   exact h
  have h := h.1 (of_decide_eq_true ar)
  refine ⟨ae, am.celli 5 rfl rfl, ?_⟩
  refine ⟨a6, an.celli 5 rfl rfl, ?_⟩
  refine bif_fo (fun ay => ?_) (fun ay => ?_)
  ·have h := h.2 (beq_f ay)
   have h := h af ah
   exact h
  have h := h.1 (beq_t ay)
  refine ⟨al, am.celli 7 rfl rfl, ?_⟩
  refine ⟨ai, an.celli 7 rfl rfl, ?_⟩
  refine bif_fo (fun ax => ?_) (fun ax => ?_)
  ·have h := h.2 (beq_f ax)
   have h := h af ah
   exact h
  have h := h.1 (beq_t ax)
  refine ⟨ad, aa, a9, am.celli 6 rfl rfl, ?_⟩
  refine ⟨a1, a5, a4, an.celli 6 rfl rfl, ?_⟩
  have h := h af ah
  refine h.mono fun b3 b2 h => ?_
  obtain ⟨ao, he, h⟩ := h
  refine ⟨ao, he, ?_⟩
  exact h

theorem Q0c.go (a3 a7 ae ah ai ac : Int) (ab : Option Addr) (a9 a8 : Nat) (aj a0 a2 aa ag ad a6 : Int) (a1 : Option Addr) (a5 a4 : Nat) (af : Int) {R : RW} {w : World} (h : Q0c.N a3 a7 ae ah ai ac ab a9 a8 aj a0 a2 aa ag ad a6 a1 a5 a4 af R w) : Calls Try.prog 35 #[.agg #[.int .i64 a3, .int .i64 a7, .int .u64 ae, .int .i64 ah, .int .i64 ai, .int .i64 ac, .slice ab a9 a8, .int .u64 aj], .agg #[.int .i64 a0, .int .i64 a2, .int .u64 aa, .int .i64 ag, .int .i64 ad, .int .i64 a6, .slice a1 a5 a4, .int .u64 af]] w fun e w' => ∃ v, e = .returned v ∧ R v w' := Q0c.ok a3 a7 ae ah ai ac ab a9 a8 aj a0 a2 aa ag ad a6 a1 a5 a4 af (Q0c.up a3 a7 ae ah ai ac ab a9 a8 aj a0 a2 aa ag ad a6 a1 a5 a4 af h)
theorem Q0c.run (a3 a7 ae ah ai ac : Int) (ab : Option Addr) (a9 a8 : Nat) (aj a0 a2 aa ag ad a6 : Int) (a1 : Option Addr) (a5 a4 : Nat) (af : Int) {V : Value} {Q : World → Prop} {w : World} (h : Q0c.N a3 a7 ae ah ai ac ab a9 a8 aj a0 a2 aa ag ad a6 a1 a5 a4 af (fun v w' => v = V ∧ Q w') w) : Calls Try.prog 35 #[.agg #[.int .i64 a3, .int .i64 a7, .int .u64 ae, .int .i64 ah, .int .i64 ai, .int .i64 ac, .slice ab a9 a8, .int .u64 aj], .agg #[.int .i64 a0, .int .i64 a2, .int .u64 aa, .int .i64 ag, .int .i64 ad, .int .i64 a6, .slice a1 a5 a4, .int .u64 af]] w (Ret V Q) := (Q0c.go a3 a7 ae ah ai ac ab a9 a8 aj a0 a2 aa ag ad a6 a1 a5 a4 af h).mono fun e w' ⟨v, he, hv, hq⟩ => ⟨by rw [he, hv], hq⟩

section
variable {w w' : World} {a : Option Addr} {c N p : Nat} {bs : List UInt8} {k : Int}
theorem Q28 {e f : Ent} {b : Option Addr} {d : Nat} (ha : RowAt w a (bytesV e.body)) (hb : RowAt w b (bytesV f.body)) (hl : e.body.length < 1000000) :
    Calls Try.prog 35 #[entV e a c, entV f b d] w (Ret (.bool (decide (e = f))) fun w' => Ext no w w') := by
  refine Q0c.run _ _ _ _ _ _ _ _ _ _ _ _ _ _ _ _ _ _ _ _ ?_
  unfold Q0c.N
  obtain ⟨e1, e2, e3, e4, e5, e6, e7, e8⟩ := e
  obtain ⟨f1, f2, f3, f4, f5, f6, f7, f8⟩ := f
  simp only [Ent.mk.injEq]
  refine ⟨fun c1 => ⟨fun c2 => ⟨fun c3 => ⟨fun c4 => ⟨fun c5 => ⟨fun c6 w18 X => ?_, fun c6 w18 X => ⟨?_, X⟩⟩, fun c5 w18 X => ⟨?_, X⟩⟩, fun c4 w18 X => ⟨?_, X⟩⟩, fun c3 w18 X => ⟨?_, X⟩⟩, fun c2 w18 X => ⟨?_, X⟩⟩, fun c1 w18 X => ⟨?_, X⟩⟩
  · refine (W.sameB_spec (ha.no X) (hb.no X) hl).mono fun x w31 ⟨he, X31⟩ => ⟨_, he, ?_, X.trans X31⟩
    congr 1; rw [Bool.eq_iff_iff, decide_eq_true_eq, decide_eq_true_eq]; exact ⟨fun h => ⟨c1, c2, c3, c4.1, c4.2, c5, h, c6⟩, fun h => h.2.2.2.2.2.2.1⟩
  · rw [decide_eq_false fun h => c6 h.2.2.2.2.2.2.2]
  · rw [decide_eq_false fun h => c5 h.2.2.2.2.2.1]
  · rw [decide_eq_false fun h => c4 ⟨h.2.2.2.1, h.2.2.2.2.1⟩]
  · rw [decide_eq_false fun h => c3 h.2.2.1]
  · rw [decide_eq_false fun h => c2 h.2.1]
  · rw [decide_eq_false fun h => c1 h.1]
end
end Go.Proofs.Ytoempemllkebkaa
namespace Go.Proofs.Ytoempemllkebkaa
open Go Go.Mx Go.Proofs
def vRight.M (ak : Option Addr) (ah an : Nat) (R : RW) (w : World) : Prop :=
 ∃ (I0 : Nat → List Value → World → Prop) (m3 : Nat), I0 m3 [.int .i64 0] w ∧ ∀ (m4 : Nat) (a7 : World) (t2 : Int), I0 m4 [.int .i64 t2] a7 →
 bif decide (t2 < (ah : Int)) then (
 ak.elim False fun a6 =>
 0 ≤ (t2 : Int) ∧ (t2 : Int) < (ah : Int) ∧
 ∃ (a2 aa ab : Int), cellsAt a7 (a6.add (Int.toNat t2 * 3)) [.int .i64 a2, .int .i64 aa, .int .u64 ab] 0 ∧
 thenW (a7.alloc (.cells #[.int .i64 0, .int .i64 0, .int .u64 0] 66)) fun af =>
 Q02 af ((blk a7.heap.size).add 0) ∧
 thenW (af.setCell ((blk a7.heap.size).add 0) (.int .i64 a2)) fun ad =>
 Q02 ad ((blk a7.heap.size).add 1) ∧
 thenW (ad.setCell ((blk a7.heap.size).add 1) (.int .i64 aa)) fun ac =>
 Q02 ac ((blk a7.heap.size).add 2) ∧
 thenW (ac.setCell ((blk a7.heap.size).add 2) (.int .u64 ab)) fun ag =>
 thenW (ag.drew) fun ae =>
 ∃ (a1 a8 a9 : Int), cellsAt ae (blk a7.heap.size) [.int .i64 a1, .int .i64 a8, .int .u64 a9] 0 ∧
 Calls Try.prog 63 #[.agg #[.int .i64 a1, .int .i64 a8, .int .u64 a9]] ae fun ai a5 => ∃ (a0 : Bool), ai = .returned (.bool a0) ∧
 bif !a0 then (
 R (.bool false) a5) else (
 bif decide (t2 > 0) then (
 ∃ (a4 : Int), a5.cell? ((blk a7.heap.size).add 0) = some (.int .i64 a4) ∧
 ak.elim False fun am =>
 0 ≤ ((IntKind.i64.wrap (t2 - 1)) : Int) ∧ ((IntKind.i64.wrap (t2 - 1)) : Int) < (ah : Int) ∧
 ∃ (a3 : Int), a5.cell? ((am.add (Int.toNat (IntKind.i64.wrap (t2 - 1)) * 3)).add 0) = some (.int .i64 a3) ∧
 bif decide (a4 ≤ a3) then (
 R (.bool false) a5) else (
 ∃ aj, aj < m4 ∧ I0 aj [.int .i64 (IntKind.i64.wrap (t2 + 1))] a5)) else (
 ∃ al, al < m4 ∧ I0 al [.int .i64 (IntKind.i64.wrap (t2 + 1))] a5))) else (
 R (.bool true) a7)

theorem vRight.ok (a1 : Option Addr) (a2 a0 : Nat) {R : RW} {w : World} (h : vRight.M a1 a2 a0 R w) : Calls Try.prog 38 #[.slice a1 a2 a0] w fun e w' => ∃ v, e = .returned v ∧ R v w' :=
  Q07 follows (H := [(0, [0, 5, 6], [(7, (.one (.int .i64)))])]) (args := [.slice a1 a2 a0]) (cast (by kernel_rfl) h)

def vrh.M (a2 a5 a4 : Int) (R : RW) (w : World) : Prop :=
 thenW (w.alloc (.cells #[.int .i64 a2, .int .i64 a5, .int .u64 a4] 66)) fun a3 =>
 ∃ (a0 : Int), a3.cell? ((blk w.heap.size).add 0) = some (.int .i64 a0) ∧
 bif decide (a0 ≥ 0) then (
 ∃ (a1 : Int), a3.cell? ((blk w.heap.size).add 0) = some (.int .i64 a1) ∧
 bif decide (a1 < 8) then (
 ∃ (a8 : Int), a3.cell? ((blk w.heap.size).add 1) = some (.int .i64 a8) ∧
 bif decide (a8 > 0) then (
 ∃ (a7 : Int), a3.cell? ((blk w.heap.size).add 1) = some (.int .i64 a7) ∧
 bif decide (a7 ≤ 200) then (
 ∃ (a6 : Int), a3.cell? ((blk w.heap.size).add 2) = some (.int .u64 a6) ∧
 R (.bool (a6 != 0)) a3) else (
 R (.bool false) a3)) else (
 R (.bool false) a3)) else (
 R (.bool false) a3)) else (
 R (.bool false) a3)

theorem vrh.ok (a0 a1 a2 : Int) {R : RW} {w : World} (h : vrh.M a0 a1 a2 R w) : Calls Try.prog 63 #[.agg #[.int .i64 a0, .int .i64 a1, .int .u64 a2]] w fun e w' => ∃ v, e = .returned v ∧ R v w' :=
  Q07 follows (H := []) (args := [.agg #[.int .i64 a0, .int .i64 a1, .int .u64 a2]]) (cast (by kernel_rfl) h)

def GivesV (v : Value) (Q : World → Prop) (e : Ending) (w' : World) : Prop := e = .returned v ∧ Q w'
abbrev Hd := Int × Int × Int
def hdC (h : Hd) : List Value := [.int .i64 h.1, .int .i64 h.2.1, .int .u64 h.2.2]
def hdV (h : Hd) : Value := .agg #[.int .i64 h.1, .int .i64 h.2.1, .int .u64 h.2.2]
def hsC (hs : List Hd) : List Value := hs.flatMap hdC
theorem Q2w : ∀ hs : List Hd, (hsC hs).length = hs.length * 3
  | [] => rfl
  | h :: r => by
    have := Q2w r
    simp only [hsC, List.flatMap_cons, List.length_append, List.length_cons] at this ⊢
    rw [this]; simp [hdC]; omega
theorem hsC_get : ∀ {hs : List Hd} {i : Nat} {h : Hd}, hs[i]? = some h → ∀ j, j < 3 → (hsC hs)[i * 3 + j]? = (hdC h)[j]?
  | [], i, h, hi, j, hj => by simp at hi
  | a :: r, 0, h, hi, j, hj => by
    simp only [List.getElem?_cons_zero, Option.some.injEq] at hi
    subst hi
    simp only [hsC, List.flatMap_cons, Nat.zero_mul, Nat.zero_add]
    rw [List.getElem?_append_left (by simp [hdC]; omega)]
  | a :: r, i + 1, h, hi, j, hj => by
    simp only [List.getElem?_cons_succ] at hi
    have := hsC_get hi j hj
    simp only [hsC, List.flatMap_cons] at this ⊢
    rw [List.getElem?_append_right (by simp [hdC]; omega), show (i + 1) * 3 + j - (hdC a).length = i * 3 + j by simp [hdC]; omega]
    exact this
theorem hs_cell {w : World} {ad : Addr} {hs : List Hd} (hr : RowAt w (some ad) (hsC hs)) {i : Nat} {h : Hd} (hi : hs[i]? = some h) {j : Nat} {v : Value} (hv : (hdC h)[j]? = some v) : w.cell? ((ad.add (i * 3)).add j) = some v := by
  have hj : j < 3 := by have := (List.getElem?_eq_some_iff.1 hv).1; simpa [hdC] using this
  rw [add_add]
  exact hr.at_ ((hsC_get hi j hj).trans hv)
theorem hs_at {w : World} {ad : Addr} {hs : List Hd} (hr : RowAt w (some ad) (hsC hs)) {i : Nat} {h : Hd} (hi : hs[i]? = some h) : cellsAt w (ad.add (i * 3)) [.int .i64 h.1, .int .i64 h.2.1, .int .u64 h.2.2] 0 :=
  ⟨hs_cell hr hi (j := 0) rfl, hs_cell hr hi (j := 1) rfl, hs_cell hr hi (j := 2) rfl, trivial⟩
theorem hsC_ne {hs : List Hd} (h : hs ≠ []) : hsC hs ≠ [] := fun e => by
  have := Q2w hs
  rw [e] at this
  simp at this
  exact h (List.eq_nil_of_length_eq_zero (by omega))

def rhead (h : Hd) : Bool := decide (h.1 ≥ 0) && (decide (h.1 < 8) && (decide (h.2.1 > 0) && (decide (h.2.1 ≤ 200) && (h.2.2 != 0))))
def rightF : Option Int → List Hd → Bool
  | _, [] => true
  | p, h :: r => rhead h && (match p with | none => true | some q => decide (q < h.1)) && rightF (some h.1) r
def rightV (hs : List Hd) : Bool := rightF none hs
def prevOf (hs : List Hd) : Nat → Option Int
  | 0 => none
  | t + 1 => (hs[t]?).map (·.1)
theorem Q2X : ∀ {hs : List Hd} {p : Option Int}, rightF p hs = true → (∀ q, p = some q → ∀ h ∈ hs, q < h.1) ∧ (hs.map (·.1)).Pairwise (· < ·)
  | [], p, _ => ⟨fun q _ h hh => by simp at hh, by simp⟩
  | a :: r, p, h => by
    simp only [rightF, Bool.and_eq_true] at h
    obtain ⟨⟨h1, h2⟩, h3⟩ := h
    obtain ⟨i1, i2⟩ := Q2X h3
    refine ⟨fun q hq x hx => ?_, ?_⟩
    · subst hq
      simp only [decide_eq_true_eq] at h2
      rcases List.mem_cons.1 hx with rfl | hx
      · exact h2
      · have := i1 a.1 rfl x hx; omega
    · simp only [List.map_cons, List.pairwise_cons]
      refine ⟨fun b hb => ?_, i2⟩
      obtain ⟨x, hx, rfl⟩ := List.mem_map.1 hb
      exact i1 a.1 rfl x hx
section
variable {w w' : World} {a : Option Addr} {c : Nat} {hs : List Hd}
theorem Q2s (h : Hd) : Calls Try.prog 63 #[hdV h] w (GivesV (.bool (rhead h)) fun w' => Ext no w w') := by
  refine (vrh.ok _ _ _ (R := fun v w' => v = .bool (rhead h) ∧ Ext no w w') ?_).mono fun e w' ⟨v, he, hv, hw⟩ => ⟨by rw [he, hv], hw⟩
  unfold vrh.M
  refine Q01 fun w4 h4 => ?_
  have hb : Blk w4 w.heap.size 66 (hdC h) := by subst h4; exact Blk.new _ _ _
  have hx : Ext no w w4 := by subst h4; exact (Ext.refl _ _).alloc _
  refine ⟨_, hb.cella (i := 0) rfl, ?_⟩
  unfold rhead
  by_cases c1 : h.1 ≥ 0
  · rw [decide_eq_true c1, cond_true, Bool.true_and]
    refine ⟨_, hb.cella (i := 0) rfl, ?_⟩
    by_cases c2 : h.1 < 8
    · rw [decide_eq_true c2, cond_true, Bool.true_and]
      refine ⟨_, hb.cella (i := 1) rfl, ?_⟩
      by_cases c3 : h.2.1 > 0
      · rw [decide_eq_true c3, cond_true, Bool.true_and]
        refine ⟨_, hb.cella (i := 1) rfl, ?_⟩
        by_cases c4 : h.2.1 ≤ 200
        · rw [decide_eq_true c4, cond_true, Bool.true_and]
          exact ⟨_, hb.cella (i := 2) rfl, rfl, hx⟩
        · rw [decide_eq_false c4]; exact ⟨rfl, hx⟩
      · rw [decide_eq_false c3]; exact ⟨rfl, hx⟩
    · rw [decide_eq_false c2]; exact ⟨rfl, hx⟩
  · rw [decide_eq_false c1]; exact ⟨rfl, hx⟩

theorem Q1v (hr : RowAt w a (hsC hs)) (hl : hs.length < 1000000) : Calls Try.prog 38 #[.slice a hs.length c] w (GivesV (.bool (rightV hs)) fun w' => Ext no w w') := by
  refine (vRight.ok _ _ _ (R := fun v w' => v = .bool (rightV hs) ∧ Ext no w w') ?_).mono fun e w' ⟨v, he, hv, hw⟩ => ⟨by rw [he, hv], hw⟩
  unfold vRight.M
  refine ⟨fun k vs w1 => ∃ t : Nat, vs = [.int .i64 t] ∧ k + t = hs.length ∧ rightF (prevOf hs t) (hs.drop t) = rightV hs ∧ Ext no w w1, hs.length, ⟨0, rfl, rfl, rfl, Ext.refl _ _⟩, ?_⟩
  rintro k w1 i ⟨t, hi, hk, hf, hx⟩
  simp only [List.cons.injEq, Value.int.injEq, true_and, and_true] at hi
  subst hi
  cases k with
  | zero =>
    obtain rfl : t = hs.length := by omega
    rw [show decide ((hs.length : Int) < (hs.length : Int)) = false by simp, cond_false]
    rw [List.drop_length] at hf
    exact ⟨by rw [← hf]; cases prevOf hs hs.length <;> rfl, hx⟩
  | succ k =>
    have ht : t < hs.length := by omega
    rw [show decide ((t : Int) < (hs.length : Int)) = true by simp; omega, cond_true]
    have hr1 := hr.no hx
    obtain ⟨ad, rfl⟩ := hr1.addr (hsC_ne (by intro e; subst e; simp at ht))
    have hgi : hs[t]? = some hs[t] := List.getElem?_eq_getElem ht
    refine ⟨by omega, by omega, _, _, _, by rw [Int.toNat_natCast]; exact hs_at hr1 hgi, Q01 fun w10 h10 => ?_⟩
    have hb10 : Blk w10 w1.heap.size 66 [.int .i64 0, .int .i64 0, .int .u64 0] := by subst h10; exact Blk.new _ _ _
    have x10 : Ext no w1 w10 := by subst h10; exact (Ext.refl _ _).alloc _
    refine ⟨hb10.cana (i := 0) rfl, Q01 fun w11 h11 => ?_⟩
    have hb11 := hb10.seta 0 (.int .i64 hs[t].1)
    rw [← h11] at hb11
    have x11 : Ext no w1 w11 := by subst h11; exact x10.setCell (.inr (by rw [add_zero]; exact Nat.le_refl _)) _
    refine ⟨hb11.cana (i := 1) rfl, Q01 fun w12 h12 => ?_⟩
    have hb12 := hb11.seta 1 (.int .i64 hs[t].2.1)
    rw [← h12] at hb12
    have x12 : Ext no w1 w12 := by subst h12; exact x11.setCell (.inr (by rw [add_blk]; exact Nat.le_refl _)) _
    refine ⟨hb12.cana (i := 2) rfl, Q01 fun w13 h13 => Q01 fun w14 h14 => ?_⟩
    have hb13 := hb12.seta 2 (.int .u64 hs[t].2.2)
    rw [← h13] at hb13
    have x13 : Ext no w1 w13 := by subst h13; exact x12.setCell (.inr (by rw [add_blk]; exact Nat.le_refl _)) _
    have hb14 := hb13.drew
    rw [← h14] at hb14
    have x14 : Ext no w1 w14 := by subst h14; exact x13.drew
    refine ⟨_, _, _, ⟨hb14.cella (i := 0) rfl, hb14.cella (i := 1) rfl, hb14.cella (i := 2) rfl, trivial⟩, ?_⟩
    refine (Q2s hs[t]).mono fun e w20 ⟨he, x20'⟩ => ⟨_, he, ?_⟩
    have x20 := x14.trans x20'
    have hb20 := hb14.ext x20' id
    have hd : hs.drop t = hs[t] :: hs.drop (t + 1) := List.drop_eq_getElem_cons ht
    rw [hd] at hf
    simp only [rightF] at hf
    by_cases c1 : rhead hs[t] = true
    · rw [c1, Bool.not_true, cond_false]
      rw [c1, Bool.true_and] at hf
      have hw1 : IntKind.i64.wrap ((t : Int) + 1) = ((t + 1 : Nat) : Int) := by rw [w64 (by omega) (by omega)]; rfl
      cases t with
      | zero =>
        rw [show decide (((0 : Nat) : Int) > 0) = false from rfl, cond_false]
        exact ⟨k, by omega, 1, by rw [hw1], by omega, by rw [← hf]; simp [prevOf, ht], hx.trans x20⟩
      | succ t =>
        rw [show decide (((t + 1 : Nat) : Int) > 0) = true by simp <;> omega, cond_true]
        have htl : t < hs.length := by omega
        have hgp : hs[t]? = some hs[t] := List.getElem?_eq_getElem htl
        have hw2 : IntKind.i64.wrap (((t + 1 : Nat) : Int) - 1) = (t : Int) := by rw [w64 (by omega) (by omega)] <;> omega
        rw [hw2]
        refine ⟨_, hb20.cella (i := 0) rfl, by omega, by omega, _, by rw [Int.toNat_natCast]; exact hs_cell (hr1.no x20) hgp (j := 0) rfl, ?_⟩
        simp only [prevOf, hgp, Option.map_some] at hf
        by_cases c2 : hs[t + 1].1 ≤ hs[t].1
        · rw [decide_eq_true c2, cond_true]
          rw [decide_eq_false (by omega), Bool.false_and] at hf
          exact ⟨by rw [← hf], hx.trans x20⟩
        · rw [decide_eq_false c2, cond_false]
          rw [decide_eq_true (by omega), Bool.true_and] at hf
          exact ⟨k, by omega, t + 2, by rw [hw1], by omega, by rw [← hf]; simp [prevOf, ht], hx.trans x20⟩
    · have c1' : rhead hs[t] = false := by simpa using c1
      rw [c1', Bool.not_false, cond_true]
      rw [c1', Bool.false_and, Bool.false_and] at hf
      exact ⟨by rw [← hf], hx.trans x20⟩

theorem Q43 (hs : List Hd) (h : rightV hs = true) {i j : Nat} {p q : Hd} (hij : i < j) (hi : hs[i]? = some p) (hj : hs[j]? = some q) : p.1 < q.1 := by
  have := (Q2X h).2
  obtain ⟨hi1, rfl⟩ := List.getElem?_eq_some_iff.1 hi
  obtain ⟨hj1, rfl⟩ := List.getElem?_eq_some_iff.1 hj
  have h2 := List.pairwise_iff_getElem.1 this i j (by simpa using hi1) (by simpa using hj1) hij
  simpa using h2
end
end Go.Proofs.Ytoempemllkebkaa
namespace Go.Proofs.Ytoempemllkebkaa
open Go Go.Mx Go.Proofs
theorem infHead : (Try.prog.info? 66).map (fun i => (i.zero, i.size, i.bytes)) = some (some (.agg #[.int .i64 0, .int .i64 0, .int .u64 0]), 3, 24) := by kernel_rfl

theorem Q4D {w w' : World} {m : Nat → Prop} {base e size n : Nat} {v : Value} {xs : List Value} (h : w.ownsRow base e size v n xs) (k : Ext m w w') (hm : ∀ q, v.ownBlock = some q → ¬ m q) : w'.ownsRow base e size v n xs := by
  refine ⟨h.1, ?_⟩
  rcases h.2 with h2 | ⟨g, cap, cur, hv, hb, hg, hr⟩
  · exact .inl h2
  · exact .inr ⟨g, cap, cur, hv, hb, k.get hg (hm g (by rw [hv]; rfl)), hr⟩
theorem Q4z (w : World) (e size : Nat) : w.ownsRow 0 e size (.slice none 0 0) 0 [] := ⟨by simp, .inl ⟨rfl, rfl⟩⟩

section
variable {w w' : World} {aa ba : Option Addr} {ac bc : Nat} {a b : List Hd}
/-! ### Compare -/
/-! ### a list of heads that grows -/
def Grows (N : Nat) (w : World) (A : Nat) (t : TypeId) (l : List Hd) : Prop :=
  ∃ ra rc, Blk w A t [.slice ra l.length rc] ∧ w.ownsRow 0 66 3 (.slice ra l.length rc) l.length (hsC l) ∧ (∀ ad, ra = some ad → N ≤ ad.block ∧ ad.block ≠ A) ∧ N ≤ A
/-! ### Missing -/
end
end Go.Proofs.Ytoempemllkebkaa
namespace Go.Proofs.Ytoempemllkebkaa
open Go Go.Mx Go.Proofs
section
variable {w w' : World} {aa ba : Option Addr} {ac bc : Nat} {a b : List Hd}
/-! ### Conflict -/
/-! ### Merge -/
/-! ### the chapter's example -/
end
end Go.Proofs.Ytoempemllkebkaa
namespace Go.Proofs.Ytoempemllkebkaa
open Go Go.Mx Go.Proofs
def fitH (h : Hd) : Prop := (Lit.int .i64 h.1).wf = true ∧ (Lit.int .i64 h.2.1).wf = true ∧ (Lit.int .u64 h.2.2).wf = true
def HeadsQ (W : World) (cs : List Value) : Prop := ∃ (a : Option Addr) (c : Nat) (hs : List Hd), cs = [.slice a hs.length c] ∧ hs.length ≤ c ∧ c ≤ maxLen ∧ RowAt W a (hsC hs) ∧ ∀ h ∈ hs, fitH h
def HeadQ (W : World) (cs : List Value) : Prop := ∃ h : Hd, cs = hdC h ∧ fitH h
theorem Q3R : Opens Try.prog 66 HeadQ :=
  (Q1e (size := 3) Try.underlying66 (by kernel_rfl)).mono fun W cs ⟨hl, h⟩ => by
    match cs, hl with
    | [c0, c1, c2], _ =>
      obtain ⟨n0, e0, f0⟩ := h 0 _ rfl _ (Q0M Try.underlying3)
      obtain ⟨n1, e1, f1⟩ := h 1 _ rfl _ (Q0M Try.underlying3)
      obtain ⟨n2, e2, f2⟩ := h 2 _ rfl _ (Q0M Try.underlying22)
      have ci : Try.prog.cellsOf 3 = 1 := by kernel_rfl
      have cu : Try.prog.cellsOf 22 = 1 := by kernel_rfl
      change List.take (Try.prog.cellsOf 3) (List.drop 0 [c0, c1, c2]) = _ at e0
      change List.take (Try.prog.cellsOf 3) (List.drop 1 [c0, c1, c2]) = _ at e1
      change List.take (Try.prog.cellsOf 22) (List.drop 2 [c0, c1, c2]) = _ at e2
      rw [ci] at e0 e1
      rw [cu] at e2
      simp only [List.drop_zero, List.drop_succ_cons, List.take_succ_cons, List.take_zero, List.cons.injEq, and_true] at e0 e1 e2
      subst e0; subst e1; subst e2
      exact ⟨(n0, n1, n2), rfl, f0, f1, f2⟩
theorem Q36 : Opens Try.prog 28 HeadsQ :=
  (Q2f (size := 3) Try.underlying28 (by kernel_rfl) Q3R).mono fun W cs ⟨a, l, c, rows, h1, h2, h3, h4, h5, h6⟩ => by
    obtain ⟨xs, h7, h8⟩ := rows_of (rows := rows) hdC fitH fun r hr => by
      obtain ⟨h, q1, q2⟩ := (h6 r hr).2
      exact ⟨h, q1, q2⟩
    subst h7
    rw [List.length_map] at h4
    subst h4
    exact ⟨a, c, xs, h1, h2, h3, by rw [hsC, List.flatMap_def]; exact h5, h8⟩

end Go.Proofs.Ytoempemllkebkaa
namespace Go.Proofs.Ytoempemllkebkaa
open Go Go.Mx Go.Proofs
open W (OwnB Rd GivesW numR countR doneR)
def vBytes.M (bc : Option Addr) (aw be : Nat) (R : RW) (w : World) : Prop :=
 Calls Try.prog 38 #[.slice bc aw be] w fun bj b9 => ∃ (ah : Bool), bj = .returned (.bool ah) ∧
 bif !ah then (
 R (.tuple #[.slice none 0 0, .int .i64 1]) b9) else (
 Calls Try.prog 26 #[.slice none 0 0, .int .u64 (IntKind.u64.wrap (aw : Int))] b9 fun bh bi => ∃ (ao : Option Addr) (al am : Nat), bh = .returned (.slice ao al am) ∧
 ∃ (I0 : Nat → List Value → World → Prop) (bg : Nat), I0 bg [.slice ao al am, .int .i64 0] bi ∧ ∀ (b7 : Nat) (a0 : World) (b4 : Option Addr) (b2 b5 : Nat) (t9 : Int), I0 b7 [.slice b4 b2 b5, .int .i64 t9] a0 →
 bif decide (t9 < (aw : Int)) then (
 bc.elim False fun bf =>
 0 ≤ (t9 : Int) ∧ (t9 : Int) < (aw : Int) ∧
 ∃ (a1 a5 a9 : Int), cellsAt a0 (bf.add (Int.toNat t9 * 3)) [.int .i64 a1, .int .i64 a5, .int .u64 a9] 0 ∧
 thenW (a0.alloc (.cells #[.int .i64 0, .int .i64 0, .int .u64 0] 66)) fun aq =>
 Q02 aq ((blk a0.heap.size).add 0) ∧
 thenW (aq.setCell ((blk a0.heap.size).add 0) (.int .i64 a1)) fun ar =>
 Q02 ar ((blk a0.heap.size).add 1) ∧
 thenW (ar.setCell ((blk a0.heap.size).add 1) (.int .i64 a5)) fun au =>
 Q02 au ((blk a0.heap.size).add 2) ∧
 thenW (au.setCell ((blk a0.heap.size).add 2) (.int .u64 a9)) fun ak =>
 ∃ (a2 : Int), ak.cell? ((blk a0.heap.size).add 0) = some (.int .i64 a2) ∧
 ∃ (ap : Int), ak.cell? ((blk a0.heap.size).add 1) = some (.int .i64 ap) ∧
 ∃ (an : Int), ak.cell? ((blk a0.heap.size).add 2) = some (.int .u64 an) ∧
 ∃ (I2 : Nat → List Value → World → Prop) (bd : Nat), I2 bd [.slice b4 b2 b5, .int .i64 0] ak ∧ ∀ (av : Nat) (af : World) (a6 : Option Addr) (aa a3 : Nat) (aj : Int), I2 av [.slice a6 aa a3, .int .i64 aj] af →
 bif decide (aj < 3) then (
 0 ≤ (aj : Int) ∧ (aj : Int) < (3 : Int) ∧
 ((aj : Int) = 0 → 
 Calls Try.prog 26 #[.slice a6 aa a3, .int .u64 (IntKind.u64.wrap a2)] af fun az b1 => ∃ (a4 : Option Addr) (ac ag : Nat), az = .returned (.slice a4 ac ag) ∧
 ∃ bb, bb < av ∧ I2 bb [.slice a4 ac ag, .int .i64 (IntKind.i64.wrap (aj + 1))] b1) ∧
 ((aj : Int) = 1 → 
 Calls Try.prog 26 #[.slice a6 aa a3, .int .u64 (IntKind.u64.wrap ap)] af fun ax b3 => ∃ (ad : Option Addr) (ai a8 : Nat), ax = .returned (.slice ad ai a8) ∧
 ∃ ba, ba < av ∧ I2 ba [.slice ad ai a8, .int .i64 (IntKind.i64.wrap (aj + 1))] b3) ∧
 ((aj : Int) = 2 → 
 Calls Try.prog 26 #[.slice a6 aa a3, .int .u64 an] af fun b0 ay => ∃ (ae : Option Addr) (a7 ab : Nat), b0 = .returned (.slice ae a7 ab) ∧
 ∃ b6, b6 < av ∧ I2 b6 [.slice ae a7 ab, .int .i64 (IntKind.i64.wrap (aj + 1))] ay) ∧ True) else (
 ∃ b8, b8 < b7 ∧ I0 b8 [.slice a6 aa a3, .int .i64 (IntKind.i64.wrap (t9 + 1))] af)) else (
 R (.tuple #[.slice b4 b2 b5, .int .i64 0]) a0))

theorem vBytes.ok (a1 : Option Addr) (a2 a0 : Nat) {R : RW} {w : World} (h : vBytes.M a1 a2 a0 R w) : Calls Try.prog 28 #[.slice a1 a2 a0] w fun e w' => ∃ v, e = .returned v ∧ R v w' :=
  Q07 follows (H := [(0, [16, 17], [(4, (.one .slice)), (18, (.one (.int .i64)))]), (2, [16, 17, 18, 30], [(4, (.one .slice)), (31, (.one (.int .i64)))])]) (args := [.slice a1 a2 a0]) (cast (by kernel_rfl) h)

def vRead.M (b7 : Option Addr) (b6 b1 : Nat) (R : RW) (w : World) : Prop :=
 Calls Try.prog 33 #[.slice b7 b6 b1] w fun b8 b5 => ∃ (a1 : Option Addr), b8 = .returned (.pointer a1) ∧
 Calls Try.prog 54 #[.pointer a1, .int .i64 8] b5 fun b3 b4 => ∃ (a7 : Int), b3 = .returned (.int .i64 a7) ∧
 ∃ (I0 : Nat → List Value → World → Prop) (b2 : Nat), I0 b2 [.slice none 0 0, .int .i64 0] b4 ∧ ∀ (az : Nat) (a0 : World) (an : Option Addr) (al am : Nat) (t9 : Int), I0 az [.slice an al am, .int .i64 t9] a0 →
 bif decide (t9 < a7) then (
 thenW (a0.alloc (.cells #[.int .i64 0, .int .i64 0, .int .u64 0] 66)) fun ao =>
 Calls Try.prog 54 #[.pointer a1, .int .i64 7] ao fun ax ae => ∃ (a4 : Int), ax = .returned (.int .i64 a4) ∧
 Q02 ae (((blk a0.heap.size).add 0).add 0) ∧
 thenW (ae.setCell (((blk a0.heap.size).add 0).add 0) (.int .i64 a4)) fun ap =>
 Calls Try.prog 54 #[.pointer a1, .int .i64 200] ap fun ay ah => ∃ (a5 : Int), ay = .returned (.int .i64 a5) ∧
 Q02 ah (((blk a0.heap.size).add 1).add 0) ∧
 thenW (ah.setCell (((blk a0.heap.size).add 1).add 0) (.int .i64 a5)) fun aq =>
 Calls Try.prog 71 #[.pointer a1] aq fun au ai => ∃ (aa : Int), au = .returned (.int .u64 aa) ∧
 Q02 ai (((blk a0.heap.size).add 2).add 0) ∧
 thenW (ai.setCell (((blk a0.heap.size).add 2).add 0) (.int .u64 aa)) fun ab =>
 ∃ (a2 a9 a8 : Int), cellsAt ab (blk a0.heap.size) [.int .i64 a2, .int .i64 a9, .int .u64 a8] 0 ∧
 thenW (ab.alloc (.cells #[.int .i64 a2, .int .i64 a9, .int .u64 a8] 66)) fun aw =>
 ∃ (ad : Option Addr) (ak ac : Nat) (af : World), (Builtin.append_ #[36, 36] 36 #[.slice an al am, .slice (some (blk ab.heap.size)) 1 1]).run Try.prog aw = .ok (.slice ad ak ac) af ∧
 ∃ b0, b0 < az ∧ I0 b0 [.slice ad ak ac, .int .i64 (IntKind.i64.wrap (t9 + 1))] af) else (
 Calls Try.prog 56 #[.pointer a1] a0 fun ar ag => ∃ (a3 : Int), ar = .returned (.int .i64 a3) ∧
 bif a3 != 0 then (
 R (.tuple #[.slice none 0 0, .int .i64 a3]) ag) else (
 Calls Try.prog 38 #[.slice an al am] ag fun av aj => ∃ (a6 : Bool), av = .returned (.bool a6) ∧
 bif !a6 then (
 R (.tuple #[.slice none 0 0, .int .i64 4]) aj) else (
 R (.tuple #[.slice an al am, .int .i64 0]) aj)))

theorem vRead.ok (a1 : Option Addr) (a0 a2 : Nat) {R : RW} {w : World} (h : vRead.M a1 a0 a2 R w) : Calls Try.prog 93 #[.slice a1 a0 a2] w fun e w' => ∃ v, e = .returned v ∧ R v w' :=
  Q07 follows (H := [(0, [4, 10], [(2, (.one .slice)), (11, (.one (.int .i64)))])]) (args := [.slice a1 a0 a2]) (cast (by kernel_rfl) h)

def rSame5.M (ad : Option Addr) (a7 ah : Nat) (ae : Option Addr) (ac ag : Nat) (R : RW) (w : World) : Prop :=
 bif (a7 : Int) != (ac : Int) then (
 R (.bool false) w) else (
 ∃ (I0 : Nat → List Value → World → Prop) (m4 : Nat), I0 m4 [.int .i64 0] w ∧ ∀ (m5 : Nat) (a9 : World) (i3 : Int), I0 m5 [.int .i64 i3] a9 →
 bif decide (i3 < (a7 : Int)) then (
 thenW (a9.drew) fun a6 =>
 ad.elim False fun a8 =>
 0 ≤ (i3 : Int) ∧ (i3 : Int) < (a7 : Int) ∧
 ∃ (a1 a5 a2 : Int), cellsAt a6 (a8.add (Int.toNat i3 * 3)) [.int .i64 a1, .int .i64 a5, .int .u64 a2] 0 ∧
 ae.elim False fun af =>
 0 ≤ (i3 : Int) ∧ (i3 : Int) < (ac : Int) ∧
 ∃ (a0 a4 a3 : Int), cellsAt a6 (af.add (Int.toNat i3 * 3)) [.int .i64 a0, .int .i64 a4, .int .u64 a3] 0 ∧
 ∃ (aa : Bool), (binOp .neq 66 (.agg #[.int .i64 a1, .int .i64 a5, .int .u64 a2]) (.agg #[.int .i64 a0, .int .i64 a4, .int .u64 a3])).run Try.prog a6 = .ok (.bool aa) a6 ∧
 bif aa then (
 R (.bool false) a6) else (
 ∃ ab, ab < m5 ∧ I0 ab [.int .i64 (IntKind.i64.wrap (i3 + 1))] a6)) else (
 R (.bool true) a9))

theorem rSame5.ok (a2 : Option Addr) (a3 a5 : Nat) (a4 : Option Addr) (a1 a0 : Nat) {R : RW} {w : World} (h : rSame5.M a2 a3 a5 a4 a1 a0 R w) : Calls Try.prog 36 #[.slice a2 a3 a5, .slice a4 a1 a0] w fun e w' => ∃ v, e = .returned v ∧ R v w' :=
  Q07 follows (H := [(0, [0, 1], [(5, (.one (.int .i64)))])]) (args := [.slice a2 a3 a5, .slice a4 a1 a0]) (cast (by kernel_rfl) h)

def wSame.M (a7 : Option Addr) (a1 ab : Nat) (a9 : Option Addr) (a3 aa : Nat) (R : RW) (w : World) : Prop :=
 bif (a1 : Int) != (a3 : Int) then (
 R (.bool false) w) else (
 ∃ (I0 : Nat → List Value → World → Prop) (m4 : Nat), I0 m4 [.int .i64 0] w ∧ ∀ (m5 : Nat) (a2 : World) (i3 : Int), I0 m5 [.int .i64 i3] a2 →
 bif decide (i3 < (a1 : Int)) then (
 thenW (a2.drew) fun a0 =>
 a7.elim False fun a8 =>
 0 ≤ (i3 : Int) ∧ (i3 : Int) < (a1 : Int) ∧
 ∃ (x9 : Int), a0.cell? (a8.add (Int.toNat i3 * 1)) = some (.int .u8 x9) ∧
 a9.elim False fun a6 =>
 0 ≤ (i3 : Int) ∧ (i3 : Int) < (a3 : Int) ∧
 ∃ (a4 : Int), a0.cell? (a6.add (Int.toNat i3 * 1)) = some (.int .u8 a4) ∧
 bif x9 != a4 then (
 R (.bool false) a0) else (
 ∃ a5, a5 < m5 ∧ I0 a5 [.int .i64 (IntKind.i64.wrap (i3 + 1))] a0)) else (
 R (.bool true) a2))

theorem wSame.eq (a1a : Option Addr) (a1n a1c : Nat) (b2a : Option Addr) (b2n b2c : Nat) (R : RW) (w : World) : mfunc Try.prog [(0, [0, 1], [(5, (.one (.int .i64)))])] 11 [.slice a1a a1n a1c, .slice b2a b2n b2c] R w = wSame.M a1a a1n a1c b2a b2n b2c R w := by kernel_rfl
theorem wSame.ok (a2 : Option Addr) (a3 a5 : Nat) (a4 : Option Addr) (a1 a0 : Nat) {R : RW} {w : World} (h : wSame.M a2 a3 a5 a4 a1 a0 R w) : Calls Try.prog 11 #[.slice a2 a3 a5, .slice a4 a1 a0] w fun e w' => ∃ v, e = .returned v ∧ R v w' :=
  Q07 follows (H := [(0, [0, 1], [(5, (.one (.int .i64)))])]) (args := [.slice a2 a3 a5, .slice a4 a1 a0]) (by rw [wSame.eq]; exact h)

def hdL (h : Hd) : List UInt8 := numL h.1.toNat ++ (numL h.2.1.toNat ++ numL h.2.2.toNat)
def vecL (hs : List Hd) : List UInt8 := numL hs.length ++ hs.flatMap hdL
theorem numL_le (n : Nat) : (numL n).length ≤ 10 := numF_le 10 n
theorem hdL_le (h : Hd) : (hdL h).length ≤ 30 := by
  have := numL_le h.1.toNat; have := numL_le h.2.1.toNat; have := numL_le h.2.2.toNat
  simp only [hdL, List.length_append]; omega
theorem hdsL_le : ∀ hs : List Hd, (hs.flatMap hdL).length ≤ 30 * hs.length
  | [] => Nat.le_refl _
  | h :: r => by
    have := hdsL_le r; have := hdL_le h
    simp only [List.flatMap_cons, List.length_append, List.length_cons]; omega
def natH (h : Hd) : Prop := 0 ≤ h.1 ∧ h.1 < 18446744073709551616 ∧ 0 ≤ h.2.1 ∧ h.2.1 < 18446744073709551616 ∧ 0 ≤ h.2.2 ∧ h.2.2 < 18446744073709551616
theorem Q4h {h : Hd} (hr : rhead h = true) (hf : 0 ≤ h.2.2 ∧ h.2.2 < 18446744073709551616) : natH h := by
  simp only [rhead, Bool.and_eq_true, decide_eq_true_eq] at hr
  obtain ⟨a, b, c, d, _⟩ := hr
  exact ⟨a, by omega, by omega, by omega, hf.1, hf.2⟩
theorem Q18 : ∀ {hs : List Hd} {p : Option Int}, rightF p hs = true → ∀ h ∈ hs, rhead h = true
  | [], _, _, h, hh => by simp at hh
  | a :: r, p, hr, h, hh => by
    simp only [rightF, Bool.and_eq_true] at hr
    rcases List.mem_cons.1 hh with rfl | hh
    · exact hr.1.1
    · exact Q18 hr.2 h hh
theorem OwnB.mono {N M : Nat} {w : World} {a : Option Addr} {c : Nat} {bs : List UInt8} (h : OwnB N w a c bs) (hM : M ≤ N) : OwnB M w a c bs := ⟨h.own, fun ad ha => ⟨Nat.le_trans hM (h.fr ad ha).1, (h.fr ad ha).2⟩⟩

section
variable {w w' : World} {a : Option Addr} {c : Nat} {hs : List Hd}
theorem Q3e (hr : RowAt w a (hsC hs)) (hl : hs.length ≤ 1000) (hn : rightV hs = true → ∀ h ∈ hs, natH h) :
    Calls Try.prog 28 #[.slice a hs.length c] w (fun e w' => Ext no w w' ∧ ((rightV hs = false ∧ e = .returned (.tuple #[.slice none 0 0, .int .i64 1])) ∨ (rightV hs = true ∧ ∃ a' c', e = .returned (.tuple #[.slice a' (vecL hs).length c', .int .i64 0]) ∧ OwnB w.heap.size w' a' c' (vecL hs)))) := by
  refine (vBytes.ok _ _ _ (R := fun v w' => Ext no w w' ∧ ((rightV hs = false ∧ v = .tuple #[.slice none 0 0, .int .i64 1]) ∨ (rightV hs = true ∧ ∃ a' c', v = .tuple #[.slice a' (vecL hs).length c', .int .i64 0] ∧ OwnB w.heap.size w' a' c' (vecL hs)))) ?_).mono fun e w' ⟨v, he, hx, hv⟩ => ⟨hx, hv.imp (fun ⟨h1, h2⟩ => ⟨h1, by rw [he, h2]⟩) (fun ⟨h1, a', c', h2, h3⟩ => ⟨h1, a', c', by rw [he, h2], h3⟩)⟩
  unfold vBytes.M
  refine (Q1v hr (by omega)).mono fun e w4 ⟨he, x4⟩ => ⟨_, he, ?_⟩
  by_cases hright : rightV hs = true
  · rw [hright, Bool.not_true, cond_false]
    have hnat := hn hright
    rw [wu64 (n := (hs.length : Int)) (by omega) (by omega)]
    refine (W.Num_spec (bs := []) (n := hs.length) (RowAt.nil _ none) (by decide) (by omega)).mono fun e w7 ⟨a7, c7, he, ho7, x7'⟩ => ⟨a7, _, c7, he, ?_⟩
    rw [List.nil_append] at ho7 ⊢
    have x7 := x4.trans x7'
    refine ⟨fun k vs w1 => ∃ (t : Nat) (a1 : Option Addr) (c1 : Nat), vs = [.slice a1 (numL hs.length ++ (hs.take t).flatMap hdL).length c1, .int .i64 t] ∧ k + t = hs.length ∧ OwnB w.heap.size w1 a1 c1 (numL hs.length ++ (hs.take t).flatMap hdL) ∧ Ext no w w1, hs.length,
      ⟨0, a7, c7, by simp, rfl, by simpa using OwnB.mono ho7 x4.size, x7⟩, ?_⟩
    rintro k w12 b0 n0 c0 i ⟨t, a1, c1, hvs, hk, ho, hx⟩
    simp only [List.cons.injEq, Value.int.injEq, Value.slice.injEq, true_and, and_true] at hvs
    obtain ⟨⟨rfl, rfl, rfl⟩, rfl⟩ := hvs
    cases k with
    | zero =>
      obtain rfl : t = hs.length := by omega
      rw [show decide ((hs.length : Int) < (hs.length : Int)) = false by simp, cond_false]
      rw [List.take_length] at ho ⊢
      exact ⟨hx, .inr ⟨rfl, _, _, rfl, ho⟩⟩
    | succ k =>
      have ht : t < hs.length := by omega
      rw [show decide ((t : Int) < (hs.length : Int)) = true by simp; omega, cond_true]
      have hr1 := hr.no hx
      obtain ⟨ad, rfl⟩ := hr1.addr (hsC_ne (by intro e; subst e; simp at ht))
      have hgi : hs[t]? = some hs[t] := List.getElem?_eq_getElem ht
      obtain ⟨m1, m2, m3, m4, m5, m6⟩ := hnat hs[t] (List.getElem_mem ht)
      refine ⟨by omega, by omega, _, _, _, by rw [Int.toNat_natCast]; exact hs_at hr1 hgi, Q01 fun w17 h17 => ?_⟩
      have hb17 : Blk w17 w12.heap.size 66 [.int .i64 0, .int .i64 0, .int .u64 0] := by subst h17; exact Blk.new _ _ _
      have x17 : Ext no w12 w17 := by subst h17; exact (Ext.refl _ _).alloc _
      refine ⟨hb17.cana (i := 0) rfl, Q01 fun w18 h18 => ?_⟩
      have hb18 := hb17.seta 0 (.int .i64 hs[t].1)
      rw [← h18] at hb18
      have x18 : Ext no w12 w18 := by subst h18; exact x17.setCell (.inr (by rw [add_zero]; exact Nat.le_refl _)) _
      refine ⟨hb18.cana (i := 1) rfl, Q01 fun w19 h19 => ?_⟩
      have hb19 := hb18.seta 1 (.int .i64 hs[t].2.1)
      rw [← h19] at hb19
      have x19 : Ext no w12 w19 := by subst h19; exact x18.setCell (.inr (by rw [add_blk]; exact Nat.le_refl _)) _
      refine ⟨hb19.cana (i := 2) rfl, Q01 fun w20 h20 => ?_⟩
      have hb20 := hb19.seta 2 (.int .u64 hs[t].2.2)
      rw [← h20] at hb20
      have x20 : Ext no w12 w20 := by subst h20; exact x19.setCell (.inr (by rw [add_blk]; exact Nat.le_refl _)) _
      refine ⟨_, hb20.cella (i := 0) rfl, _, hb20.cella (i := 1) rfl, _, hb20.cella (i := 2) rfl, ?_⟩
      -- the three numbers
      have hlen : (numL hs.length ++ (hs.take t).flatMap hdL).length ≤ 10 + 30 * 1000 := by
        have h1 := numL_le hs.length
        have h2 := hdsL_le (hs.take t)
        rw [List.length_take] at h2
        rw [List.length_append]; omega
      have n1 := numL_le hs[t].1.toNat; have n2 := numL_le hs[t].2.1.toNat; have n3 := numL_le hs[t].2.2.toNat
      rw [wu64 m1 m2, wu64 m3 m4]
      generalize hbase : numL hs.length ++ (hs.take t).flatMap hdL = base at *
      have part : ∀ j : Nat, j ≤ 3 → ((([numL hs[t].1.toNat, numL hs[t].2.1.toNat, numL hs[t].2.2.toNat] : List (List UInt8)).take j).flatten).length ≤ 30 := fun j hj => by
        match j, hj with
        | 0, _ => simp
        | 1, _ => simp; omega
        | 2, _ => simp; omega
        | 3, _ => simp; omega
      refine ⟨fun k2 vs w1 => ∃ (j : Nat) (a2 : Option Addr) (c2 : Nat), vs = [.slice a2 (base ++ (([numL hs[t].1.toNat, numL hs[t].2.1.toNat, numL hs[t].2.2.toNat] : List (List UInt8)).take j).flatten).length c2, .int .i64 j] ∧ k2 + j = 3 ∧ OwnB w.heap.size w1 a2 c2 (base ++ (([numL hs[t].1.toNat, numL hs[t].2.1.toNat, numL hs[t].2.2.toNat] : List (List UInt8)).take j).flatten) ∧ Ext no w w1, 3,
        ⟨0, b0, c0, by simp, rfl, by simpa using ho.no x20, hx.trans x20⟩, ?_⟩
      rintro k2 w28 b2 l2 c2 i2 ⟨j, a2', c2', hvs, hk2, ho2, hx2⟩
      simp only [List.cons.injEq, Value.int.injEq, Value.slice.injEq, true_and, and_true] at hvs
      obtain ⟨⟨rfl, rfl, rfl⟩, rfl⟩ := hvs
      cases k2 with
      | zero =>
        obtain rfl : j = 3 := by omega
        rw [show decide (((3 : Nat) : Int) < 3) = false from rfl, cond_false]
        have hnx : base ++ (([numL hs[t].1.toNat, numL hs[t].2.1.toNat, numL hs[t].2.2.toNat] : List (List UInt8)).take 3).flatten = numL hs.length ++ (hs.take (t + 1)).flatMap hdL := by
          rw [← hbase, List.take_add_one (l := hs) (i := t), hgi, Option.toList_some, List.flatMap_append]
          show (numL hs.length ++ (hs.take t).flatMap hdL) ++ (numL hs[t].1.toNat ++ (numL hs[t].2.1.toNat ++ (numL hs[t].2.2.toNat ++ []))) = numL hs.length ++ ((hs.take t).flatMap hdL ++ (hdL hs[t] ++ []))
          simp only [hdL, List.append_nil, List.append_assoc]
        rw [hnx] at ho2 ⊢
        exact ⟨k, by omega, t + 1, _, _, by rw [w64 (by omega) (by omega)]; rfl, by omega, ho2, hx2⟩
      | succ k2 =>
        have hj : j < 3 := by omega
        rw [show decide ((j : Int) < 3) = true by simp; omega, cond_true]
        refine ⟨by omega, by omega, ?_⟩
        have hp := part j (by omega)
        -- one number more
        have step : ∀ (n : Nat), n < 18446744073709551616 → (([numL hs[t].1.toNat, numL hs[t].2.1.toNat, numL hs[t].2.2.toNat] : List (List UInt8))[j]? = some (numL n)) → ∀ x : Int, x = (n : Int) →
            Calls Try.prog 26 #[.slice b2 (base ++ (([numL hs[t].1.toNat, numL hs[t].2.1.toNat, numL hs[t].2.2.toNat] : List (List UInt8)).take j).flatten).length c2, .int .u64 x] w28 (fun ee31 ww32 => ∃ (num30a : Option Addr) (num30n num30c : Nat), ee31 = .returned (.slice num30a num30n num30c) ∧
              ∃ m33, m33 < k2 + 1 ∧ ∃ (j' : Nat) (a2 : Option Addr) (c2 : Nat), [Value.slice num30a num30n num30c, .int .i64 (IntKind.i64.wrap ((j : Int) + 1))] = [.slice a2 (base ++ (([numL hs[t].1.toNat, numL hs[t].2.1.toNat, numL hs[t].2.2.toNat] : List (List UInt8)).take j').flatten).length c2, .int .i64 j'] ∧ m33 + j' = 3 ∧ OwnB w.heap.size ww32 a2 c2 (base ++ (([numL hs[t].1.toNat, numL hs[t].2.1.toNat, numL hs[t].2.2.toNat] : List (List UInt8)).take j').flatten) ∧ Ext no w ww32) := fun n hn64 hj2 x hx' => by
          subst hx'
          refine (W.Num_spec (c := c2) ho2.row (by rw [List.length_append]; omega) hn64).mono fun e w32 ⟨a3, c3, he, ho3, x3⟩ => ⟨a3, _, c3, he, k2, by omega, j + 1, a3, c3, ?_, by omega, ?_, hx2.trans x3⟩
          · rw [w64 (by omega) (by omega), List.take_add_one, hj2]
            simp [List.append_assoc]
          · rw [List.take_add_one, hj2]
            have := OwnB.mono ho3 hx2.size
            simpa [List.append_assoc] using this
        refine ⟨fun h => ?_, fun h => ?_, fun h => ?_, trivial⟩
        · obtain rfl : j = 0 := by omega
          exact step hs[t].1.toNat (by omega) rfl hs[t].1 (by omega)
        · obtain rfl : j = 1 := by omega
          exact step hs[t].2.1.toNat (by omega) rfl hs[t].2.1 (by omega)
        · obtain rfl : j = 2 := by omega
          exact step hs[t].2.2.toNat (by omega) rfl hs[t].2.2 (by omega)
  · rw [show rightV hs = false by simpa using hright, Bool.not_false, cond_true]
    exact ⟨x4, .inl ⟨rfl, rfl⟩⟩

/-! ### reading -/
def readF : Nat → List Hd → List UInt8 × Int → List Hd × (List UInt8 × Int)
  | 0, hs, s => (hs, s)
  | n + 1, hs, s =>
    readF n (hs ++ [(((countR 7 s).1 : Int), (((countR 200 (countR 7 s).2).1 : Int), ((numR (countR 200 (countR 7 s).2).2).1 : Int)))]) (numR (countR 200 (countR 7 s).2).2).2
def readAll (b : List UInt8) : List Hd × (List UInt8 × Int) := readF (countR 8 (b, 0)).1 [] (countR 8 (b, 0)).2
def readV (b : List UInt8) : List Hd × Int :=
  if doneR (readAll b).2 ≠ 0 then ([], doneR (readAll b).2) else if rightV (readAll b).1 then ((readAll b).1, 0) else ([], 4)

structure OwnH (N : Nat) (w : World) (a : Option Addr) (c : Nat) (hs : List Hd) : Prop where
  own : w.ownsRow 0 66 3 (.slice a hs.length c) hs.length (hsC hs)
  fr : ∀ ad, a = some ad → N ≤ ad.block ∧ ad.block < w.heap.size
theorem OwnH.row {N : Nat} (h : OwnH N w a c hs) : RowAt w a (hsC hs) := by
  obtain ⟨_, _, hv, hr⟩ := RowAt.of_owns h.own
  cases hv; exact hr
theorem OwnH.ext {N : Nat} {m : Nat → Prop} (h : OwnH N w a c hs) (k : Ext m w w') (hm : ∀ ad, a = some ad → ¬ m ad.block) : OwnH N w' a c hs :=
  ⟨Q4D h.own k fun q hq => by
    cases a with
    | none => simp [Value.ownBlock] at hq
    | some ad => simp only [Value.ownBlock, Option.some.injEq] at hq; subst hq; exact hm ad rfl, fun ad ha => ⟨(h.fr ad ha).1, Nat.lt_of_lt_of_le (h.fr ad ha).2 k.size⟩⟩
theorem OwnH.push {N : Nat} {ty : TypeId} (hty : Try.prog.underlying ty = some (.slice 66)) (h : OwnH N w a c hs) (hN : N ≤ w.heap.size) (hl : hs.length ≤ 1000000) {xa : Option Addr} {x : Hd} (hx : RowAt w xa (hdC x)) :
    ∃ a' c' w', (Builtin.append_ #[ty, ty] ty #[.slice a hs.length c, .slice xa 1 1]).run Try.prog w = .ok (.slice a' (hs.length + 1) c') w' ∧ OwnH N w' a' c' (hs ++ [x]) ∧ Ext (fun b => N ≤ b ∧ ∀ ad, a = some ad → b = ad.block ∨ w.heap.size ≤ b) w w' ∧ (∀ ad, a' = some ad → (∃ b, a = some b ∧ ad.block = b.block) ∨ w.heap.size ≤ ad.block) := by
  obtain ⟨i, hi, hz, hs', hby⟩ := info_of infHead
  obtain ⟨a', c', w2, hr, ho, hg, hb⟩ := Q1h (ty := ty) hty hi hz hs' hby rfl (by decide) h.own (xa := xa) (m := 1) (c := 1) rfl hx (fun u hu => by
    simp only [hdC, List.mem_cons, List.not_mem_nil, or_false] at hu
    rcases hu with rfl | rfl | rfl <;> rfl) (by omega) (by omega)
  have hrow : ∀ q, (Value.slice a hs.length c).ownBlock = some q → N ≤ q ∧ ∀ ad, a = some ad → q = ad.block := fun q hq => by
    cases a with
    | none => simp [Value.ownBlock] at hq
    | some ad => simp only [Value.ownBlock, Option.some.injEq] at hq; subst hq; exact ⟨(h.fr ad rfl).1, fun ad' ha' => by cases ha'; rfl⟩
  refine ⟨a', c', w2, hr, ⟨?_, fun ad ha => ⟨?_, (Q12 ho).2 ad ha⟩⟩, Ext.of_grown hg fun q hq => .inl ⟨(hrow q hq).1, fun ad ha => .inl ((hrow q hq).2 ad ha)⟩, fun ad ha => ?_⟩
  · rw [List.length_append, show hsC (hs ++ [x]) = hsC hs ++ hdC x by simp [hsC]]; exact ho
  · subst ha
    rcases hb with hq | hq
    · exact (hrow _ hq.symm).1
    · simp only [Value.ownBlock, Option.some.injEq] at hq; omega
  · subst ha
    rcases hb with hq | hq
    · cases a with
      | none => simp [Value.ownBlock] at hq
      | some b => exact .inl ⟨b, rfl, by simpa [Value.ownBlock] using hq⟩
    · simp only [Value.ownBlock, Option.some.injEq] at hq; exact .inr (by omega)
end
end Go.Proofs.Ytoempemllkebkaa
namespace Go.Proofs.Ytoempemllkebkaa
open Go Go.Mx Go.Proofs
open W (OwnB Rd GivesW numR countR doneR)
section
variable {w w' : World} {a : Option Addr} {c : Nat} {hs : List Hd}
theorem OwnH.mono {N M : Nat} (h : OwnH N w a c hs) (hM : M ≤ N) : OwnH M w a c hs := ⟨h.own, fun ad ha => ⟨Nat.le_trans hM (h.fr ad ha).1, (h.fr ad ha).2⟩⟩
theorem Q22 (m : Int) (s : List UInt8 × Int) (hm : 0 ≤ m) : ((countR m s).1 : Int) ≤ m := by
  unfold countR
  split
  · split
    · exact hm
    · rename_i h; exact Decidable.byContradiction fun e => h (.inr (by omega))
  · exact hm

theorem Q3H {b : List UInt8} (hr : RowAt w a (bytesV b)) (hc : b.length ≤ c) (hl : b.length < 1000000) :
    Calls Try.prog 93 #[.slice a b.length c] w (fun e w' => ∃ ra rc, e = .returned (.tuple #[.slice ra (readV b).1.length rc, .int .i64 (readV b).2]) ∧ OwnH w.heap.size w' ra rc (readV b).1 ∧ Ext no w w') := by
  refine (vRead.ok _ _ _ (R := fun v w' => ∃ ra rc, v = .tuple #[.slice ra (readV b).1.length rc, .int .i64 (readV b).2] ∧ OwnH w.heap.size w' ra rc (readV b).1 ∧ Ext no w w') ?_).mono fun e w' ⟨v, he, ra, rc, hv, hw⟩ => ⟨ra, rc, by rw [he, hv], hw⟩
  unfold vRead.M
  refine (W.Read_spec hr hc).mono fun e w4 ⟨p, he, hR4, hp, x4⟩ => ⟨_, he, ?_⟩
  have pnew : ∀ {w1 w2 : World}, Ext no w w1 → Ext (fun b => b = p) w1 w2 → Ext no w w2 := fun h k => h.then k fun q hq => .inr (by omega)
  refine (W.Count_spec hR4 hl (m := 8) (by decide)).mono fun e w7 ⟨he, hR7, x7'⟩ => ⟨_, he, ?_⟩
  have x7 := pnew x4 x7'
  have hn8 := Q22 8 (b, 0) (by decide)
  have hcl := W.countR_len 8 (b, 0)
  have nilH : ∀ N w1, OwnH N w1 none 0 [] := fun N w1 => ⟨Q4z _ _ _, fun ad ha => by cases ha⟩
  refine ⟨fun k vs w1 => ∃ (t : Nat) (va : Option Addr) (vc : Nat) (l : List Hd) (s : List UInt8 × Int), vs = [.slice va l.length vc, .int .i64 t] ∧ k + t = (countR 8 (b, 0)).1 ∧ l.length = t ∧ Rd w1 p s.1 s.2 ∧ s.1.length ≤ b.length ∧ OwnH (p + 1) w1 va vc l ∧ (∀ ad, va = some ad → ad.block ≠ p) ∧ readF k l s = readAll b ∧ Ext no w w1, (countR 8 (b, 0)).1,
    ⟨0, none, 0, [], (countR 8 (b, 0)).2, rfl, rfl, rfl, hR7, hcl, nilH _ _, (fun ad ha => by cases ha), rfl, x7⟩, ?_⟩
  rintro k w12 v0 n0 c0 i ⟨t, va, vc, l, s, hvs, hk, hlt2, hR, hsl, hO, hOp, hF, hx⟩
  simp only [List.cons.injEq, Value.int.injEq, Value.slice.injEq, true_and, and_true] at hvs
  obtain ⟨⟨rfl, rfl, rfl⟩, rfl⟩ := hvs
  cases k with
  | zero =>
    rw [show decide ((t : Int) < ((countR 8 (b, 0)).1 : Int)) = false by simp; omega, cond_false]
    simp only [readF] at hF
    refine (W.Done_spec hR).mono fun e w35 ⟨he, hw⟩ => ⟨_, he, ?_⟩
    subst hw
    unfold readV
    rw [← hF]
    by_cases hd : doneR (s.1, s.2) ≠ 0
    · rw [show (doneR (s.1, s.2) != 0) = true by simpa using hd, cond_true, if_pos hd]
      exact ⟨none, 0, rfl, nilH _ _, hx⟩
    · rw [show (doneR (s.1, s.2) != 0) = false by simpa using hd, cond_false, if_neg hd]
      refine (Q1v hO.row (by have := hn8; omega)).mono fun e w38 ⟨he, x38⟩ => ⟨_, he, ?_⟩
      by_cases hri : rightV l = true
      · rw [hri, Bool.not_true, cond_false, if_pos rfl]
        exact ⟨_, _, rfl, (hO.ext x38 (fun _ _ h => h)).mono (by omega), hx.trans x38⟩
      · rw [show rightV l = false by simpa using hri, Bool.not_false, cond_true, if_neg (by decide)]
        exact ⟨none, 0, rfl, nilH _ _, hx.trans x38⟩
  | succ k =>
    rw [show decide ((t : Int) < ((countR 8 (b, 0)).1 : Int)) = true by simp; omega, cond_true]
    refine Q01 fun w13 h13 => ?_
    have x13' : Ext no w12 w13 := by subst h13; exact (Ext.refl _ _).alloc _
    have hH13 : Blk w13 w12.heap.size 66 (hdC (0, 0, 0)) := by subst h13; exact Blk.new _ _ _
    have x13 := hx.trans x13'
    have hpl0 := W.Rd.lt hR
    have hpH : w12.heap.size ≠ p := by omega
    have hR13 := W.Rd.no hR x13'
    have hO13 := hO.ext x13' (fun _ _ h => h)
    -- three numbers
    refine (W.Count_spec hR13 (Nat.lt_of_le_of_lt hsl hl) (m := 7) (by decide)).mono fun e w16 ⟨he, hR16, x16'⟩ => ⟨_, he, ?_⟩
    have l16 : (countR 7 (s.1, s.2)).2.1.length ≤ s.1.length := W.countR_len 7 (s.1, s.2)
    have x16 := pnew x13 x16'
    have hH16 := hH13.ext x16' hpH
    have hO16 := hO13.ext x16' hOp
    rw [add_zero]
    refine ⟨hH16.cana (i := 0) rfl, Q01 fun w17 h17 => ?_⟩
    have hH17 : Blk w17 w12.heap.size 66 (hdC ((countR 7 (s.1, s.2)).1, 0, 0)) := by subst h17; exact hH16.seta 0 _
    have x17' : Ext (fun b => b = w12.heap.size) w16 w17 := by subst h17; exact (Ext.refl (fun b => b = w12.heap.size) w16).setCell (a := (blk w12.heap.size).add 0) (.inl rfl) _
    have hR17 := W.Rd.up hR16 x17' (fun q hq => by omega)
    have hOH : ∀ ad, v0 = some ad → ¬ ad.block = w12.heap.size := fun ad ha e => by have := (hO.fr ad ha).2; omega
    have hO17 := hO16.ext x17' hOH
    have x17 : Ext no w w17 := x16.then x17' fun q hq => .inr (by have := hx.size; omega)
    refine (W.Count_spec hR17 (Nat.lt_of_le_of_lt (Nat.le_trans l16 hsl) hl) (m := 200) (by decide)).mono fun e w20 ⟨he, hR20, x20'⟩ => ⟨_, he, ?_⟩
    have l20 : (countR 200 (countR 7 (s.1, s.2)).2).2.1.length ≤ (countR 7 (s.1, s.2)).2.1.length := W.countR_len 200 (countR 7 (s.1, s.2)).2
    have x20 := pnew x17 x20'
    have hH20 := hH17.ext x20' hpH
    have hO20 := hO17.ext x20' hOp
    rw [add_zero]
    refine ⟨hH20.cana (i := 1) rfl, Q01 fun w21 h21 => ?_⟩
    have hH21 : Blk w21 w12.heap.size 66 (hdC ((countR 7 (s.1, s.2)).1, (countR 200 (countR 7 (s.1, s.2)).2).1, 0)) := by subst h21; exact hH20.seta 1 _
    have x21' : Ext (fun b => b = w12.heap.size) w20 w21 := by subst h21; exact (Ext.refl (fun b => b = w12.heap.size) w20).setCell (a := (blk w12.heap.size).add 1) (.inl (by rw [add_blk])) _
    have hR21 := W.Rd.up hR20 x21' (fun q hq => by omega)
    have hO21 := hO20.ext x21' hOH
    have x21 : Ext no w w21 := x20.then x21' fun q hq => .inr (by have := hx.size; omega)
    refine (W.RNum_spec hR21 (Nat.lt_of_le_of_lt (Nat.le_trans l20 (Nat.le_trans l16 hsl)) hl)).mono fun e w24 ⟨he, hR24, x24'⟩ => ⟨_, he, ?_⟩
    have l24 : (numR (countR 200 (countR 7 (s.1, s.2)).2).2).2.1.length ≤ (countR 200 (countR 7 (s.1, s.2)).2).2.1.length := W.numR_len (countR 200 (countR 7 (s.1, s.2)).2).2
    have x24 := pnew x21 x24'
    have hH24 := hH21.ext x24' hpH
    have hO24 := hO21.ext x24' hOp
    rw [add_zero]
    refine ⟨hH24.cana (i := 2) rfl, Q01 fun w25 h25 => ?_⟩
    have hH25 : Blk w25 w12.heap.size 66 (hdC ((countR 7 (s.1, s.2)).1, (countR 200 (countR 7 (s.1, s.2)).2).1, (numR (countR 200 (countR 7 (s.1, s.2)).2).2).1)) := by subst h25; exact hH24.seta 2 _
    have x25' : Ext (fun b => b = w12.heap.size) w24 w25 := by subst h25; exact (Ext.refl (fun b => b = w12.heap.size) w24).setCell (a := (blk w12.heap.size).add 2) (.inl (by rw [add_blk])) _
    have hR25 := W.Rd.up hR24 x25' (fun q hq => by omega)
    have hO25 := hO24.ext x25' hOH
    have x25 : Ext no w w25 := x24.then x25' fun q hq => .inr (by have := hx.size; omega)
    refine ⟨_, _, _, ⟨hH25.cella (i := 0) rfl, hH25.cella (i := 1) rfl, hH25.cella (i := 2) rfl, trivial⟩, Q01 fun w29 h29 => ?_⟩
    have x29' : Ext no w25 w29 := by subst h29; exact (Ext.refl _ _).alloc _
    have hb29 : Blk w29 w25.heap.size 66 (hdC ((countR 7 (s.1, s.2)).1, (countR 200 (countR 7 (s.1, s.2)).2).1, (numR (countR 200 (countR 7 (s.1, s.2)).2).2).1)) := by subst h29; exact Blk.new _ _ _
    have x29 := x25.trans x29'
    have hO29 := hO25.ext x29' (fun _ _ h => h)
    obtain ⟨a', c', w31, hrun, hO31, x31', hblk⟩ := hO29.push (ty := 36) Try.underlying36 (by have := W.Rd.lt hR25; have := x29'.size; omega) (by omega) (RowAt.of_blk hb29)
    have hlast : w25.heap.size + 1 = w29.heap.size := by subst h29; simp
    have hpl : p < w25.heap.size := W.Rd.lt hR25
    have hR29 := W.Rd.no hR25 x29'
    -- the append turns the row of the heads, or makes another
    have hR31 : Rd w31 p (numR (countR 200 (countR 7 (s.1, s.2)).2).2).2.1 (numR (countR 200 (countR 7 (s.1, s.2)).2).2).2.2  := W.Rd.up hR29 x31' fun q hq => by have := hq.1; omega
    refine ⟨a', _, c', w31, hrun, k, by omega, t + 1, a', c', _, (numR (countR 200 (countR 7 (s.1, s.2)).2).2).2, ?_, by omega, ?_, hR31, by omega, hO31, fun ad ha => ?_, hF, x29.then x31' fun q hq => .inr (by have := hq.1; omega)⟩
    · rw [w64 (by omega) (by omega), List.length_append]; rfl
    · rw [List.length_append]; simp; omega
    · rcases hblk ad ha with ⟨b0, hb0, e0⟩ | h
      · rw [e0]; exact hOp b0 hb0
      · omega

theorem eqf_step {P : Program} {w : World} {d : Nat} {xs ys : Array Value} {f : Field} {fs : List Field} {a b : Value} {r : Bool} (n : f.name ≠ "_") (qa : (part f.type xs f.offset).run P w = .ok a w) (qb : (part f.type ys f.offset).run P w = .ok b w) (he : (Op.equalIn d f.type a b).run P w = .ok r w) :
    (Op.eqFields d xs ys (f :: fs)).run P w = if r then (Op.eqFields d xs ys fs).run P w else .ok false w := by
  simp only [Op.eqFields, n, ne_eq, not_false_eq_true, if_true, Sem.run_bind, qa, qb, he, Result.andThen_ok]
  cases r <;> simp
theorem Q3I (w : World) (x y : Hd) : (binOp .neq 66 (hdV x) (hdV y)).run Try.prog w = .ok (.bool (decide (x ≠ y))) w := by
  obtain ⟨f0, f1, f2, ht, n0, n1, n2, o0, o1, o2, p0, p1, p2, u0, u1, u2, hp⟩ : ∃ f0 f1 f2, Try.prog.underlying 66 = some (.struct #[f0, f1, f2]) ∧ f0.name ≠ "_" ∧ f1.name ≠ "_" ∧ f2.name ≠ "_" ∧ f0.offset = 0 ∧ f1.offset = 1 ∧ f2.offset = 2 ∧
      Try.prog.plainKey f0.type = true ∧ Try.prog.plainKey f1.type = true ∧ Try.prog.plainKey f2.type = true ∧ Try.prog.underlying f0.type = some (.int .i64) ∧ Try.prog.underlying f1.type = some (.int .i64) ∧ Try.prog.underlying f2.type = some (.int .u64) ∧ Try.prog.stoodInHeld 66 = false :=
    ⟨_, _, _, Try.underlying66, by decide, by decide, by decide, rfl, rfl, rfl, by kernel_rfl, by kernel_rfl, by kernel_rfl, Try.underlying3, Try.underlying3, Try.underlying22, by kernel_rfl⟩
  have hf : Try.prog.fieldsOf 66 = #[f0, f1, f2] := by simp [Program.fieldsOf, ht]
  unfold hdV
  rw [run_neq_struct, show (10000 : Nat) = 9998 + 1 + 1 from rfl, run_equalIn_struct w (9998 + 1) _ _ _ (by rw [hf]; exact ht) hp, hf]
  have q : ∀ (z : Hd) (i : Nat) (f : Field) (v : Value), Try.prog.plainKey f.type = true → f.offset = i → (#[Value.int .i64 z.1, .int .i64 z.2.1, .int .u64 z.2.2] : Array Value)[i]? = some v → (part f.type #[Value.int .i64 z.1, .int .i64 z.2.1, .int .u64 z.2.2] f.offset).run Try.prog w = .ok v w := fun z i f v h1 h2 h3 => run_part_plain w h1 (by rw [h2]; exact h3)
  show Result.andThen ((Op.eqFields (9998 + 1) _ _ [f0, f1, f2]).run Try.prog w) _ = _
  rw [eqf_step n0 (q x 0 f0 _ p0 o0 rfl) (q y 0 f0 _ p0 o0 rfl) (run_equalIn_int w _ _ _ _ _ _ u0), eqf_step n1 (q x 1 f1 _ p1 o1 rfl) (q y 1 f1 _ p1 o1 rfl) (run_equalIn_int w _ _ _ _ _ _ u1), eqf_step n2 (q x 2 f2 _ p2 o2 rfl) (q y 2 f2 _ p2 o2 rfl) (run_equalIn_int w _ _ _ _ _ _ u2)]
  obtain ⟨x0, x1, x2⟩ := x
  obtain ⟨y0, y1, y2⟩ := y
  by_cases e0 : x0 = y0 <;> by_cases e1 : x1 = y1 <;> by_cases e2 : x2 = y2 <;> simp [e0, e1, e2, Op.eqFields]
theorem Q3U {aa ba : Option Addr} {ac bc : Nat} {x y : List Hd} (ha : RowAt w aa (hsC x)) (hb : RowAt w ba (hsC y)) (hx : x.length < 1000000) :
    Calls Try.prog 36 #[.slice aa x.length ac, .slice ba y.length bc] w (GivesV (.bool (decide (x = y))) fun w' => Ext no w w') := by
  refine (rSame5.ok _ _ _ _ _ _ (R := fun v w' => v = .bool (decide (x = y)) ∧ Ext no w w') ?_).mono fun e w' ⟨v, he, hv, hw⟩ => ⟨by rw [he, hv], hw⟩
  unfold rSame5.M
  by_cases hl : x.length = y.length
  · have hl' : ((x.length : Int) != (y.length : Int)) = false := by simp [hl]
    rw [hl', cond_false]
    refine ⟨fun k vs w1 => ∃ i : Nat, vs = [.int .i64 i] ∧ k + i = x.length ∧ x.take i = y.take i ∧ Ext no w w1, x.length, ⟨0, rfl, rfl, rfl, Ext.refl _ _⟩, ?_⟩
    rintro k w1 i3 ⟨i, hi, hk, ht, hw⟩
    simp only [List.cons.injEq, Value.int.injEq, true_and, and_true] at hi
    subst hi
    cases k with
    | succ k =>
      have hlt : i < x.length := by omega
      have hi2 : i < y.length := by omega
      rw [show decide ((i : Int) < (x.length : Int)) = true by simp; omega, cond_true]
      refine Q01 fun w7 h7 => ?_
      have hw7 : Ext no w w7 := hw.trans (by subst h7; exact (Ext.refl _ _).drew)
      have hax := ha.no hw7
      have hby := hb.no hw7
      obtain ⟨ad, rfl⟩ := hax.addr (hsC_ne (by intro e; subst e; simp at hlt))
      obtain ⟨bd, rfl⟩ := hby.addr (hsC_ne (by intro e; subst e; simp at hi2))
      refine ⟨by omega, by omega, _, _, _, by rw [Int.toNat_natCast]; exact hs_at hax (List.getElem?_eq_getElem hlt), by omega, by omega, _, _, _, by rw [Int.toNat_natCast]; exact hs_at hby (List.getElem?_eq_getElem hi2), _, Q3I w7 x[i] y[i], ?_⟩
      by_cases he : x[i] = y[i]
      · rw [decide_eq_false (by simpa using he), cond_false]
        refine ⟨k, by omega, i + 1, by rw [w64 (by omega) (by omega)]; rfl, by omega, ?_, hw7⟩
        rw [List.take_add_one, List.take_add_one, ht]; simp [hlt, hi2, he]
      · rw [decide_eq_true he, cond_true]
        exact ⟨by rw [decide_eq_false]; rintro rfl; exact he rfl, hw7⟩
    | zero =>
      rw [show decide ((i : Int) < (x.length : Int)) = false by simp; omega, cond_false]
      obtain rfl : i = x.length := by omega
      refine ⟨?_, hw⟩
      have : x = y := by
        rw [List.take_length] at ht
        rw [hl, List.take_length] at ht
        exact ht
      simp [this]
  · have hl' : ((x.length : Int) != (y.length : Int)) = true := by simp; omega
    rw [hl', cond_true]
    exact ⟨by rw [decide_eq_false]; rintro rfl; exact hl rfl, Ext.refl _ _⟩
theorem sameB_spec {a b : Option Addr} {c d : Nat} {x y : List UInt8} (ha : RowAt w a (bytesV x)) (hb : RowAt w b (bytesV y)) (hx : x.length < 1000000) :
    Calls Try.prog 11 #[.slice a x.length c, .slice b y.length d] w (GivesV (.bool (decide (x = y))) fun w' => Ext no w w') := by
  refine (wSame.ok _ _ _ _ _ _ (R := fun v w' => v = .bool (decide (x = y)) ∧ Ext no w w') ?_).mono fun e w' ⟨v, he, hv, hw⟩ => ⟨by rw [he, hv], hw⟩
  unfold wSame.M
  by_cases hl : x.length = y.length
  · have hl' : ((x.length : Int) != (y.length : Int)) = false := by simp [hl]
    rw [hl', cond_false]
    refine ⟨fun k vs w1 => ∃ i : Nat, vs = [.int .i64 i] ∧ k = x.length - i ∧ i ≤ x.length ∧ x.take i = y.take i ∧ Ext no w w1, x.length, ⟨0, rfl, rfl, Nat.zero_le _, rfl, Ext.refl _ _⟩, ?_⟩
    rintro k w1 i3 ⟨i, hi, rfl, hle, ht, hw⟩
    simp only [List.cons.injEq, Value.int.injEq, true_and, and_true] at hi
    subst hi
    by_cases hlt : i < x.length
    · have hd : decide ((i : Int) < (x.length : Int)) = true := by simp [hlt]
      rw [hd, cond_true]
      refine Q01 fun w7 h7 => ?_
      have hw7 : Ext no w w7 := hw.trans (by subst h7; exact (Ext.refl _ _).drew)
      have hi2 : i < y.length := hl ▸ hlt
      have hax := ha.ext hw7 (fun _ _ h => h)
      have hby := hb.ext hw7 (fun _ _ h => h)
      obtain ⟨ad, rfl⟩ := hax.addr (by intro e; rw [bytesV, List.map_eq_nil_iff] at e; subst e; simp at hlt)
      obtain ⟨bd, rfl⟩ := hby.addr (by intro e; rw [bytesV, List.map_eq_nil_iff] at e; subst e; simp at hi2)
      refine ⟨by omega, by omega, x[i].toNat, ?_, by omega, by omega, y[i].toNat, ?_, ?_⟩
      · rw [show Int.toNat (i : Int) * 1 = i by omega]; exact hax.at_ (Q13 hlt)
      · rw [show Int.toNat (i : Int) * 1 = i by omega]; exact hby.at_ (Q13 hi2)
      · by_cases he : x[i] = y[i]
        · have h1 : ((x[i].toNat : Int) != (y[i].toNat : Int)) = false := by simp [he]
          rw [h1, cond_false]
          refine ⟨x.length - (i + 1), by omega, i + 1, by rw [w64 (by omega) (by omega)]; rfl, rfl, by omega, ?_, hw7⟩
          rw [List.take_add_one, List.take_add_one, ht]; simp [hlt, hi2, he]
        · have h1 : ((x[i].toNat : Int) != (y[i].toNat : Int)) = true := by
            simp only [bne_iff_ne, ne_eq, Int.natCast_inj, UInt8.toNat_inj]; exact he
          rw [h1, cond_true]
          exact ⟨by rw [decide_eq_false]; rintro rfl; exact he rfl, hw7⟩
    · have hd : decide ((i : Int) < (x.length : Int)) = false := by simp; omega
      rw [hd, cond_false]
      obtain rfl : i = x.length := by omega
      refine ⟨?_, hw⟩
      have : x = y := by
        rw [List.take_length] at ht
        rw [hl, List.take_length] at ht
        exact ht
      simp [this]
  · have hl' : ((x.length : Int) != (y.length : Int)) = true := by simp; omega
    rw [hl', cond_true]
    exact ⟨by rw [decide_eq_false]; rintro rfl; exact hl rfl, Ext.refl _ _⟩
end

/-! ### the plain law: what is written is read, and what is read is what was written -/
theorem numR_write {n : Nat} (h : n < 18446744073709551616) (r : List UInt8) : numR (numL n ++ r, 0) = (n, (r, 0)) := by
  unfold numR; rw [if_pos rfl, rd_num h]
theorem countR_write {n : Nat} {m : Int} (h : n < 18446744073709551616) (hm : (n : Int) ≤ m) (r : List UInt8) : countR m (numL n ++ r, 0) = (n, (r, 0)) := by
  unfold countR
  rw [numR_write h, if_pos rfl, if_neg (by show ¬ (m < 0 ∨ (n : Int) > m); omega)]
theorem Q2Q {s : List UInt8 × Int} (h : s.2 ≠ 0) : (numR s).2.2 ≠ 0 := by
  unfold numR; rw [if_neg h]; exact h
theorem numR_good {s : List UInt8 × Int} (h : (numR s).2.2 = 0) : s.2 = 0 ∧ s.1 = numL (numR s).1 ++ (numR s).2.1 := by
  have h0 : s.2 = 0 := Decidable.byContradiction fun e => Q2Q e h
  refine ⟨h0, ?_⟩
  unfold numR at h ⊢
  rw [if_pos h0] at h ⊢
  cases hr : rdNum s.1 with
  | none => rw [hr] at h; exact absurd h (by decide)
  | some q => obtain ⟨n, r⟩ := q; exact (rd_back hr).1
theorem countR_good {m : Int} {s : List UInt8 × Int} (h : (countR m s).2.2 = 0) : s.2 = 0 ∧ s.1 = numL (countR m s).1 ++ (countR m s).2.1 := by
  unfold countR at h ⊢
  by_cases h1 : (numR s).2.2 = 0
  · rw [if_pos h1] at h ⊢
    by_cases h2 : m < 0 ∨ ((numR s).1 : Int) > m
    · rw [if_pos h2] at h; exact absurd h (by decide)
    · rw [if_neg h2]; exact numR_good h1
  · rw [if_neg h1] at h; exact absurd h h1
theorem Q2B : ∀ (hs l : List Hd), (∀ h ∈ hs, rhead h = true ∧ 0 ≤ h.2.2 ∧ h.2.2 < 18446744073709551616) → readF hs.length l (hs.flatMap hdL, 0) = (l ++ hs, ([], 0))
  | [], l, _ => by simp [readF]
  | h :: r, l, hh => by
    obtain ⟨h1, h2, h3⟩ := hh h List.mem_cons_self
    simp only [rhead, Bool.and_eq_true, decide_eq_true_eq] at h1
    obtain ⟨a1, a2, a3, a4, _⟩ := h1
    simp only [List.length_cons, readF, List.flatMap_cons, hdL, List.append_assoc]
    rw [countR_write (by omega) (by omega), countR_write (by omega) (by omega), numR_write (by omega)]
    have he : (((h.1.toNat : Nat) : Int), ((h.2.1.toNat : Nat) : Int), ((h.2.2.toNat : Nat) : Int)) = h := by
      obtain ⟨x, y, z⟩ := h
      simp only at *
      rw [Int.toNat_of_nonneg (by omega), Int.toNat_of_nonneg (by omega), Int.toNat_of_nonneg (by omega)]
    simp only []
    rw [he, Q2B r (l ++ [h]) fun q hq => hh q (List.mem_cons_of_mem _ hq)]
    simp
theorem Q2v : ∀ (n : Nat) (l : List Hd) (s : List UInt8 × Int), (readF n l s).2.2 = 0 → s.2 = 0 ∧ ∃ hs : List Hd, (readF n l s).1 = l ++ hs ∧ hs.length = n ∧ s.1 = hs.flatMap hdL ++ (readF n l s).2.1 ∧ ∀ h ∈ hs, natH h
  | 0, l, s, h => ⟨h, [], by simp [readF], rfl, rfl, by simp⟩
  | n + 1, l, s, h => by
    simp only [readF] at h ⊢
    obtain ⟨k3, hs, e1, e2, e3, e4⟩ := Q2v n _ _ h
    obtain ⟨k2, f2⟩ := numR_good k3
    obtain ⟨k1, f1⟩ := countR_good k2
    obtain ⟨k0, f0⟩ := countR_good k1
    have l1 := Q22 7 s (by decide)
    have l2 := Q22 200 (countR 7 s).2 (by decide)
    have l3 := W.numR_lt (countR 200 (countR 7 s).2).2
    refine ⟨k0, _ :: hs, by rw [e1, List.append_assoc]; rfl, by rw [List.length_cons, e2], ?_, fun q hq => ?_⟩
    · rw [f0, f1, f2, e3]
      simp [hdL]
    · rcases List.mem_cons.1 hq with rfl | hq
      · refine ⟨?_, ?_, ?_, ?_, ?_, ?_⟩ <;> first | omega | (dsimp only; omega)
      · exact e4 q hq
theorem Q1u {hs : List Hd} (h : rightV hs = true) : hs.length ≤ 8 := by
  by_cases h0 : hs.length = 0
  · omega
  have key : ∀ i (hi : i < hs.length), (i : Int) ≤ hs[i].1 := by
    intro i
    induction i with
    | zero =>
      intro hi
      have := Q18 h hs[0] (List.getElem_mem hi)
      simp only [rhead, Bool.and_eq_true, decide_eq_true_eq] at this
      have := this.1
      omega
    | succ i ih =>
      intro hi
      have h1 := ih (by omega)
      have h2 := Q43 hs h (i := i) (j := i + 1) (by omega) (List.getElem?_eq_getElem (by omega)) (List.getElem?_eq_getElem hi)
      omega
  have h1 := key (hs.length - 1) (by omega)
  have := Q18 h hs[hs.length - 1] (List.getElem_mem (by omega))
  simp only [rhead, Bool.and_eq_true, decide_eq_true_eq] at this
  have := this.2.1
  omega
theorem Q2a {hs : List Hd} (h : rightV hs = true) (hf : ∀ h ∈ hs, 0 ≤ h.2.2 ∧ h.2.2 < 18446744073709551616) : readV (vecL hs) = (hs, 0) := by
  have hl := Q1u h
  have hra : readAll (vecL hs) = (hs, ([], 0)) := by
    unfold readAll vecL
    rw [countR_write (by omega) (by omega)]
    show readF hs.length [] (hs.flatMap hdL, 0) = _
    rw [Q2B hs [] fun q hq => ⟨Q18 h q hq, hf q hq⟩]
    simp
  unfold readV
  rw [hra]
  simp [doneR, h]
theorem Q1S {b : List UInt8} (h : (readV b).2 = 0) : rightV (readV b).1 = true ∧ vecL (readV b).1 = b ∧ ∀ q ∈ (readV b).1, natH q := by
  unfold readV at h ⊢
  by_cases hd : doneR (readAll b).2 ≠ 0
  · rw [if_pos hd] at h; exact absurd h hd
  rw [if_neg hd] at h ⊢
  by_cases hr : rightV (readAll b).1 = true
  · rw [if_pos hr]
    have hd := Decidable.not_not.1 hd
    have hk : (readAll b).2.2 = 0 ∧ (readAll b).2.1 = [] := by
      unfold doneR at hd
      by_cases h0 : (readAll b).2.2 = 0
      · rw [if_pos h0] at hd
        refine ⟨h0, ?_⟩
        by_cases h1 : (readAll b).2.1.length > 0
        · rw [if_pos h1] at hd; exact absurd hd (by decide)
        · exact List.eq_nil_of_length_eq_zero (by omega)
      · rw [if_neg h0] at hd; exact absurd hd h0
    obtain ⟨k0, hs, e1, e2, e3, e4⟩ := Q2v (countR 8 (b, 0)).1 [] (countR 8 (b, 0)).2 hk.1
    obtain ⟨_, f0⟩ := countR_good k0
    rw [List.nil_append] at e1
    have e1' : (readAll b).1 = hs := e1
    refine ⟨hr, ?_, fun q hq => e4 q (by rw [← e1']; exact hq)⟩
    rw [e1', vecL, e2]
    have e3' : (countR 8 (b, 0)).2.1 = hs.flatMap hdL ++ (readAll b).2.1 := e3
    rw [hk.2, List.append_nil] at e3'
    rw [← e3']
    exact f0.symm
  · rw [if_neg hr] at h; exact absurd h (by decide)
theorem Q3W {b : List UInt8} (h : (readV b).2 ≠ 0) : (readV b).1 = [] := by
  unfold readV at h ⊢
  by_cases hd : doneR (readAll b).2 ≠ 0
  · rw [if_pos hd]
  · rw [if_neg hd] at h ⊢
    by_cases hr : rightV (readAll b).1 = true
    · rw [if_pos hr] at h; exact absurd rfl h
    · rw [if_neg hr]
end Go.Proofs.Ytoempemllkebkaa
namespace Go.Proofs.Ytoempemllkebkaa
open Go Go.Mx Go.Proofs
open W (OwnB Rd GivesW numR countR doneR)
section
variable {w w' : World} {a : Option Addr} {c : Nat} {hs : List Hd}
end
end Go.Proofs.Ytoempemllkebkaa