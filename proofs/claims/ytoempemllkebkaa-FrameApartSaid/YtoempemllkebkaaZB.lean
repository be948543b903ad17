/- Who may turn which block: each block is nobody's (it stays as it is), or has an owner, told by a number; what a step of some owners leaves. -/
import Derived.Test.YtoempemllkebkaaZA
import Derived.Test.YtoempemllkebkaaProg
import Derived.KernelRfl
import Derived.Laws.StructEq
set_option linter.unusedSimpArgs false
set_option linter.unusedVariables false
set_option linter.unusedSectionVars false
namespace Go.Mx
abbrev Own := Nat → Option Nat
def Tags (w : World) (o : Own) : Prop := ∀ b j, b < w.heap.size → o b = some j → j < w.heap.size
structure Step (K : Nat → Prop) (w : World) (o : Own) (w' : World) (o' : Own) : Prop where
  ext : Ext (fun b => ∃ k, o b = some k ∧ K k) w w'
  same : ∀ b, b < w.heap.size → o' b = o b
  ok0 : Tags w o
  ok : Tags w' o'
def grow (w : World) (o : Own) : Own := fun b => if b < w.heap.size then o b else none
def tag (o : Own) (p j : Nat) : Own := fun b => if b = p then some j else o b
section
variable {K K1 : Nat → Prop} {w w1 w' : World} {o o1 o' : Own} {p q j : Nat}
theorem Step.refl (K : Nat → Prop) (h : Tags w o) : Step K w o w o := ⟨Ext.refl _ _, fun _ _ => rfl, h, h⟩
theorem Step.size (h : Step K w o w' o') : w.heap.size ≤ w'.heap.size := h.ext.size
theorem Step.mono (h : Step K w o w' o') (hk : ∀ j, K j → j < w.heap.size → K1 j) : Step K1 w o w' o' :=
  ⟨h.ext.mono fun b ⟨k, h1, h2⟩ hb => ⟨k, h1, hk k h2 (h.ok0 b k hb h1)⟩, h.same, h.ok0, h.ok⟩
theorem Step.trans' (h : Step K w o w1 o1) (k : Step K1 w1 o1 w' o') (hk : ∀ j, K1 j → K j ∨ w.heap.size ≤ j) : Step K w o w' o' := by
  refine ⟨h.ext.then k.ext fun b ⟨j, h1, h2⟩ => ?_, fun b hb => (k.same b (Nat.lt_of_lt_of_le hb h.size)).trans (h.same b hb), h.ok0, k.ok⟩
  by_cases hb : b < w.heap.size
  · rw [h.same b hb] at h1
    rcases hk j h2 with h3 | h3
    · exact .inl ⟨j, h1, h3⟩
    · have := h.ok0 b j hb h1; omega
  · exact .inr (by omega)
theorem Step.trans (h : Step K w o w1 o1) (k : Step K w1 o1 w' o') : Step K w o w' o' := h.trans' k fun _ h => .inl h
theorem Step.none (h : Step no w o w' o') : Step K w o w' o' := h.mono fun _ h _ => h.elim
theorem grow_lt {b : Nat} (h : b < w.heap.size) : grow w o b = o b := if_pos h
theorem grow_ge {b : Nat} (h : w.heap.size ≤ b) : grow w o b = none := if_neg (by omega)
theorem Tags.grow (h : Tags w o) (hs : w.heap.size ≤ w'.heap.size) : Tags w' (grow w o) := fun b j hb hj => by
  by_cases hl : b < w.heap.size
  · rw [grow_lt hl] at hj; exact Nat.lt_of_lt_of_le (h b j hl hj) hs
  · rw [grow_ge (by omega)] at hj; cases hj
theorem Q0R : tag o p j p = some j := if_pos rfl
theorem tag_ne {b : Nat} (h : b ≠ p) : tag o p j b = o b := if_neg h
theorem Tags.tag (h : Tags w o) (hj : j < w.heap.size) : Tags w (tag o p j) := fun b i hb hi => by
  by_cases hp : b = p
  · subst hp; rw [Q0R] at hi; cases hi; exact hj
  · rw [tag_ne hp] at hi; exact h b i hb hi
theorem Step.of_no (h : Ext no w w') (ok : Tags w o) : Step no w o w' (grow w o) := ⟨h.mono fun _ h _ => h.elim, fun _ hb => grow_lt hb, ok, ok.grow h.size⟩
theorem Step.tag (h : Step K w o w' o') (hp : w.heap.size ≤ p) (hj : j < w'.heap.size) : Step K w o w' (tag o' p j) :=
  ⟨h.ext, fun b hb => by rw [tag_ne (by omega)]; exact h.same b hb, h.ok0, h.ok.tag hj⟩
theorem Step.of_ext {m : Nat → Prop} (h : Ext m w w') (ok : Tags w o) (hm : ∀ b, m b → b < w.heap.size → o b = some p) : Step (fun j => j = p) w o w' (grow w o) :=
  ⟨h.mono fun b hb hl => ⟨p, hm b hb hl, rfl⟩, fun _ hb => grow_lt hb, ok, ok.grow h.size⟩
theorem Step.at (h : Step K w o w' o') {b : Nat} (hb : b < w.heap.size) (hk : ∀ k, o b = some k → ¬ K k) : w'.heap[b]? = w.heap[b]? :=
  h.ext.block b hb fun ⟨k, h1, h2⟩ => hk k h1 h2
theorem Step.blk (h : Step K w o w' o') {t : TypeId} {cs : List Value} (hb : Blk w p t cs) (hp : o p = some j) (hj : ¬ K j) : Blk w' p t cs := by
  have := h.at hb.lt fun k hk => by rw [hp] at hk; cases hk; exact hj
  unfold Blk at hb ⊢
  rw [this]; exact hb
theorem Step.own (h : Step K w o w' o') (hp : p < w.heap.size) : o' p = o p := h.same p hp
def Row (w : World) (o : Own) (a : Option Addr) (cs : List Value) : Prop := RowAt w a cs ∧ (cs ≠ [] → ∀ ad, a = some ad → o ad.block = none)
theorem Row.nil (w : World) (o : Own) (a : Option Addr) : Row w o a [] := ⟨RowAt.nil _ _, fun h => absurd rfl h⟩
theorem Row.step {a : Option Addr} {cs : List Value} (h : Row w o a cs) (k : Step K w o w' o') : Row w' o' a cs :=
  ⟨h.1.ext' k.ext fun h0 ad ha ⟨j, h1, _⟩ => (by rw [h.2 h0 ad ha] at h1; cases h1), fun h0 ad ha => by rw [k.same _ (h.1.lt h0 ha)]; exact h.2 h0 ad ha⟩
theorem Row.fresh {a : Option Addr} {cs : List Value} (h : RowAt w' a cs) (hf : ∀ ad, a = some ad → w.heap.size ≤ ad.block) : Row w' (grow w o) a cs := ⟨h, fun _ ad ha => grow_ge (hf ad ha)⟩
end
/-! ### rows that grow, of an owner -/
section
variable {K K1 : Nat → Prop} {w w1 w' : World} {o o1 o' : Own} {p q j k : Nat}
structure Grows (e size : Nat) (w : World) (o : Own) (k : Nat) (a : Option Addr) (n c : Nat) (cs : List Value) : Prop where
  own : w.ownsRow 0 e size (.slice a n c) n cs
  tg : ∀ ad, a = some ad → o ad.block = some k ∧ ad.block < w.heap.size
theorem Grows.row {e size : Nat} {a : Option Addr} {n c : Nat} {cs : List Value} (h : Grows e size w o k a n c cs) : RowAt w a cs := by
  obtain ⟨_, _, hv, hr⟩ := RowAt.of_owns h.own
  cases hv; exact hr
theorem owns_ext' {m : Nat → Prop} {e size n : Nat} {v : Value} {xs : List Value} (h : w.ownsRow 0 e size v n xs) (x : Ext m w w') (hn : ∀ b, v.ownBlock = some b → ¬ m b) : w'.ownsRow 0 e size v n xs := by
  refine ⟨h.1, ?_⟩
  rcases h.2 with h2 | ⟨g, cap, cur, hv, hb, hg, hr⟩
  · exact .inl h2
  · exact .inr ⟨g, cap, cur, hv, hb, x.get hg (hn g (by rw [hv]; rfl)), hr⟩
theorem Grows.step {e size : Nat} {a : Option Addr} {n c : Nat} {cs : List Value} (h : Grows e size w o k a n c cs) (s : Step K w o w' o') (hk : ¬ K k) : Grows e size w' o' k a n c cs := by
  refine ⟨owns_ext' h.own s.ext fun b hb ⟨i, h1, h2⟩ => ?_, fun ad ha => ?_⟩
  · cases a with
    | none => simp [Value.ownBlock] at hb
    | some ad =>
      simp only [Value.ownBlock, Option.some.injEq] at hb
      subst hb
      rw [(h.tg ad rfl).1] at h1; cases h1; exact hk h2
  · have := h.tg ad ha
    exact ⟨by rw [s.own this.2]; exact this.1, Nat.lt_of_lt_of_le this.2 s.size⟩
theorem Grows.keep {e size : Nat} {a : Option Addr} {n c : Nat} {cs : List Value} (h : Grows e size w o k a n c cs) {m : Nat → Prop} (x : Ext m w w') (hm : ∀ ad, a = some ad → ¬ m ad.block) (ho : ∀ b, b < w.heap.size → o' b = o b) : Grows e size w' o' k a n c cs := by
  refine ⟨owns_ext' h.own x fun b hb => ?_, fun ad ha => ?_⟩
  · cases a with
    | none => simp [Value.ownBlock] at hb
    | some ad => simp only [Value.ownBlock, Option.some.injEq] at hb; subst hb; exact hm ad rfl
  · have := h.tg ad ha
    exact ⟨by rw [ho _ this.2]; exact this.1, Nat.lt_of_lt_of_le this.2 x.size⟩
theorem Grows.nil (e size : Nat) (w : World) (o : Own) (k : Nat) : Grows e size w o k none 0 0 [] := ⟨⟨by simp, .inl ⟨rfl, rfl⟩⟩, fun ad ha => by cases ha⟩
theorem Grows.push {P : Program} {t ty e : TypeId} {i : TypeInfo} {z : Value} {size bytes : Nat} (ht : P.underlying t = some (.slice e)) (hi : P.info? e = some i) (hz : i.zero = some z)
    (hsize : i.size = size) (hby : i.bytes = bytes) (hzs : z.cells.size = size) (hsz : 0 < size) {a : Option Addr} {n c : Nat} {cs : List Value} (h : Grows e size w o k a n c cs) (ok : Tags w o) (hk : k < w.heap.size)
    {xa : Option Addr} {m xc : Nat} {news : List Value} (hl : news.length = m * size) (hnews : RowAt w xa news) (h1 : ∀ u ∈ news, u.oneCell' = true) (hb : (n + m) * bytes ≤ 140737488355328) (h63 : n + m ≤ 9223372036854775807) :
    ∃ a' c' w' o', (Builtin.append_ #[t, t] ty #[.slice a n c, .slice xa m xc]).run P w = .ok (.slice a' (n + m) c') w' ∧ Step (fun j => j = k) w o w' o' ∧ Grows e size w' o' k a' (n + m) c' (cs ++ news) ∧
      (∀ b, b < w.heap.size → (∀ ad, a = some ad → b ≠ ad.block) → w'.heap[b]? = w.heap[b]?) ∧ (∀ ad, a' = some ad → (∃ b, a = some b ∧ ad.block = b.block) ∨ ad.block = w.heap.size) := by
  obtain ⟨a', c', w', hr, ho, hg, hbk⟩ := Q16 (ty := ty) ht hi hz hsize hby hzs hsz h.own (xa := xa) (m := m) (c := xc) hl hnews h1 hb h63
  have hrow : ∀ q, (Value.slice a n c).ownBlock = some q → o q = some k ∧ q < w.heap.size ∧ ∃ ad, a = some ad ∧ q = ad.block := fun q hq => by
    cases a with
    | none => simp [Value.ownBlock] at hq
    | some ad => simp only [Value.ownBlock, Option.some.injEq] at hq; subst hq; exact ⟨(h.tg ad rfl).1, (h.tg ad rfl).2, ad, rfl, rfl⟩
  have X : Ext (fun b => (Value.slice a n c).ownBlock = some b) w w' := Ext.of_grown hg fun q hq => .inl hq
  have s : Step (fun j => j = k) w o w' (grow w o) := Step.of_ext X ok fun b hb _ => (hrow b hb).1
  refine ⟨a', c', w', tag (grow w o) w.heap.size k, hr, s.tag (Nat.le_refl _) (Nat.lt_of_lt_of_le hk s.size), ⟨ho, fun ad ha => ?_⟩, fun b hb hne => X.block b hb fun hq => ?_, fun ad ha => ?_⟩
  · have hlt := (Q0U ho).2 ad ha
    subst ha
    refine ⟨?_, hlt⟩
    rcases hbk with hq | hq
    · obtain ⟨q1, q2, _⟩ := hrow _ hq.symm
      rw [tag_ne (by omega), grow_lt q2]; exact q1
    · simp only [Value.ownBlock, Option.some.injEq] at hq
      rw [hq]; exact Q0R
  · obtain ⟨_, _, ad, ha, rfl⟩ := hrow b hq
    exact hne ad ha rfl
  · subst ha
    rcases hbk with hq | hq
    · obtain ⟨_, _, b, hb1, hb2⟩ := hrow _ hq.symm
      exact .inl ⟨b, hb1, hb2⟩
    · simp only [Value.ownBlock, Option.some.injEq] at hq; exact .inr hq
end
end Go.Mx
set_option maxRecDepth 20000
namespace Go.Proofs.Ytoempemllkebkaa
open Go Go.Mx Go.Proofs
theorem follows : Try.prog.follows .mixedOrders = true := by kernel_rfl
end Go.Proofs.Ytoempemllkebkaa
namespace Go.Proofs.Ytoempemllkebkaa
open Go Go.Mx Go.Proofs
theorem W.eqf_step {P : Program} {w : World} {d : Nat} {xs ys : Array Value} {f : Field} {fs : List Field} {a b : Value} {r : Bool} (n : f.name ≠ "_") (qa : (part f.type xs f.offset).run P w = .ok a w) (qb : (part f.type ys f.offset).run P w = .ok b w) (he : (Op.equalIn d f.type a b).run P w = .ok r w) :
    (Op.eqFields d xs ys (f :: fs)).run P w = if r then (Op.eqFields d xs ys fs).run P w else .ok false w := by
  simp only [Op.eqFields, n, ne_eq, not_false_eq_true, if_true, Sem.run_bind, qa, qb, he, Result.andThen_ok]
  cases r <;> simp
theorem eqT24 (x0 x1 y0 y1 : Int) (w : World) : (Op.equalIn 10000 24 (.agg #[.int .i64 x0, .int .i64 x1]) (.agg #[.int .i64 y0, .int .i64 y1])).run Try.prog w = .ok (decide (x0 = y0 ∧ x1 = y1)) w := by
  obtain ⟨f0, f1, ht, n0, o0, p0, u0, n1, o1, p1, u1, hp⟩ : ∃ f0 f1, Try.prog.underlying 24 = some (.struct #[f0, f1]) ∧ f0.name ≠ "_" ∧ f0.offset = 0 ∧ Try.prog.plainKey f0.type = true ∧ Try.prog.underlying f0.type = some (.int .i64) ∧ f1.name ≠ "_" ∧ f1.offset = 1 ∧ Try.prog.plainKey f1.type = true ∧ Try.prog.underlying f1.type = some (.int .i64) ∧ Try.prog.stoodInHeld 24 = false :=
    ⟨_, _, Try.underlying24, by decide, rfl, by kernel_rfl, by kernel_rfl, by decide, rfl, by kernel_rfl, by kernel_rfl, by kernel_rfl⟩
  have hf : Try.prog.fieldsOf 24 = #[f0, f1] := by simp [Program.fieldsOf, ht]
  rw [show (10000 : Nat) = 9998 + 1 + 1 from rfl, run_equalIn_struct w (9998 + 1) _ _ _ (by rw [hf]; exact ht) hp, hf]
  show (Op.eqFields (9998 + 1) _ _ [f0, f1]).run Try.prog w = _
  rw [W.eqf_step n0 (run_part_plain w p0 (by rw [o0]; rfl)) (run_part_plain w p0 (by rw [o0]; rfl)) (run_equalIn_int w _ _ _ _ _ _ u0), W.eqf_step n1 (run_part_plain w p1 (by rw [o1]; rfl)) (run_part_plain w p1 (by rw [o1]; rfl)) (run_equalIn_int w _ _ _ _ _ _ u1)]
  by_cases e0 : x0 = y0 <;> by_cases e1 : x1 = y1 <;> simp [e0, e1, Op.eqFields]
theorem Q4b (x0 x1 y0 y1 : Int) (w : World) : (binOp .eql 24 (.agg #[.int .i64 x0, .int .i64 x1]) (.agg #[.int .i64 y0, .int .i64 y1])).run Try.prog w = .ok (.bool (decide (x0 = y0 ∧ x1 = y1))) w := by rw [run_eql_struct, eqT24]; rfl
end Go.Proofs.Ytoempemllkebkaa
namespace Go.Proofs.Ytoempemllkebkaa
open Go Go.Mx Go.Proofs
open W (OwnB Rd RdR GivesW numR countR doneR zig unzig intR)
abbrev Q0c.J1 (ab : Option Addr) (a3 : Int) (R : RW) (aa : World) : Prop :=
 ab.elim False fun ah =>
 ∃ (a6 : Option Addr) (ae a4 : Nat), aa.cell? (ah.add 0) = some (.slice a6 ae a4) ∧
 (0 : Int) ≤ (a3 : Int) ∧ (a3 : Int) ≤ (a4 : Int) ∧
 Calls Try.prog 57 #[.slice (if a4 = 0 then a6 else Option.map (fun z : Addr => z.add (0 * 1)) a6) ((Int.toNat a3) - 0) (a4 - 0)] aa fun ad a7 => ∃ (a1 : Option Addr) (a2 a0 : Nat), ad = .returned (.slice a1 a2 a0) ∧
 ab.elim False fun ag =>
 ∃ (a9 : Option Addr) (a5 a8 : Nat), a7.cell? (ag.add 0) = some (.slice a9 a5 a8) ∧
 (0 : Int) ≤ (a3 : Int) ∧ (a3 : Int) ≤ (a5 : Int) ∧
 ab.elim False fun af =>
 Q01 a7 ((af.add 0).add 0) ∧
 thenW (a7.setCell ((af.add 0).add 0) (.slice (if a8 = Int.toNat a3 then a9 else Option.map (fun z : Addr => z.add ((Int.toNat a3) * 1)) a9) (a5 - (Int.toNat a3)) (a8 - (Int.toNat a3)))) fun ac =>
 R (.slice a1 a2 a0) ac

abbrev Q0c.J2 (a5 : Option Addr) (a7 : Int) (R : RW) (a0 : World) : Prop :=
 a5.elim False fun a8 =>
 ∃ (a3 : Option Addr) (a1 a2 : Nat), a0.cell? (a8.add 0) = some (.slice a3 a1 a2) ∧
 bif decide (a7 > (a1 : Int)) then (
 Calls Try.prog 74 #[.pointer a5, .int .i64 4] a0 fun a6 a4 => a6 = .returned (.tuple #[]) ∧
 R (.slice none 0 0) a4) else (
 Q0c.J1 a5 a7 R a0)

def Q0c.M (r1 : Option Addr) (n2 : Int) (R : RW) (w : World) : Prop :=
 Calls Try.prog 72 #[.pointer r1] w fun a2 a0 => ∃ (a1 : Bool), a2 = .returned (.bool a1) ∧
 bif !a1 then (
 R (.slice none 0 0) a0) else (
 Q0c.J2 r1 n2 R a0)

theorem Q0c.ok (r1 : Option Addr) (n2 : Int) {R : RW} {w : World} (h : Q0c.M r1 n2 R w) : Calls Try.prog 75 #[.pointer r1, .int .i64 n2] w fun e w' => ∃ v, e = .returned v ∧ R v w' :=
  Q0b follows (H := []) (args := [.pointer r1, .int .i64 n2]) (cast (by kernel_rfl) h)

def Q0c.N (r1 : Option Addr) (n2 : Int) (R : RW) (w : World) : Prop :=
 Calls Try.prog 72 #[.pointer r1] w fun ak a9 => ∃ (ad : Bool), ak = .returned (.bool ad) ∧
 (ad = false →
 R (.slice none 0 0) a9) ∧
 (ad = true →
 ∃ a7 : Addr, r1 = some a7 ∧
 ∃ (ai : Option Addr) (af aj : Nat), a9.cell? (a7.add 0) = some (.slice ai af aj) ∧
 (n2 > (af : Int) →
 Calls Try.prog 74 #[.pointer r1, .int .i64 4] a9 fun ah ac => ah = .returned (.tuple #[]) ∧
 R (.slice none 0 0) ac) ∧
 (n2 ≤ (af : Int) →
 ∃ (aa : Option Addr) (ab a4 : Nat), a9.cell? (a7.add 0) = some (.slice aa ab a4) ∧
 (0 : Int) ≤ (n2 : Int) ∧ (n2 : Int) ≤ (a4 : Int) ∧ 
 Calls Try.prog 57 #[.slice aa (Int.toNat n2) a4] a9 fun ag a6 => ∃ (a0 : Option Addr) (a1 a2 : Nat), ag = .returned (.slice a0 a1 a2) ∧
 ∃ (a8 : Option Addr) (a3 a5 : Nat), a6.cell? (a7.add 0) = some (.slice a8 a3 a5) ∧
 (0 : Int) ≤ (n2 : Int) ∧ (n2 : Int) ≤ (a3 : Int) ∧ 
 Q01 a6 ((a7.add 0).add 0) ∧
 thenW (a6.setCell ((a7.add 0).add 0) (.slice (cutA a8 a5 (Int.toNat n2) 1) (a3 - (Int.toNat n2)) (a5 - (Int.toNat n2)))) fun ae =>
 R (.slice a0 a1 a2) ae))

theorem Q0c.up (r1 : Option Addr) (n2 : Int) {R : RW} {w : World} (h : Q0c.N r1 n2 R w) : Q0c.M r1 n2 R w := by
  unfold Q0c.M
  unfold Q0c.N at h
  refine h.mono fun au ar h => ?_
  obtain ⟨ah, he, h⟩ := h
  refine ⟨ah, he, ?_⟩
  refine bif_of (fun c6 => ?_) (fun c6 => ?_)
  ·have h := h.1 (not_t c6)
   exact h
  have h := h.2 (not_f c6)
  unfold Q0c.J2
  obtain ⟨a7, a3, h⟩ := h
  refine Q0s a3 ?_
  obtain ⟨an, ak, ao, am, h⟩ := h
  refine ⟨an, ak, ao, am, ?_⟩
  refine bif_of (fun a8 => ?_) (fun a8 => ?_)
  ·have h := h.1 (of_decide_eq_true a8)
   refine h.mono fun ap ag h => ?_
   obtain ⟨he, h⟩ := h
   refine ⟨he, ?_⟩
   exact h
  have h := h.2 (Int.not_lt.1 (of_decide_eq_false a8))
  unfold Q0c.J1
  refine Q0s a3 ?_
  obtain ⟨af, a5, ac, aa, h⟩ := h
  refine ⟨af, a5, ac, aa, ?_⟩
  obtain ⟨ad, ab, h⟩ := h
  refine ⟨ad, ab, ?_⟩
  try rw [Q49]
  refine h.mono fun al aq h => ?_
  obtain ⟨a0, a1, a2, he, h⟩ := h
  refine ⟨a0, a1, a2, he, ?_⟩
  refine Q0s a3 ?_
  obtain ⟨a4, a6, ae, a9, h⟩ := h
  refine ⟨a4, a6, ae, a9, ?_⟩
  obtain ⟨ad, ab, h⟩ := h
  refine ⟨ad, ab, ?_⟩
  refine Q0s a3 ?_
  obtain ⟨hcs, h⟩ := h
  refine ⟨hcs, Q00 fun aj ai => ?_⟩
  replace h := Q0V h ai
  exact h

theorem Q0c.go (r1 : Option Addr) (n2 : Int) {R : RW} {w : World} (h : Q0c.N r1 n2 R w) : Calls Try.prog 75 #[.pointer r1, .int .i64 n2] w fun e w' => ∃ v, e = .returned v ∧ R v w' := Q0c.ok r1 n2 (Q0c.up r1 n2 h)
def Q0l.M (r1 : Option Addr) (a4 : Int) (R : RW) (w : World) : Prop :=
 Calls Try.prog 54 #[.pointer r1, .int .i64 a4] w fun a8 a5 => ∃ (a2 : Int), a8 = .returned (.int .i64 a2) ∧
 Calls Try.prog 75 #[.pointer r1, .int .i64 a2] a5 fun a7 a6 => ∃ (a0 : Option Addr) (a1 a3 : Nat), a7 = .returned (.slice a0 a1 a3) ∧
 R (.slice a0 a1 a3) a6

theorem Q0l.ok (r1 : Option Addr) (a0 : Int) {R : RW} {w : World} (h : Q0l.M r1 a0 R w) : Calls Try.prog 55 #[.pointer r1, .int .i64 a0] w fun e w' => ∃ v, e = .returned v ∧ R v w' :=
  Q0b follows (H := []) (args := [.pointer r1, .int .i64 a0]) (cast (by kernel_rfl) h)

def Q0l.N (r1 : Option Addr) (a4 : Int) (R : RW) (w : World) : Prop :=
 Calls Try.prog 54 #[.pointer r1, .int .i64 a4] w fun a8 a5 => ∃ (a2 : Int), a8 = .returned (.int .i64 a2) ∧
 Calls Try.prog 75 #[.pointer r1, .int .i64 a2] a5 fun a7 a6 => ∃ (a0 : Option Addr) (a1 a3 : Nat), a7 = .returned (.slice a0 a1 a3) ∧
 R (.slice a0 a1 a3) a6

theorem Q0l.up (r1 : Option Addr) (a0 : Int) {R : RW} {w : World} (h : Q0l.N r1 a0 R w) : Q0l.M r1 a0 R w := by
  unfold Q0l.M
  unfold Q0l.N at h
  refine h.mono fun a8 a5 h => ?_
  obtain ⟨a3, he, h⟩ := h
  refine ⟨a3, he, ?_⟩
  refine h.mono fun a7 a6 h => ?_
  obtain ⟨a1, a2, a4, he, h⟩ := h
  refine ⟨a1, a2, a4, he, ?_⟩
  exact h

theorem Q0l.go (r1 : Option Addr) (a0 : Int) {R : RW} {w : World} (h : Q0l.N r1 a0 R w) : Calls Try.prog 55 #[.pointer r1, .int .i64 a0] w fun e w' => ∃ v, e = .returned v ∧ R v w' := Q0l.ok r1 a0 (Q0l.up r1 a0 h)
abbrev RS := List UInt8 × Int
def takeR (n : Nat) (s : RS) : List UInt8 × RS := if s.2 = 0 then (if s.1.length < n then ([], ([], 4)) else (s.1.take n, (s.1.drop n, 0))) else ([], s)
def bytesR (m : Int) (s : RS) : List UInt8 × RS := takeR (countR m s).1 (countR m s).2
theorem Q3T (n : Nat) (s : RS) : (takeR n s).2.1.length ≤ s.1.length ∧ (takeR n s).1.length ≤ s.1.length := by
  unfold takeR
  split
  · split
    · simp
    · simp; omega
  · simp
theorem Q2t (m : Int) (s : RS) : (bytesR m s).2.1.length ≤ s.1.length ∧ (bytesR m s).1.length ≤ s.1.length := by
  have h1 := W.countR_len m s
  have h2 := Q3T (countR m s).1 (countR m s).2
  unfold bytesR
  omega
section
variable {w w' : World} {a : Option Addr} {c N p : Nat} {bs : List UInt8} {k : Int}
theorem Rd_drop (h : Rd w p bs k) {a : Option Addr} {c : Nat} (hb : Blk w p 100 [.slice a bs.length c, .int .i64 k]) {n : Nat} (hn : n ≤ bs.length) (hc : bs.length ≤ c) (hr : RowAt w a (bytesV bs)) (h4 : bytesV bs ≠ [] → ∀ ad, a = some ad → ad.block < p)
    (e : w' = w.setCell ((blk p).add 0) (.slice (cutA a c n 1) (bs.length - n) (c - n))) : Rd w' p (bs.drop n) k ∧ Ext (fun b => b = p) w w' := by
  have hx : Ext (fun b => b = p) w w' := (Ext.refl (fun b => b = p) w).x_set (q := p) (i := 0) rfl (.inl rfl) e
  have hb' := hb.seti 0 rfl e
  have hne : bytesV (bs.drop n) ≠ [] → bytesV bs ≠ [] := fun h0 e => h0 (by rw [bytesV, List.map_drop, show List.map u8V bs = [] from e]; simp)
  refine ⟨⟨cutA a c n 1, c - n, by rw [List.length_drop]; exact hb', by rw [List.length_drop]; omega, ?_, fun h0 ad ha => ?_⟩, hx⟩
  · have := hr.cut n c (by rw [Q0Q]; exact hc)
    rw [show bytesV (bs.drop n) = (bytesV bs).drop n by simp [bytesV]]
    refine this.ext' hx fun h0 ad ha hq => ?_
    obtain ⟨b, hb, hbb⟩ := Q2v ha
    have := h4 (fun e => h0 (by rw [e]; simp)) b hb
    omega
  · obtain ⟨b, hb, hbb⟩ := Q2v ha
    have := h4 (hne h0) b hb
    omega
theorem Q41 (h : Rd w p bs k) (hl : bs.length < 1000000) (n : Nat) :
    Calls Try.prog 75 #[.pointer (some (blk p)), .int .i64 n] w (fun e w' => ∃ a c, e = .returned (.slice a (takeR n (bs, k)).1.length c) ∧ OwnB w.heap.size w' a c (takeR n (bs, k)).1 ∧ Rd w' p (takeR n (bs, k)).2.1 (takeR n (bs, k)).2.2 ∧ Ext (fun b => b = p) w w') := by
  refine (Q0c.go _ _ (R := fun v w' => ∃ a c, v = (.slice a (takeR n (bs, k)).1.length c) ∧ OwnB w.heap.size w' a c (takeR n (bs, k)).1 ∧ Rd w' p (takeR n (bs, k)).2.1 (takeR n (bs, k)).2.2 ∧ Ext (fun b => b = p) w w') ?_).mono fun e w' ⟨v, he, a, c, hv, hw⟩ => ⟨a, c, by rw [he, hv], hw⟩
  unfold Q0c.N
  refine (W.ok_spec h).mono fun e w5 ⟨he, hw⟩ => ⟨_, he, fun hk => ?_, fun hk => ?_⟩ <;> subst hw <;> simp only [beq_iff_eq, beq_eq_false_iff_ne] at hk
  · unfold takeR
    rw [if_neg hk]
    exact ⟨none, 0, rfl, OwnB.nil _ _, h, Ext.refl _ _⟩
  · subst hk
    obtain ⟨a, c, h1, h2, h3, h4⟩ := id h
    refine ⟨_, rfl, a, bs.length, c, h1.cella (i := 0) rfl, fun hn => ?_, fun hn => ?_⟩
    · unfold takeR
      rw [if_pos rfl, if_pos (by show bs.length < n; omega)]
      refine (W.fail_spec h 4).mono fun e w12 ⟨he, hr, hx⟩ => ⟨he, none, 0, rfl, OwnB.nil _ _, hr, hx⟩
    · unfold takeR
      rw [if_pos rfl, if_neg (by show ¬ bs.length < n; omega)]
      refine ⟨a, bs.length, c, h1.cella (i := 0) rfl, by omega, by omega, ?_⟩
      rw [Int.toNat_natCast]
      have ht : bytesV (bs.take n) = (bytesV bs).take n := by simp [bytesV]
      have hlt : (bs.take n).length = n := by rw [List.length_take]; omega
      have hc := W.clone_spec (c := c) (bs := bs.take n) (a := a) (w := w5) (by rw [ht]; exact h3.take n) (by omega)
      rw [hlt] at hc
      refine hc.mono fun e w18 ⟨ra, rc, he, hO, hx⟩ => ⟨ra, n, rc, he, ?_⟩
      have h' := h.no hx
      refine ⟨a, bs.length, c, (h1.ext hx id).cella (i := 0) rfl, by omega, by omega, (h1.ext hx id).cana (i := 0) rfl, Q00 fun w23 e23 => ?_⟩
      obtain ⟨q1, q2⟩ := Rd_drop h' (h1.ext hx id) (n := n) (by omega) h2 (h3.no hx) h4 e23
      refine ⟨ra, rc, by rw [hlt], hO.ext q2 fun ad ha hb => ?_, q1, hx.none.trans q2⟩
      have := (hO.fr ad ha).1
      have := h1.lt
      omega
theorem Q1Y (h : Rd w p bs k) (hl : bs.length < 1000000) {m : Int} (hm : m < 4611686018427387904) :
    Calls Try.prog 55 #[.pointer (some (blk p)), .int .i64 m] w (fun e w' => ∃ a c, e = .returned (.slice a (bytesR m (bs, k)).1.length c) ∧ OwnB w.heap.size w' a c (bytesR m (bs, k)).1 ∧ Rd w' p (bytesR m (bs, k)).2.1 (bytesR m (bs, k)).2.2 ∧ Ext (fun b => b = p) w w') := by
  refine (Q0l.go _ _ (R := fun v w' => ∃ a c, v = (.slice a (bytesR m (bs, k)).1.length c) ∧ OwnB w.heap.size w' a c (bytesR m (bs, k)).1 ∧ Rd w' p (bytesR m (bs, k)).2.1 (bytesR m (bs, k)).2.2 ∧ Ext (fun b => b = p) w w') ?_).mono fun e w' ⟨v, he, a, c, hv, hw⟩ => ⟨a, c, by rw [he, hv], hw⟩
  unfold Q0l.N
  refine (W.Count_spec h hl hm).mono fun e w5 ⟨he, hr, hx⟩ => ⟨_, he, ?_⟩
  have hlen := W.countR_len m (bs, k)
  refine (Q41 hr (by simp only at hlen; omega) _).mono fun e w8 ⟨a, c, he, hO, hr2, hx2⟩ => ⟨a, _, c, he, a, c, rfl, ⟨hO.own, fun ad ha => ⟨Nat.le_trans hx.size (hO.fr ad ha).1, (hO.fr ad ha).2⟩⟩, hr2, hx.trans hx2⟩

/-! ### the reference's -/
end
end Go.Proofs.Ytoempemllkebkaa
namespace Go.Proofs.Ytoempemllkebkaa
open Go Go.Mx Go.Proofs
open W (OwnB Rd RdR GivesW numR countR doneR zig unzig intR)
def Q05.M (n1 a1 a0 : Int) (R : RW) (w : World) : Prop :=
 bif decide (n1 ≥ a1) then (
 R (.bool (decide (n1 < a0))) w) else (
 R (.bool false) w)

theorem Q05.ok (n1 a1 a0 : Int) {R : RW} {w : World} (h : Q05.M n1 a1 a0 R w) : Calls Try.prog 82 #[.int .i64 n1, .int .i64 a1, .int .i64 a0] w fun e w' => ∃ v, e = .returned v ∧ R v w' :=
  Q0b follows (H := []) (args := [.int .i64 n1, .int .i64 a1, .int .i64 a0]) (cast (by kernel_rfl) h)

def Q05.N (n1 a0 a1 : Int) (R : RW) (w : World) : Prop :=
 (n1 ≥ a0 →
 R (.bool (decide (n1 < a1))) w) ∧
 (n1 < a0 →
 R (.bool false) w)

theorem Q05.up (n1 a1 a0 : Int) {R : RW} {w : World} (h : Q05.N n1 a1 a0 R w) : Q05.M n1 a1 a0 R w := by
  unfold Q05.M
  unfold Q05.N at h
  refine bif_of (fun c4 => ?_) (fun c4 => ?_)
  ·have h := h.1 (of_decide_eq_true c4)
   exact h
  have h := h.2 (Int.not_le.1 (of_decide_eq_false c4))
  exact h

theorem Q05.go (n1 a1 a0 : Int) {R : RW} {w : World} (h : Q05.N n1 a1 a0 R w) : Calls Try.prog 82 #[.int .i64 n1, .int .i64 a1, .int .i64 a0] w fun e w' => ∃ v, e = .returned v ∧ R v w' := Q05.ok n1 a1 a0 (Q05.up n1 a1 a0 h)
theorem Q05.run (n1 a1 a0 : Int) {V : Value} {Q : World → Prop} {w : World} (h : Q05.N n1 a1 a0 (fun v w' => v = V ∧ Q w') w) : Calls Try.prog 82 #[.int .i64 n1, .int .i64 a1, .int .i64 a0] w (Ret V Q) := (Q05.go n1 a1 a0 h).mono fun e w' ⟨v, he, hv, hq⟩ => ⟨by rw [he, hv], hq⟩

def Q05.F (n1 a1 a0 : Int) : Bool :=
  if n1 ≥ a1 then
    (decide (n1 < a0))
  else
    false
theorem Q05.pure (n1 a0 a1 : Int) {w : World} : Calls Try.prog 82 #[.int .i64 n1, .int .i64 a0, .int .i64 a1] w (Ret (.bool (Q05.F n1 a0 a1)) fun w' => Ext no w w') := by
  refine Q05.run n1 a0 a1 ?_
  unfold Q05.N
  refine ⟨fun c0 => ?_, fun c0 => ?_⟩
  ·exact ⟨by unfold Q05.F; rw [if_pos c0], Ext.refl _ _⟩
  ·exact ⟨by unfold Q05.F; rw [if_neg (show ¬ (n1 ≥ a0) from by omega)], Ext.refl _ _⟩

def Q0d.M (a0 : Int) (R : RW) (w : World) : Prop :=
 bif decide (a0 ≥ 0) then (
 R (.bool (decide (a0 < 8))) w) else (
 R (.bool false) w)

theorem Q0d.ok (a0 : Int) {R : RW} {w : World} (h : Q0d.M a0 R w) : Calls Try.prog 94 #[.int .i64 a0] w fun e w' => ∃ v, e = .returned v ∧ R v w' :=
  Q0b follows (H := []) (args := [.int .i64 a0]) (cast (by kernel_rfl) h)

def Q0d.N (a0 : Int) (R : RW) (w : World) : Prop :=
 (a0 ≥ 0 →
 R (.bool (decide (a0 < 8))) w) ∧
 (a0 < 0 →
 R (.bool false) w)

theorem Q0d.up (a0 : Int) {R : RW} {w : World} (h : Q0d.N a0 R w) : Q0d.M a0 R w := by
  unfold Q0d.M
  unfold Q0d.N at h
  refine bif_of (fun c2 => ?_) (fun c2 => ?_)
  ·have h := h.1 (of_decide_eq_true c2)
   exact h
  have h := h.2 (Int.not_le.1 (of_decide_eq_false c2))
  exact h

theorem Q0d.go (a0 : Int) {R : RW} {w : World} (h : Q0d.N a0 R w) : Calls Try.prog 94 #[.int .i64 a0] w fun e w' => ∃ v, e = .returned v ∧ R v w' := Q0d.ok a0 (Q0d.up a0 h)
theorem Q0d.run (a0 : Int) {V : Value} {Q : World → Prop} {w : World} (h : Q0d.N a0 (fun v w' => v = V ∧ Q w') w) : Calls Try.prog 94 #[.int .i64 a0] w (Ret V Q) := (Q0d.go a0 h).mono fun e w' ⟨v, he, hv, hq⟩ => ⟨by rw [he, hv], hq⟩

def Q0d.F (a0 : Int) : Bool :=
  if a0 ≥ 0 then
    (decide (a0 < 8))
  else
    false
theorem Q0d.pure (a0 : Int) {w : World} : Calls Try.prog 94 #[.int .i64 a0] w (Ret (.bool (Q0d.F a0)) fun w' => Ext no w w') := by
  refine Q0d.run a0 ?_
  unfold Q0d.N
  refine ⟨fun c0 => ?_, fun c0 => ?_⟩
  ·exact ⟨by unfold Q0d.F; rw [if_pos c0], Ext.refl _ _⟩
  ·exact ⟨by unfold Q0d.F; rw [if_neg (show ¬ (a0 ≥ 0) from by omega)], Ext.refl _ _⟩

def Q0g.M (a3 a5 : Int) (R : RW) (w : World) : Prop :=
 thenW (w.alloc (.cells #[.int .i64 a3, .int .i64 a5] 24)) fun a1 =>
 ∃ (T4 : Int), a1.cell? ((blk w.heap.size).add 0) = some (.int .i64 T4) ∧
 bif decide (T4 > 0) then (
 ∃ (T5 : Int), a1.cell? ((blk w.heap.size).add 0) = some (.int .i64 T5) ∧
 bif decide (T5 ≤ 1099511627776) then (
 ∃ (W6 : Int), a1.cell? ((blk w.heap.size).add 1) = some (.int .i64 W6) ∧
 Calls Try.prog 94 #[.int .i64 W6] a1 fun a2 a4 => ∃ (a0 : Bool), a2 = .returned (.bool a0) ∧
 R (.bool a0) a4) else (
 R (.bool false) a1)) else (
 R (.bool false) a1)

theorem Q0g.ok (a0 a1 : Int) {R : RW} {w : World} (h : Q0g.M a0 a1 R w) : Calls Try.prog 83 #[.agg #[.int .i64 a0, .int .i64 a1]] w fun e w' => ∃ v, e = .returned v ∧ R v w' :=
  Q0b follows (H := []) (args := [.agg #[.int .i64 a0, .int .i64 a1]]) (cast (by kernel_rfl) h)

def Q0g.N (a1 a3 : Int) (R : RW) (w : World) : Prop :=
 (a1 > 0 →
 (a1 ≤ 1099511627776 →
 ∀ (a2 : World), Ext no w a2 →
 R (.bool (Q0d.F a3)) a2) ∧
 ((1099511627776 : Int) < a1 →
 ∀ (a0 : World), Ext no w a0 →
 R (.bool false) a0)) ∧
 (a1 ≤ 0 →
 ∀ (a0 : World), Ext no w a0 →
 R (.bool false) a0)

theorem Q0g.up (a1 a0 : Int) {R : RW} {w : World} (h : Q0g.N a1 a0 R w) : Q0g.M a1 a0 R w := by
  unfold Q0g.M
  unfold Q0g.N at h
  refine Q00 fun a4 e3 => ?_
  have a3 := Blk.of_new e3
  have a6 := ((Ext.refl no w)).size
  have a2 := (Ext.refl no w).x_alloc e3
  refine ⟨a1, a3.celli 0 rfl rfl, ?_⟩
  refine bif_fo (fun c4 => ?_) (fun c4 => ?_)
  ·have h := h.2 (Int.not_lt.1 (of_decide_eq_false c4))
   have h := h a4 a2
   exact h
  have h := h.1 (of_decide_eq_true c4)
  refine ⟨a1, a3.celli 0 rfl rfl, ?_⟩
  refine bif_fo (fun c5 => ?_) (fun c5 => ?_)
  ·have h := h.2 (Int.not_le.1 (of_decide_eq_false c5))
   have h := h a4 a2
   exact h
  have h := h.1 (of_decide_eq_true c5)
  refine ⟨a0, a3.celli 1 rfl rfl, ?_⟩
  refine (Q0d.pure a0).mono fun ee ww6 ⟨he, hxx⟩ => ⟨(Q0d.F a0), he, ?_⟩
  have a5 := a2.trans hxx
  have h := h ww6 a5
  exact h

theorem Q0g.go (a0 a1 : Int) {R : RW} {w : World} (h : Q0g.N a0 a1 R w) : Calls Try.prog 83 #[.agg #[.int .i64 a0, .int .i64 a1]] w fun e w' => ∃ v, e = .returned v ∧ R v w' := Q0g.ok a0 a1 (Q0g.up a0 a1 h)
theorem Q0g.run (a0 a1 : Int) {V : Value} {Q : World → Prop} {w : World} (h : Q0g.N a0 a1 (fun v w' => v = V ∧ Q w') w) : Calls Try.prog 83 #[.agg #[.int .i64 a0, .int .i64 a1]] w (Ret V Q) := (Q0g.go a0 a1 h).mono fun e w' ⟨v, he, hv, hq⟩ => ⟨by rw [he, hv], hq⟩

def Q0g.F (a0 a1 : Int) : Bool :=
  if a0 > 0 then
    if a0 ≤ 1099511627776 then
      (Q0d.F a1)
    else
      false
  else
    false
theorem Q0g.pure (a0 a1 : Int) {w : World} : Calls Try.prog 83 #[.agg #[.int .i64 a0, .int .i64 a1]] w (Ret (.bool (Q0g.F a0 a1)) fun w' => Ext no w w') := by
  refine Q0g.run a0 a1 ?_
  unfold Q0g.N
  refine ⟨fun c0 => ?_, fun c0 => ?_⟩
  ·refine ⟨fun c1 => ?_, fun c1 => ?_⟩
   ·intro w' hx; exact ⟨by unfold Q0g.F; rw [if_pos c0, if_pos c1], hx⟩
   ·intro w' hx; exact ⟨by unfold Q0g.F; rw [if_pos c0, if_neg (show ¬ (a0 ≤ 1099511627776) from by omega)], hx⟩
  ·intro w' hx; exact ⟨by unfold Q0g.F; rw [if_neg (show ¬ (a0 > 0) from by omega)], hx⟩

def Q07.M (ar b6 bn bp bq ba : Int) (be : Option Addr) (bf bd : Nat) (bo : Int) (R : RW) (w : World) : Prop :=
 thenW (w.alloc (.cells #[.int .i64 ar, .int .i64 b6, .int .u64 bn, .int .i64 bp, .int .i64 bq, .int .i64 ba, .slice be bf bd, .int .u64 bo] 27)) fun c1 =>
 ∃ (ac : Int), c1.cell? ((blk w.heap.size).add 0) = some (.int .i64 ac) ∧
 Calls Try.prog 82 #[.int .i64 ac, .int .i64 0, .int .i64 8] c1 fun bx b0 => ∃ (a4 : Bool), bx = .returned (.bool a4) ∧
 bif !a4 then (
 bif !a4 then (
 R (.bool false) b0) else (
 ∃ (bg bj : Int), cellsAt b0 ((blk w.heap.size).add 3) [.int .i64 bg, .int .i64 bj] 0 ∧
 Calls Try.prog 83 #[.agg #[.int .i64 bg, .int .i64 bj]] b0 fun bt a0 => ∃ (aa : Bool), bt = .returned (.bool aa) ∧
 bif !aa then (
 bif !aa then (
 R (.bool false) a0) else (
 ∃ (b3 : Int), a0.cell? ((blk w.heap.size).add 2) = some (.int .u64 b3) ∧
 ∃ (ak : Int), a0.cell? ((blk w.heap.size).add 1) = some (.int .i64 ak) ∧
 R (.bool ((b3 == 0) == (ak == 0))) a0)) else (
 ∃ (bs : Int), a0.cell? (((blk w.heap.size).add 3).add 1) = some (.int .i64 bs) ∧
 ∃ (a3 : Int), a0.cell? ((blk w.heap.size).add 0) = some (.int .i64 a3) ∧
 bif bs != a3 then (
 bif bs != a3 then (
 R (.bool false) a0) else (
 ∃ (az : Int), a0.cell? ((blk w.heap.size).add 2) = some (.int .u64 az) ∧
 ∃ (af : Int), a0.cell? ((blk w.heap.size).add 1) = some (.int .i64 af) ∧
 R (.bool ((az == 0) == (af == 0))) a0)) else (
 ∃ (bb : Option Addr) (ao b8 : Nat), a0.cell? ((blk w.heap.size).add 6) = some (.slice bb ao b8) ∧
 bif decide ((ao : Int) > 1100) then (
 R (.bool false) a0) else (
 ∃ (b1 : Int), a0.cell? ((blk w.heap.size).add 2) = some (.int .u64 b1) ∧
 ∃ (aj : Int), a0.cell? ((blk w.heap.size).add 1) = some (.int .i64 aj) ∧
 R (.bool ((b1 == 0) == (aj == 0))) a0))))) else (
 ∃ (ad : Int), b0.cell? ((blk w.heap.size).add 1) = some (.int .i64 ad) ∧
 Calls Try.prog 82 #[.int .i64 ad, .int .i64 0, .int .i64 200] b0 fun bv ay => ∃ (a6 : Bool), bv = .returned (.bool a6) ∧
 bif !a6 then (
 bif !a6 then (
 R (.bool false) ay) else (
 ∃ (bh bk : Int), cellsAt ay ((blk w.heap.size).add 3) [.int .i64 bh, .int .i64 bk] 0 ∧
 Calls Try.prog 83 #[.agg #[.int .i64 bh, .int .i64 bk]] ay fun bz a2 => ∃ (a8 : Bool), bz = .returned (.bool a8) ∧
 bif !a8 then (
 bif !a8 then (
 R (.bool false) a2) else (
 ∃ (ax : Int), a2.cell? ((blk w.heap.size).add 2) = some (.int .u64 ax) ∧
 ∃ (ap : Int), a2.cell? ((blk w.heap.size).add 1) = some (.int .i64 ap) ∧
 R (.bool ((ax == 0) == (ap == 0))) a2)) else (
 ∃ (bu : Int), a2.cell? (((blk w.heap.size).add 3).add 1) = some (.int .i64 bu) ∧
 ∃ (a5 : Int), a2.cell? ((blk w.heap.size).add 0) = some (.int .i64 a5) ∧
 bif bu != a5 then (
 bif bu != a5 then (
 R (.bool false) a2) else (
 ∃ (au : Int), a2.cell? ((blk w.heap.size).add 2) = some (.int .u64 au) ∧
 ∃ (ah : Int), a2.cell? ((blk w.heap.size).add 1) = some (.int .i64 ah) ∧
 R (.bool ((au == 0) == (ah == 0))) a2)) else (
 ∃ (b5 : Option Addr) (an b9 : Nat), a2.cell? ((blk w.heap.size).add 6) = some (.slice b5 an b9) ∧
 bif decide ((an : Int) > 1100) then (
 R (.bool false) a2) else (
 ∃ (av : Int), a2.cell? ((blk w.heap.size).add 2) = some (.int .u64 av) ∧
 ∃ (am : Int), a2.cell? ((blk w.heap.size).add 1) = some (.int .i64 am) ∧
 R (.bool ((av == 0) == (am == 0))) a2))))) else (
 ∃ (ai : Int), ay.cell? ((blk w.heap.size).add 5) = some (.int .i64 ai) ∧
 Calls Try.prog 82 #[.int .i64 ai, .int .i64 (-1), .int .i64 20] ay fun bw bm => ∃ (ab : Bool), bw = .returned (.bool ab) ∧
 bif !ab then (
 R (.bool false) bm) else (
 ∃ (bl bi : Int), cellsAt bm ((blk w.heap.size).add 3) [.int .i64 bl, .int .i64 bi] 0 ∧
 Calls Try.prog 83 #[.agg #[.int .i64 bl, .int .i64 bi]] bm fun br a1 => ∃ (a9 : Bool), br = .returned (.bool a9) ∧
 bif !a9 then (
 bif !a9 then (
 R (.bool false) a1) else (
 ∃ (aw : Int), a1.cell? ((blk w.heap.size).add 2) = some (.int .u64 aw) ∧
 ∃ (ag : Int), a1.cell? ((blk w.heap.size).add 1) = some (.int .i64 ag) ∧
 R (.bool ((aw == 0) == (ag == 0))) a1)) else (
 ∃ (c0 : Int), a1.cell? (((blk w.heap.size).add 3).add 1) = some (.int .i64 c0) ∧
 ∃ (a7 : Int), a1.cell? ((blk w.heap.size).add 0) = some (.int .i64 a7) ∧
 bif c0 != a7 then (
 bif c0 != a7 then (
 R (.bool false) a1) else (
 ∃ (b4 : Int), a1.cell? ((blk w.heap.size).add 2) = some (.int .u64 b4) ∧
 ∃ (aq : Int), a1.cell? ((blk w.heap.size).add 1) = some (.int .i64 aq) ∧
 R (.bool ((b4 == 0) == (aq == 0))) a1)) else (
 ∃ (bc : Option Addr) (al b7 : Nat), a1.cell? ((blk w.heap.size).add 6) = some (.slice bc al b7) ∧
 bif decide ((al : Int) > 1100) then (
 R (.bool false) a1) else (
 ∃ (b2 : Int), a1.cell? ((blk w.heap.size).add 2) = some (.int .u64 b2) ∧
 ∃ (ae : Int), a1.cell? ((blk w.heap.size).add 1) = some (.int .i64 ae) ∧
 R (.bool ((b2 == 0) == (ae == 0))) a1))))))

theorem Q07.ok (a0 a2 a6 a8 a9 a5 : Int) (a1 : Option Addr) (a3 a4 : Nat) (a7 : Int) {R : RW} {w : World} (h : Q07.M a0 a2 a6 a8 a9 a5 a1 a3 a4 a7 R w) : Calls Try.prog 62 #[.agg #[.int .i64 a0, .int .i64 a2, .int .u64 a6, .int .i64 a8, .int .i64 a9, .int .i64 a5, .slice a1 a3 a4, .int .u64 a7]] w fun e w' => ∃ v, e = .returned v ∧ R v w' :=
  Q0b follows (H := []) (args := [.agg #[.int .i64 a0, .int .i64 a2, .int .u64 a6, .int .i64 a8, .int .i64 a9, .int .i64 a5, .slice a1 a3 a4, .int .u64 a7]]) (cast (by kernel_rfl) h)

def Q07.N (a0 a2 a7 a6 a5 a4 : Int) (ab : Option Addr) (a3 ac : Nat) (ad : Int) (R : RW) (w : World) : Prop :=
 ((Q05.F a0 0 8) = false →
 ∀ (a8 : World), Ext no w a8 →
 R (.bool false) a8) ∧
 ((Q05.F a0 0 8) = true →
 ((Q05.F a2 0 200) = false →
 ∀ (a9 : World), Ext no w a9 →
 R (.bool false) a9) ∧
 ((Q05.F a2 0 200) = true →
 ((Q05.F a4 (-1) 20) = false →
 ∀ (aa : World), Ext no w aa →
 R (.bool false) aa) ∧
 ((Q05.F a4 (-1) 20) = true →
 ((Q0g.F a6 a5) = false →
 ∀ (a1 : World), Ext no w a1 →
 R (.bool false) a1) ∧
 ((Q0g.F a6 a5) = true →
 (a5 ≠ a0 →
 ∀ (a1 : World), Ext no w a1 →
 R (.bool false) a1) ∧
 (a5 = a0 →
 ((a3 : Int) > 1100 →
 ∀ (a1 : World), Ext no w a1 →
 R (.bool false) a1) ∧
 ((a3 : Int) ≤ 1100 →
 ∀ (a1 : World), Ext no w a1 →
 R (.bool ((a7 == 0) == (a2 == 0))) a1))))))

theorem Q07.up (a0 a1 a9 a8 a3 a2 : Int) (a5 : Option Addr) (a6 a4 : Nat) (ab : Int) {R : RW} {w : World} (h : Q07.N a0 a1 a9 a8 a3 a2 a5 a6 a4 ab R w) : Q07.M a0 a1 a9 a8 a3 a2 a5 a6 a4 ab R w := by
  unfold Q07.M
  unfold Q07.N at h
  refine Q00 fun an e9 => ?_
  have a7 := Blk.of_new e9
  have am := ((Ext.refl no w)).size
  have al := (Ext.refl no w).x_alloc e9
  refine ⟨a0, a7.celli 0 rfl rfl, ?_⟩
  refine (Q05.pure a0 0 8).mono fun ee ww10 ⟨he, hxx⟩ => ⟨(Q05.F a0 0 8), he, ?_⟩
  have ac := al.trans hxx
  have a7 := a7.ext hxx id
  refine bif_of (fun af => ?_) (fun af => ?_)
  ·have h := h.1 (not_t af)
   refine bif_tt af ?_
   have h := h ww10 ac
   exact h
  have h := h.2 (not_f af)
  refine ⟨a1, a7.celli 1 rfl rfl, ?_⟩
  refine (Q05.pure a1 0 200).mono fun ee ww13 ⟨he, hxx⟩ => ⟨(Q05.F a1 0 200), he, ?_⟩
  have ad := ac.trans hxx
  have a7 := a7.ext hxx id
  refine bif_of (fun ai => ?_) (fun ai => ?_)
  ·have h := h.1 (not_t ai)
   refine bif_tt ai ?_
   have h := h ww13 ad
   exact h
  have h := h.2 (not_f ai)
  refine ⟨a2, a7.celli 5 rfl rfl, ?_⟩
  refine (Q05.pure a2 (-1) 20).mono fun ee ww16 ⟨he, hxx⟩ => ⟨(Q05.F a2 (-1) 20), he, ?_⟩
  have ae := ad.trans hxx
  have a7 := a7.ext hxx id
  refine bif_of (fun aj => ?_) (fun aj => ?_)
  ·have h := h.1 (not_t aj)
   have h := h ww16 ae
   exact h
  have h := h.2 (not_f aj)
  refine ⟨a8, a3, ⟨a7.celli 3 rfl rfl, a7.celli 4 rfl rfl, trivial⟩, ?_⟩
  refine (Q0g.pure a8 a3).mono fun ee ww19 ⟨he, hxx⟩ => ⟨(Q0g.F a8 a3), he, ?_⟩
  have aa := ae.trans hxx
  have a7 := a7.ext hxx id
  refine bif_of (fun ah => ?_) (fun ah => ?_)
  ·have h := h.1 (not_t ah)
   refine bif_tt ah ?_
   have h := h ww19 aa
   exact h
  have h := h.2 (not_f ah)
  refine ⟨a3, a7.celli 4 rfl rfl, ?_⟩
  refine ⟨a0, a7.celli 0 rfl rfl, ?_⟩
  refine bif_of (fun ag => ?_) (fun ag => ?_)
  ·have h := h.1 (bne_t ag)
   refine bif_tt ag ?_
   have h := h ww19 aa
   exact h
  have h := h.2 (bne_f ag)
  refine ⟨a5, a6, a4, a7.celli 6 rfl rfl, ?_⟩
  refine bif_of (fun ak => ?_) (fun ak => ?_)
  ·have h := h.1 (of_decide_eq_true ak)
   have h := h ww19 aa
   exact h
  have h := h.2 (Int.not_lt.1 (of_decide_eq_false ak))
  refine ⟨a9, a7.celli 2 rfl rfl, ?_⟩
  refine ⟨a1, a7.celli 1 rfl rfl, ?_⟩
  have h := h ww19 aa
  exact h

theorem Q07.go (a0 a2 a6 a8 a9 a5 : Int) (a1 : Option Addr) (a3 a4 : Nat) (a7 : Int) {R : RW} {w : World} (h : Q07.N a0 a2 a6 a8 a9 a5 a1 a3 a4 a7 R w) : Calls Try.prog 62 #[.agg #[.int .i64 a0, .int .i64 a2, .int .u64 a6, .int .i64 a8, .int .i64 a9, .int .i64 a5, .slice a1 a3 a4, .int .u64 a7]] w fun e w' => ∃ v, e = .returned v ∧ R v w' := Q07.ok a0 a2 a6 a8 a9 a5 a1 a3 a4 a7 (Q07.up a0 a2 a6 a8 a9 a5 a1 a3 a4 a7 h)
theorem Q07.run (a0 a2 a6 a8 a9 a5 : Int) (a1 : Option Addr) (a3 a4 : Nat) (a7 : Int) {V : Value} {Q : World → Prop} {w : World} (h : Q07.N a0 a2 a6 a8 a9 a5 a1 a3 a4 a7 (fun v w' => v = V ∧ Q w') w) : Calls Try.prog 62 #[.agg #[.int .i64 a0, .int .i64 a2, .int .u64 a6, .int .i64 a8, .int .i64 a9, .int .i64 a5, .slice a1 a3 a4, .int .u64 a7]] w (Ret V Q) := (Q07.go a0 a2 a6 a8 a9 a5 a1 a3 a4 a7 h).mono fun e w' ⟨v, he, hv, hq⟩ => ⟨by rw [he, hv], hq⟩

def Q07.F (a0 a1 a5 a6 a4 a3 : Int) (a7 : Option Addr) (a2 a8 : Nat) (a9 : Int) : Bool :=
  if (Q05.F a0 0 8) = false then
    false
  else
    if (Q05.F a1 0 200) = false then
      false
    else
      if (Q05.F a3 (-1) 20) = false then
        false
      else
        if (Q0g.F a6 a4) = false then
          false
        else
          if a4 ≠ a0 then
            false
          else
            if (a2 : Int) > 1100 then
              false
            else
              ((a5 == 0) == (a1 == 0))
theorem Q07.pure (a1 a5 a6 a8 a9 a4 : Int) (a2 : Option Addr) (a0 a3 : Nat) (a7 : Int) {w : World} : Calls Try.prog 62 #[.agg #[.int .i64 a1, .int .i64 a5, .int .u64 a6, .int .i64 a8, .int .i64 a9, .int .i64 a4, .slice a2 a0 a3, .int .u64 a7]] w (Ret (.bool (Q07.F a1 a5 a6 a8 a9 a4 a2 a0 a3 a7)) fun w' => Ext no w w') := by
  refine Q07.run a1 a5 a6 a8 a9 a4 a2 a0 a3 a7 ?_
  unfold Q07.N
  refine ⟨fun c0 => ?_, fun c0 => ?_⟩
  ·intro w' hx; exact ⟨by unfold Q07.F; rw [if_pos c0], hx⟩
  ·refine ⟨fun c1 => ?_, fun c1 => ?_⟩
   ·intro w' hx; exact ⟨by unfold Q07.F; rw [if_neg (by rw [c0]; decide), if_pos c1], hx⟩
   ·refine ⟨fun c2 => ?_, fun c2 => ?_⟩
    ·intro w' hx; exact ⟨by unfold Q07.F; rw [if_neg (by rw [c0]; decide), if_neg (by rw [c1]; decide), if_pos c2], hx⟩
    ·refine ⟨fun c3 => ?_, fun c3 => ?_⟩
     ·intro w' hx; exact ⟨by unfold Q07.F; rw [if_neg (by rw [c0]; decide), if_neg (by rw [c1]; decide), if_neg (by rw [c2]; decide), if_pos c3], hx⟩
     ·refine ⟨fun c4 => ?_, fun c4 => ?_⟩
      ·intro w' hx; exact ⟨by unfold Q07.F; rw [if_neg (by rw [c0]; decide), if_neg (by rw [c1]; decide), if_neg (by rw [c2]; decide), if_neg (by rw [c3]; decide), if_pos c4], hx⟩
      ·refine ⟨fun c5 => ?_, fun c5 => ?_⟩
       ·intro w' hx; exact ⟨by unfold Q07.F; rw [if_neg (by rw [c0]; decide), if_neg (by rw [c1]; decide), if_neg (by rw [c2]; decide), if_neg (by rw [c3]; decide), if_neg (not_not_intro c4), if_pos c5], hx⟩
       ·intro w' hx; exact ⟨by unfold Q07.F; rw [if_neg (by rw [c0]; decide), if_neg (by rw [c1]; decide), if_neg (by rw [c2]; decide), if_neg (by rw [c3]; decide), if_neg (not_not_intro c4), if_neg (show ¬ ((a0 : Int) > 1100) from by omega)], hx⟩

structure Ent where
  w : Int
  i : Int
  pv : Int
  t : Int
  tw : Int
  ep : Int
  body : List UInt8
  sg : Int
deriving DecidableEq
def Ent.zero : Ent := ⟨0, 0, 0, 0, 0, 0, [], 0⟩
def entC (e : Ent) (a : Option Addr) (c : Nat) : List Value := [.int .i64 e.w, .int .i64 e.i, .int .u64 e.pv, .int .i64 e.t, .int .i64 e.tw, .int .i64 e.ep, .slice a e.body.length c, .int .u64 e.sg]
def entV (e : Ent) (a : Option Addr) (c : Nat) : Value := .agg #[.int .i64 e.w, .int .i64 e.i, .int .u64 e.pv, .int .i64 e.t, .int .i64 e.tw, .int .i64 e.ep, .slice a e.body.length c, .int .u64 e.sg]
structure Ent.fit (e : Ent) : Prop where
  pv0 : 0 ≤ e.pv
  pv1 : e.pv < 18446744073709551616
  sg0 : 0 ≤ e.sg
  sg1 : e.sg < 18446744073709551616
def Q0w (e : Ent) : Bool := decide (0 ≤ e.w ∧ e.w < 8 ∧ 0 ≤ e.i ∧ e.i < 200 ∧ -1 ≤ e.ep ∧ e.ep < 20 ∧ 0 < e.t ∧ e.t ≤ 1099511627776 ∧ e.tw = e.w ∧ e.body.length ≤ 1100 ∧ (e.pv = 0 ↔ e.i = 0))
theorem beq_dec (x y : Int) : ((x == 0) == (y == 0)) = decide (x = 0 ↔ y = 0) := by
  rw [Bool.eq_iff_iff, decide_eq_true_eq, beq_iff_eq, Bool.eq_iff_iff, beq_iff_eq, beq_iff_eq]
theorem Q4h (n a b : Int) : Q05.F n a b = decide (a ≤ n ∧ n < b) := by
  unfold Q05.F
  by_cases h : n ≥ a
  · rw [if_pos h, decide_eq_decide]; omega
  · rw [if_neg h, eq_comm, decide_eq_false_iff_not]; omega
theorem Q2Q (t w : Int) : Q0g.F t w = decide (0 < t ∧ t ≤ 1099511627776 ∧ 0 ≤ w ∧ w < 8) := by
  unfold Q0g.F Q0d.F
  by_cases h : t > 0
  · rw [if_pos h]
    by_cases h1 : t ≤ 1099511627776
    · rw [if_pos h1]
      by_cases h2 : w ≥ 0
      · rw [if_pos h2, decide_eq_decide]; omega
      · rw [if_neg h2, eq_comm, decide_eq_false_iff_not]; omega
    · rw [if_neg h1, eq_comm, decide_eq_false_iff_not]; omega
  · rw [if_neg h, eq_comm, decide_eq_false_iff_not]; omega
theorem Q1H (e : Ent) (a : Option Addr) (c : Nat) : Q07.F e.w e.i e.pv e.t e.tw e.ep a e.body.length c e.sg = Q0w e := by
  unfold Q07.F Q0w
  rw [beq_dec]
  simp only [Q4h, Q2Q, decide_eq_false_iff_not]
  rw [Bool.eq_iff_iff, decide_eq_true_eq]
  (repeat' split) <;> simp only [Bool.false_eq_true, decide_eq_true_eq, false_iff] <;> omega
def stampL (t w : Int) : List UInt8 := numL (zig t) ++ numL w.toNat
def textL (e : Ent) : List UInt8 := numL e.w.toNat ++ numL e.i.toNat ++ numL e.pv.toNat ++ stampL e.t e.tw ++ numL (zig e.ep) ++ (numL e.body.length ++ e.body)
def bytesL (e : Ent) : List UInt8 := textL e ++ numL e.sg.toNat
theorem Q2S (t w : Int) : (stampL t w).length ≤ 20 := by
  have h1 := W.numL_le (zig t); have h2 := W.numL_le w.toNat
  unfold stampL; rw [List.length_append]; omega
theorem Q3j (e : Ent) : (textL e).length ≤ 70 + e.body.length := by
  have h1 := W.numL_le e.w.toNat; have h2 := W.numL_le e.i.toNat; have h3 := W.numL_le e.pv.toNat; have h4 := Q2S e.t e.tw; have h5 := W.numL_le (zig e.ep); have h6 := W.numL_le e.body.length
  unfold textL; simp only [List.length_append]; omega
theorem Q3R (e : Ent) : (bytesL e).length ≤ 80 + e.body.length := by
  have h1 := Q3j e; have h2 := W.numL_le e.sg.toNat
  unfold bytesL; rw [List.length_append]; omega
def stampR (s : RS) : (Int × Nat) × RS := (((intR s).1, (countR 7 (intR s).2).1), (countR 7 (intR s).2).2)
def entR1 (s : RS) : RS := (countR 7 s).2
def entR2 (s : RS) : RS := (countR 199 (entR1 s)).2
def entR3 (s : RS) : RS := (numR (entR2 s)).2
def entR4 (s : RS) : RS := (stampR (entR3 s)).2
def entR5 (s : RS) : RS := (intR (entR4 s)).2
def entR6 (s : RS) : RS := (bytesR 1100 (entR5 s)).2
def entR7 (s : RS) : RS := (numR (entR6 s)).2
def entR (s : RS) : Ent := ⟨(countR 7 s).1, (countR 199 (entR1 s)).1, (numR (entR2 s)).1, (stampR (entR3 s)).1.1, (stampR (entR3 s)).1.2, (intR (entR4 s)).1, (bytesR 1100 (entR5 s)).1, (numR (entR6 s)).1⟩
def readE (b : List UInt8) : Ent × Int :=
  if doneR (entR7 (b, 0)) ≠ 0 then (Ent.zero, doneR (entR7 (b, 0))) else if Q0w (entR (b, 0)) = true then (entR (b, 0), 0) else (Ent.zero, 4)
theorem Q2z (s : RS) : (intR s).2.1.length ≤ s.1.length := W.numR_len s
theorem Q3z (s : RS) : (stampR s).2.1.length ≤ s.1.length := Nat.le_trans (W.countR_len 7 _) (Q2z s)
theorem Q4f (s : RS) : (entR1 s).1.length ≤ s.1.length ∧ (entR2 s).1.length ≤ s.1.length ∧ (entR3 s).1.length ≤ s.1.length ∧ (entR4 s).1.length ≤ s.1.length ∧ (entR5 s).1.length ≤ s.1.length ∧ (entR6 s).1.length ≤ s.1.length ∧ (entR7 s).1.length ≤ s.1.length := by
  have h1 : (entR1 s).1.length ≤ s.1.length := W.countR_len 7 s
  have h2 : (entR2 s).1.length ≤ (entR1 s).1.length := W.countR_len 199 _
  have h3 : (entR3 s).1.length ≤ (entR2 s).1.length := W.numR_len _
  have h4 : (entR4 s).1.length ≤ (entR3 s).1.length := Q3z _
  have h5 : (entR5 s).1.length ≤ (entR4 s).1.length := Q2z _
  have h6 : (entR6 s).1.length ≤ (entR5 s).1.length := (Q2t 1100 _).1
  have h7 : (entR7 s).1.length ≤ (entR6 s).1.length := W.numR_len _
  omega
/-! ### the plain law -/
theorem Q2L {t : Int} (h0 : -9223372036854775808 ≤ t) (h1 : t < 9223372036854775808) (r : List UInt8) : intR (numL (zig t) ++ r, 0) = (t, (r, 0)) := by
  unfold intR
  rw [W.numR_write (W.zig_lt h0 h1), W.unzig_zig]
theorem Q33 (x r : List UInt8) : takeR x.length (x ++ r, 0) = (x, (r, 0)) := by
  unfold takeR
  rw [if_pos rfl, if_neg (by simp), List.take_left' rfl, List.drop_left' rfl]
theorem Q0O {m : Int} {x : List UInt8} (hm : (x.length : Int) ≤ m) (hx : x.length < 18446744073709551616) (r : List UInt8) : bytesR m (numL x.length ++ (x ++ r), 0) = (x, (r, 0)) := by
  unfold bytesR
  rw [W.countR_write hx hm, Q33]
theorem Q12 (e : Ent) : Q0w e = true ↔ (0 ≤ e.w ∧ e.w < 8 ∧ 0 ≤ e.i ∧ e.i < 200 ∧ -1 ≤ e.ep ∧ e.ep < 20 ∧ 0 < e.t ∧ e.t ≤ 1099511627776 ∧ e.tw = e.w ∧ e.body.length ≤ 1100 ∧ (e.pv = 0 ↔ e.i = 0)) := decide_eq_true_iff
theorem Q3w {e : Ent} (h : Q0w e = true) (hf : e.fit) (r : List UInt8) : entR (bytesL e ++ r, 0) = e ∧ entR7 (bytesL e ++ r, 0) = (r, 0) := by
  obtain ⟨h1, h2, h3, h4, h5, h6, h7, h8, h9, h10, h11⟩ := (Q12 e).1 h
  obtain ⟨l2, l3, l4, l5, l6, l7, l8, e1, rfl, rfl, rfl, rfl, rfl, rfl, rfl⟩ : ∃ l2 l3 l4 l5 l6 l7 l8, bytesL e ++ r = numL e.w.toNat ++ l2 ∧ l2 = numL e.i.toNat ++ l3 ∧ l3 = numL e.pv.toNat ++ l4 ∧ l4 = numL (zig e.t) ++ l5 ∧ l5 = numL e.tw.toNat ++ l6 ∧ l6 = numL (zig e.ep) ++ l7 ∧
      l7 = numL e.body.length ++ (e.body ++ l8) ∧ l8 = numL e.sg.toNat ++ r := ⟨_, _, _, _, _, _, _, by unfold bytesL textL stampL; simp only [List.append_assoc], rfl, rfl, rfl, rfl, rfl, rfl, rfl⟩
  have f1 := hf.pv0; have f2 := hf.pv1; have f3 := hf.sg0; have f4 := hf.sg1
  have q1 := W.countR_write (n := e.w.toNat) (m := 7) (by omega) (by omega) (numL e.i.toNat ++ (numL e.pv.toNat ++ (numL (zig e.t) ++ (numL e.tw.toNat ++ (numL (zig e.ep) ++ (numL e.body.length ++ (e.body ++ (numL e.sg.toNat ++ r))))))))
  rw [← e1] at q1
  have q2 := W.countR_write (n := e.i.toNat) (m := 199) (by omega) (by omega) (numL e.pv.toNat ++ (numL (zig e.t) ++ (numL e.tw.toNat ++ (numL (zig e.ep) ++ (numL e.body.length ++ (e.body ++ (numL e.sg.toNat ++ r)))))))
  have p1 : entR1 (bytesL e ++ r, 0) = (numL e.i.toNat ++ (numL e.pv.toNat ++ (numL (zig e.t) ++ (numL e.tw.toNat ++ (numL (zig e.ep) ++ (numL e.body.length ++ (e.body ++ (numL e.sg.toNat ++ r))))))), 0) := congrArg Prod.snd q1
  rw [← p1] at q2
  have q3 := W.numR_write (n := e.pv.toNat) (by omega) (numL (zig e.t) ++ (numL e.tw.toNat ++ (numL (zig e.ep) ++ (numL e.body.length ++ (e.body ++ (numL e.sg.toNat ++ r))))))
  have p2 : entR2 (bytesL e ++ r, 0) = (numL e.pv.toNat ++ (numL (zig e.t) ++ (numL e.tw.toNat ++ (numL (zig e.ep) ++ (numL e.body.length ++ (e.body ++ (numL e.sg.toNat ++ r)))))), 0) := congrArg Prod.snd q2
  rw [← p2] at q3
  have q4 := Q2L (t := e.t) (by omega) (by omega) (numL e.tw.toNat ++ (numL (zig e.ep) ++ (numL e.body.length ++ (e.body ++ (numL e.sg.toNat ++ r)))))
  have p3 : entR3 (bytesL e ++ r, 0) = (numL (zig e.t) ++ (numL e.tw.toNat ++ (numL (zig e.ep) ++ (numL e.body.length ++ (e.body ++ (numL e.sg.toNat ++ r))))), 0) := congrArg Prod.snd q3
  rw [← p3] at q4
  have q5 := W.countR_write (n := e.tw.toNat) (m := 7) (by omega) (by omega) (numL (zig e.ep) ++ (numL e.body.length ++ (e.body ++ (numL e.sg.toNat ++ r))))
  have p5 : (intR (entR3 (bytesL e ++ r, 0))).2 = (numL e.tw.toNat ++ (numL (zig e.ep) ++ (numL e.body.length ++ (e.body ++ (numL e.sg.toNat ++ r)))), 0) := congrArg Prod.snd q4
  rw [← p5] at q5
  have q6 := Q2L (t := e.ep) (by omega) (by omega) (numL e.body.length ++ (e.body ++ (numL e.sg.toNat ++ r)))
  have p6 : entR4 (bytesL e ++ r, 0) = (numL (zig e.ep) ++ (numL e.body.length ++ (e.body ++ (numL e.sg.toNat ++ r))), 0) := congrArg Prod.snd q5
  rw [← p6] at q6
  have q7 := Q0O (x := e.body) (m := 1100) (by omega) (by omega) (numL e.sg.toNat ++ r)
  have p7 : entR5 (bytesL e ++ r, 0) = (numL e.body.length ++ (e.body ++ (numL e.sg.toNat ++ r)), 0) := congrArg Prod.snd q6
  rw [← p7] at q7
  have q8 := W.numR_write (n := e.sg.toNat) (by omega) r
  have p8 : entR6 (bytesL e ++ r, 0) = (numL e.sg.toNat ++ r, 0) := congrArg Prod.snd q7
  rw [← p8] at q8
  refine ⟨?_, congrArg Prod.snd q8⟩
  unfold entR stampR
  rw [q1, q2, q3, q5, q4, q6, q7, q8]
  simp only
  obtain ⟨w, i, pv, t, tw, ep, body, sg⟩ := e
  simp only at *
  rw [Int.toNat_of_nonneg h1, Int.toNat_of_nonneg h3, Int.toNat_of_nonneg f1, Int.toNat_of_nonneg (by omega : 0 ≤ tw), Int.toNat_of_nonneg f3]
theorem Q1v {e : Ent} (h : Q0w e = true) (hf : e.fit) : readE (bytesL e) = (e, 0) := by
  obtain ⟨h1, h2⟩ := Q3w h hf []
  rw [List.append_nil] at h1 h2
  unfold readE
  rw [h2, h1, if_neg (by simp [doneR]), if_pos h]
end Go.Proofs.Ytoempemllkebkaa
namespace Go.Proofs.Ytoempemllkebkaa
open Go Go.Mx Go.Proofs
open W (OwnB Rd RdR GivesW numR countR doneR zig unzig intR)
def Q0u.M (a4 : Option Addr) (a2 a1 : Nat) (a5 : Option Addr) (a3 a0 : Nat) (R : RW) (w : World) : Prop :=
 ∃ (s3 : ByteArray), (convert 25 9 (.slice a4 a2 a1)).run Try.prog w = .ok (.string s3) w ∧
 ∃ (s4 : ByteArray), (convert 25 9 (.slice a5 a3 a0)).run Try.prog w = .ok (.string s4) w ∧
 R (.bool (s3.toList == s4.toList)) w

theorem Q0u.ok (a4 : Option Addr) (a2 a1 : Nat) (a5 : Option Addr) (a3 a0 : Nat) {R : RW} {w : World} (h : Q0u.M a4 a2 a1 a5 a3 a0 R w) : Calls Try.prog 59 #[.slice a4 a2 a1, .slice a5 a3 a0] w fun e w' => ∃ v, e = .returned v ∧ R v w' :=
  Q0b follows (H := []) (args := [.slice a4 a2 a1, .slice a5 a3 a0]) (cast (by kernel_rfl) h)

def Q0u.N (a4 : Option Addr) (a2 a1 : Nat) (a5 : Option Addr) (a3 a0 : Nat) (R : RW) (w : World) : Prop :=
 ∃ (s3 : ByteArray), (convert 25 9 (.slice a4 a2 a1)).run Try.prog w = .ok (.string s3) w ∧
 ∃ (s5 : ByteArray), (convert 25 9 (.slice a5 a3 a0)).run Try.prog w = .ok (.string s5) w ∧
 R (.bool (s3.toList == s5.toList)) w

theorem Q0u.up (a4 : Option Addr) (a2 a1 : Nat) (a5 : Option Addr) (a3 a0 : Nat) {R : RW} {w : World} (h : Q0u.N a4 a2 a1 a5 a3 a0 R w) : Q0u.M a4 a2 a1 a5 a3 a0 R w := by
  unfold Q0u.M
  unfold Q0u.N at h
  obtain ⟨s3, a7, h⟩ := h
  refine ⟨s3, a7, ?_⟩
  obtain ⟨s5, a6, h⟩ := h
  refine ⟨s5, a6, ?_⟩
  exact h

theorem Q0u.go (a4 : Option Addr) (a2 a1 : Nat) (a5 : Option Addr) (a3 a0 : Nat) {R : RW} {w : World} (h : Q0u.N a4 a2 a1 a5 a3 a0 R w) : Calls Try.prog 59 #[.slice a4 a2 a1, .slice a5 a3 a0] w fun e w' => ∃ v, e = .returned v ∧ R v w' := Q0u.ok a4 a2 a1 a5 a3 a0 (Q0u.up a4 a2 a1 a5 a3 a0 h)
theorem Q0u.run (a4 : Option Addr) (a2 a1 : Nat) (a5 : Option Addr) (a3 a0 : Nat) {V : Value} {Q : World → Prop} {w : World} (h : Q0u.N a4 a2 a1 a5 a3 a0 (fun v w' => v = V ∧ Q w') w) : Calls Try.prog 59 #[.slice a4 a2 a1, .slice a5 a3 a0] w (Ret V Q) := (Q0u.go a4 a2 a1 a5 a3 a0 h).mono fun e w' ⟨v, he, hv, hq⟩ => ⟨by rw [he, hv], hq⟩

def Q0I.M (ab : Option Addr) (ad ae : Nat) (ag af : Int) (R : RW) (w : World) : Prop :=
 thenW (w.alloc (.cells #[.int .i64 ag, .int .i64 af] 24)) fun aa =>
 thenW (aa.drew) fun a7 =>
 ∃ (T6 : Int), a7.cell? ((blk w.heap.size).add 0) = some (.int .i64 T6) ∧
 ∃ (W7 : Int), a7.cell? ((blk w.heap.size).add 1) = some (.int .i64 W7) ∧
 Calls Try.prog 89 #[.slice ab ad ae, .int .i64 T6] a7 fun ac a6 => ∃ (a3 : Option Addr) (a5 a4 : Nat), ac = .returned (.slice a3 a5 a4) ∧
 a6.cell? ((blk w.heap.size).add 1) = some (.int .i64 W7) ∧
 Calls Try.prog 26 #[.slice a3 a5 a4, .int .u64 (IntKind.u64.wrap (if (0 : Int) > W7 then 0 else W7))] a6 fun a8 a9 => ∃ (a0 : Option Addr) (a2 a1 : Nat), a8 = .returned (.slice a0 a2 a1) ∧
 R (.slice a0 a2 a1) a9

theorem Q0I.ok (a0 : Option Addr) (a4 a1 : Nat) (a3 a2 : Int) {R : RW} {w : World} (h : Q0I.M a0 a4 a1 a3 a2 R w) : Calls Try.prog 90 #[.slice a0 a4 a1, .agg #[.int .i64 a3, .int .i64 a2]] w fun e w' => ∃ v, e = .returned v ∧ R v w' :=
  Q0b follows (H := []) (args := [.slice a0 a4 a1, .agg #[.int .i64 a3, .int .i64 a2]]) (cast (by kernel_rfl) h)

def Q0I.N (ab : Option Addr) (af ac : Nat) (ae a9 : Int) (R : RW) (w : World) : Prop :=
 ∀ (a6 : World) (p6 : Nat), Ext no w a6 → Priv w a6 [p6] →
 Calls Try.prog 89 #[.slice ab af ac, .int .i64 ae] a6 fun ad aa => ∃ (a5 : Option Addr) (a3 a4 : Nat), ad = .returned (.slice a5 a3 a4) ∧
 Keep [p6] a6 aa ∧
 Calls Try.prog 26 #[.slice a5 a3 a4, .int .u64 (IntKind.u64.wrap (if (0 : Int) > a9 then 0 else a9))] aa fun a8 a7 => ∃ (a2 : Option Addr) (a0 a1 : Nat), a8 = .returned (.slice a2 a0 a1) ∧
 R (.slice a2 a0 a1) a7

theorem Q0I.up (a9 : Option Addr) (ab aa : Nat) (a8 a7 : Int) {R : RW} {w : World} (h : Q0I.N a9 ab aa a8 a7 R w) : Q0I.M a9 ab aa a8 a7 R w := by
  unfold Q0I.M
  unfold Q0I.N at h
  refine Q00 fun aj e4 => ?_
  have a0 := Blk.of_new e4
  have ag := ((Ext.refl no w)).size
  have af := (Ext.refl no w).x_alloc e4
  refine Q00 fun ac e5 => ?_
  have ae := af.x_drew e5
  have a0 := a0.x_drew e5
  refine ⟨a8, a0.celli 0 rfl rfl, ?_⟩
  refine ⟨a7, a0.celli 1 rfl rfl, ?_⟩
  have h := h ac (w.heap.size) ae (Priv.cons ag a0.lt Priv.nil)
  refine h.mono fun ai ak h => ?_
  obtain ⟨a5, a6, a4, he, hk, h⟩ := h
  refine ⟨a5, a6, a4, he, ?_⟩
  have a0 := hk.blk a0 (by simp)
  refine ⟨a0.celli 1 rfl rfl, ?_⟩
  refine h.mono fun ah ad h => ?_
  obtain ⟨a2, a3, a1, he, h⟩ := h
  refine ⟨a2, a3, a1, he, ?_⟩
  exact h

theorem Q0I.go (a0 : Option Addr) (a4 a1 : Nat) (a3 a2 : Int) {R : RW} {w : World} (h : Q0I.N a0 a4 a1 a3 a2 R w) : Calls Try.prog 90 #[.slice a0 a4 a1, .agg #[.int .i64 a3, .int .i64 a2]] w fun e w' => ∃ v, e = .returned v ∧ R v w' := Q0I.ok a0 a4 a1 a3 a2 (Q0I.up a0 a4 a1 a3 a2 h)
def Q0F.M (r1 : Option Addr) (R : RW) (w : World) : Prop :=
 thenW (w.alloc (.cells #[.int .i64 0, .int .i64 0] 24)) fun ab =>
 Calls Try.prog 100 #[.pointer r1] ab fun ae a9 => ∃ (a5 : Int), ae = .returned (.int .i64 a5) ∧
 Q01 a9 (((blk w.heap.size).add 0).add 0) ∧
 thenW (a9.setCell (((blk w.heap.size).add 0).add 0) (.int .i64 a5)) fun ac =>
 Calls Try.prog 54 #[.pointer r1, .int .i64 7] ac fun ad aa => ∃ (a2 : Int), ad = .returned (.int .i64 a2) ∧
 Q01 aa (((blk w.heap.size).add 1).add 0) ∧
 thenW (aa.setCell (((blk w.heap.size).add 1).add 0) (.int .i64 a2)) fun a3 =>
 ∃ (a7 a6 : Int), cellsAt a3 (blk w.heap.size) [.int .i64 a7, .int .i64 a6] 0 ∧
 Q01 a3 ((blk w.heap.size).add 0) ∧
 thenW (a3.setCell ((blk w.heap.size).add 0) (.int .i64 a7)) fun a8 =>
 Q01 a8 ((blk w.heap.size).add 1) ∧
 thenW (a8.setCell ((blk w.heap.size).add 1) (.int .i64 a6)) fun a4 =>
 ∃ (a0 a1 : Int), cellsAt a4 (blk w.heap.size) [.int .i64 a0, .int .i64 a1] 0 ∧
 R (.agg #[.int .i64 a0, .int .i64 a1]) a4

theorem Q0F.ok (r1 : Option Addr) {R : RW} {w : World} (h : Q0F.M r1 R w) : Calls Try.prog 99 #[.pointer r1] w fun e w' => ∃ v, e = .returned v ∧ R v w' :=
  Q0b follows (H := []) (args := [.pointer r1]) (cast (by kernel_rfl) h)

def Q0F.N (r1 : Option Addr) (R : RW) (w : World) : Prop :=
 ∀ (a4 : World) (p3 : Nat), Ext no w a4 → Priv w a4 [p3] →
 Calls Try.prog 100 #[.pointer r1] a4 fun a7 a6 => ∃ (a3 : Int), a7 = .returned (.int .i64 a3) ∧
 Keep [p3] a4 a6 ∧
 ∀ (a5 : World), Ext (fun b => b = p3) a6 a5 →
 Calls Try.prog 54 #[.pointer r1, .int .i64 7] a5 fun a8 a1 => ∃ (a0 : Int), a8 = .returned (.int .i64 a0) ∧
 Keep [p3] a5 a1 ∧
 ∀ (a2 : World), Ext (fun b => b = p3) a1 a2 →
 R (.agg #[.int .i64 a3, .int .i64 a0]) a2

theorem Q0F.up (r1 : Option Addr) {R : RW} {w : World} (h : Q0F.N r1 R w) : Q0F.M r1 R w := by
  unfold Q0F.M
  unfold Q0F.N at h
  refine Q00 fun ah e2 => ?_
  have a0 := Blk.of_new e2
  have ag := ((Ext.refl no w)).size
  have ae := (Ext.refl no w).x_alloc e2
  have h := h ah (w.heap.size) ae (Priv.cons ag a0.lt Priv.nil)
  refine h.mono fun am a7 h => ?_
  obtain ⟨a3, he, hk, h⟩ := h
  refine ⟨a3, he, ?_⟩
  have a0 := hk.blk a0 (by simp)
  have af : Ext (fun b => b = w.heap.size) a7 a7 := ((Ext.refl no a7)).none
  refine ⟨a0.cani 0 rfl rfl, Q00 fun aj e7 => ?_⟩
  have ak := af.x_set (q := w.heap.size) (i := 0) rfl (.inl rfl) e7
  have a0 := a0.seti 0 rfl e7
  have h := h aj ak
  refine h.mono fun al a2 h => ?_
  obtain ⟨a1, he, hk, h⟩ := h
  refine ⟨a1, he, ?_⟩
  have a0 := hk.blk a0 (by simp)
  have a5 : Ext (fun b => b = w.heap.size) a2 a2 := ((Ext.refl no a2)).none
  refine ⟨a0.cani 1 rfl rfl, Q00 fun ai aa => ?_⟩
  have a9 := a5.x_set (q := w.heap.size) (i := 1) rfl (.inl rfl) aa
  have a0 := a0.seti 1 rfl aa
  refine ⟨a3, a1, ⟨a0.celli 0 rfl rfl, a0.celli 1 rfl rfl, trivial⟩, ?_⟩
  refine ⟨a0.cani 0 rfl rfl, Q00 fun ad ac => ?_⟩
  have a6 := a9.x_set (q := w.heap.size) (i := 0) rfl (.inl rfl) ac
  have a0 := a0.seti 0 rfl ac
  refine ⟨a0.cani 1 rfl rfl, Q00 fun a8 ab => ?_⟩
  have a4 := a6.x_set (q := w.heap.size) (i := 1) rfl (.inl rfl) ab
  have a0 := a0.seti 1 rfl ab
  refine ⟨a3, a1, ⟨a0.celli 0 rfl rfl, a0.celli 1 rfl rfl, trivial⟩, ?_⟩
  have h := h a8 a4
  exact h

theorem Q0F.go (r1 : Option Addr) {R : RW} {w : World} (h : Q0F.N r1 R w) : Calls Try.prog 99 #[.pointer r1] w fun e w' => ∃ v, e = .returned v ∧ R v w' := Q0F.ok r1 (Q0F.up r1 h)
theorem Q0F.run (r1 : Option Addr) {V : Value} {Q : World → Prop} {w : World} (h : Q0F.N r1 (fun v w' => v = V ∧ Q w') w) : Calls Try.prog 99 #[.pointer r1] w (Ret V Q) := (Q0F.go r1 h).mono fun e w' ⟨v, he, hv, hq⟩ => ⟨by rw [he, hv], hq⟩

abbrev Q0e.J1 (j8 : Int) (I0 : Nat → List Value → World → Prop) (af : Option Addr) (ah m5 : Nat) (aa : Option Addr) (R : RW) (a7 : World) : Prop :=
 af.elim False fun ag =>
 0 ≤ (j8 : Int) ∧ (j8 : Int) < (ah : Int) ∧
 ∃ (ac : Int), a7.cell? (ag.add (Int.toNat j8 * 1)) = some (.int .u64 ac) ∧
 aa.elim False fun ae =>
 ∃ (a5 : Option Addr) (a4 a6 : Nat), a7.cell? ae = some (.slice a5 a4 a6) ∧
 Calls Try.prog 26 #[.slice a5 a4 a6, .int .u64 ac] a7 fun a8 a3 => ∃ (a2 : Option Addr) (a1 a0 : Nat), a8 = .returned (.slice a2 a1 a0) ∧
 aa.elim False fun ab =>
 Q01 a3 (ab.add 0) ∧
 thenW (a3.setCell (ab.add 0) (.slice a2 a1 a0)) fun a9 =>
 ∃ ad, ad < m5 ∧ I0 ad [.int .i64 (IntKind.i64.wrap (j8 + 1))] a9

def Q0e.M (a2 a3 : Option Addr) (a1 a4 : Nat) (R : RW) (w : World) : Prop :=
 ∃ (I0 : Nat → List Value → World → Prop) (m4 : Nat), I0 m4 [.int .i64 0] w ∧ ∀ (m5 : Nat) (a0 : World) (t3 : Int), I0 m5 [.int .i64 t3] a0 →
 bif decide (t3 < (a1 : Int)) then (
 Q0e.J1 t3 I0 a3 a1 m5 a2 R a0) else (
 R (.tuple #[]) a0)

theorem Q0e.ok (a2 a3 : Option Addr) (a1 a0 : Nat) {R : RW} {w : World} (h : Q0e.M a2 a3 a1 a0 R w) : Calls Try.prog 88 #[.pointer a2, .slice a3 a1 a0] w fun e w' => ∃ v, e = .returned v ∧ R v w' :=
  Q0b follows (H := [(0, [0, 6, 7], [(8, (.one (.int .i64)))])]) (args := [.pointer a2, .slice a3 a1 a0]) (cast (by kernel_rfl) h)

def Q0e.N (af ag : Option Addr) (aa ah : Nat) (R : RW) (w : World) : Prop :=
 ∃ (I0 : Nat → List Value → World → Prop) (m4 : Nat), I0 m4 [.int .i64 0] w ∧ ∀ (m5 : Nat) (a3 : World) (t3 : Int), I0 m5 [.int .i64 t3] a3 →
 (t3 < (aa : Int) →
 ∃ a8 : Addr, ag = some a8 ∧
 0 ≤ (t3 : Int) ∧ (t3 : Int) < (aa : Int) ∧
 ∃ (ad : Int), a3.cell? (a8.add (Int.toNat t3 * 1)) = some (.int .u64 ad) ∧
 ∃ a9 : Addr, af = some a9 ∧
 ∃ (a6 : Option Addr) (a4 a7 : Nat), a3.cell? a9 = some (.slice a6 a4 a7) ∧
 Calls Try.prog 26 #[.slice a6 a4 a7, .int .u64 ad] a3 fun ab a5 => ∃ (a1 : Option Addr) (a2 a0 : Nat), ab = .returned (.slice a1 a2 a0) ∧
 Q01 a5 (a9.add 0) ∧
 thenW (a5.setCell (a9.add 0) (.slice a1 a2 a0)) fun ac =>
 (-9223372036854775808 : Int) ≤ (t3 + 1) ∧ (t3 + 1) < 9223372036854775808 ∧
 ∃ ae, ae < m5 ∧ I0 ae [.int .i64 (t3 + 1)] ac) ∧
 ((aa : Int) ≤ t3 →
 R (.tuple #[]) a3)

theorem Q0e.up (a9 ab : Option Addr) (aa ac : Nat) {R : RW} {w : World} (h : Q0e.N a9 ab aa ac R w) : Q0e.M a9 ab aa ac R w := by
  unfold Q0e.M
  unfold Q0e.N at h
  obtain ⟨I0, m4, h0, h⟩ := h
  refine ⟨I0, m4, h0, fun m5 ag t3 hI => ?_⟩
  have h := h m5 ag t3 hI
  refine bif_fo (fun c7 => ?_) (fun c7 => ?_)
  ·have h := h.2 (Int.not_lt.1 (of_decide_eq_false c7))
   exact h
  have h := h.1 (of_decide_eq_true c7)
  unfold Q0e.J1
  obtain ⟨a8, ad, h⟩ := h
  refine Q0s ad ?_
  obtain ⟨aj, ae, h⟩ := h
  refine ⟨aj, ae, ?_⟩
  obtain ⟨ak, am, h⟩ := h
  refine ⟨ak, am, ?_⟩
  obtain ⟨aq, a3, h⟩ := h
  refine Q0s a3 ?_
  obtain ⟨a4, a7, a6, a5, h⟩ := h
  refine ⟨a4, a7, a6, a5, ?_⟩
  refine h.mono fun ah ai h => ?_
  obtain ⟨a0, a2, a1, he, h⟩ := h
  refine ⟨a0, a2, a1, he, ?_⟩
  refine Q0s a3 ?_
  obtain ⟨hcs, h⟩ := h
  refine ⟨hcs, Q00 fun ap ao => ?_⟩
  replace h := Q0V h ao
  obtain ⟨af, al, h⟩ := h
  try rw [w64 af al]
  obtain ⟨an, hk, h⟩ := h
  exact ⟨an, hk, h⟩

theorem Q0e.go (a2 a3 : Option Addr) (a1 a0 : Nat) {R : RW} {w : World} (h : Q0e.N a2 a3 a1 a0 R w) : Calls Try.prog 88 #[.pointer a2, .slice a3 a1 a0] w fun e w' => ∃ v, e = .returned v ∧ R v w' := Q0e.ok a2 a3 a1 a0 (Q0e.up a2 a3 a1 a0 h)
def Q0G.M (a9 ai aq av ay aj : Int) (al : Option Addr) (am ak : Nat) (ar : Int) (R : RW) (w : World) : Prop :=
 thenW (w.alloc (.cells #[.int .i64 a9, .int .i64 ai, .int .u64 aq, .int .i64 av, .int .i64 ay, .int .i64 aj, .slice al am ak, .int .u64 ar] 27)) fun b8 =>
 thenW (b8.alloc (.cells #[.slice none 0 0] 113)) fun ag =>
 ∃ (a2 : Int), ag.cell? ((blk w.heap.size).add 0) = some (.int .i64 a2) ∧
 ∃ (a6 : Int), ag.cell? ((blk w.heap.size).add 1) = some (.int .i64 a6) ∧
 ∃ (ab : Int), ag.cell? ((blk w.heap.size).add 2) = some (.int .u64 ab) ∧
 thenW (ag.alloc (.cells #[.int .u64 (IntKind.u64.wrap a2), .int .u64 (IntKind.u64.wrap a6), .int .u64 ab] 22)) fun b1 =>
 Calls Try.prog 88 #[.pointer (some (blk b8.heap.size)), .slice (some (blk ag.heap.size)) 3 3] b1 fun b3 b4 => b3 = .returned (.tuple #[]) ∧
 thenW (b4.drew) fun an =>
 ∃ (aw : Option Addr) (b0 au : Nat), an.cell? (blk b8.heap.size) = some (.slice aw b0 au) ∧
 ∃ (ap ao : Int), cellsAt an ((blk w.heap.size).add 3) [.int .i64 ap, .int .i64 ao] 0 ∧
 ∃ (a0 : Int), an.cell? ((blk w.heap.size).add 5) = some (.int .i64 a0) ∧
 Calls Try.prog 90 #[.slice aw b0 au, .agg #[.int .i64 ap, .int .i64 ao]] an fun b2 az => ∃ (ac : Option Addr) (ad aa : Nat), b2 = .returned (.slice ac ad aa) ∧
 az.cell? ((blk w.heap.size).add 5) = some (.int .i64 a0) ∧
 Calls Try.prog 89 #[.slice ac ad aa, .int .i64 a0] az fun b7 ax => ∃ (af : Option Addr) (ae ah : Nat), b7 = .returned (.slice af ae ah) ∧
 ∃ (a8 : Option Addr) (a5 a7 : Nat), ax.cell? ((blk w.heap.size).add 6) = some (.slice a8 a5 a7) ∧
 Calls Try.prog 29 #[.slice af ae ah, .slice a8 a5 a7] ax fun b5 b6 => ∃ (a4 : Option Addr) (a3 a1 : Nat), b5 = .returned (.slice a4 a3 a1) ∧
 R (.slice a4 a3 a1) b6

theorem Q0G.ok (a0 a2 a6 a8 a9 a5 : Int) (a1 : Option Addr) (a3 a4 : Nat) (a7 : Int) {R : RW} {w : World} (h : Q0G.M a0 a2 a6 a8 a9 a5 a1 a3 a4 a7 R w) : Calls Try.prog 76 #[.agg #[.int .i64 a0, .int .i64 a2, .int .u64 a6, .int .i64 a8, .int .i64 a9, .int .i64 a5, .slice a1 a3 a4, .int .u64 a7]] w fun e w' => ∃ v, e = .returned v ∧ R v w' :=
  Q0b follows (H := []) (args := [.agg #[.int .i64 a0, .int .i64 a2, .int .u64 a6, .int .i64 a8, .int .i64 a9, .int .i64 a5, .slice a1 a3 a4, .int .u64 a7]]) (cast (by kernel_rfl) h)

def Q0G.N (a3 ac ah ao aq ad : Int) (af : Option Addr) (ag ae : Nat) (b1 : Int) (R : RW) (w : World) : Prop :=
 ∀ (ab : World) (al au : Nat), Ext no w ab → Blk ab al 113 [.slice none 0 0] → w.heap.size ≤ al → al < ab.heap.size → Privq w al [au] →
 ∀ (a7 : World) (av : Nat), Ext no ab a7 → Blk a7 av 22 [.int .u64 (IntKind.u64.wrap a3), .int .u64 (IntKind.u64.wrap ac), .int .u64 ah] → ab.heap.size ≤ av → av < a7.heap.size →
 Calls Try.prog 88 #[.pointer (some (blk al)), .slice (some (blk av)) 3 3] a7 fun ax aj => ax = .returned (.tuple #[]) ∧
 Keep [au] a7 aj ∧
 ∃ (ar : Option Addr) (am an : Nat), aj.cell? (blk al) = some (.slice ar am an) ∧
 ∀ (ak : World), Ext no aj ak →
 Calls Try.prog 90 #[.slice ar am an, .agg #[.int .i64 ao, .int .i64 aq]] ak fun aw ai => ∃ (a8 : Option Addr) (a6 aa : Nat), aw = .returned (.slice a8 a6 aa) ∧
 Keep [au] ak ai ∧
 Calls Try.prog 89 #[.slice a8 a6 aa, .int .i64 ad] ai fun az ap => ∃ (a4 : Option Addr) (a5 a9 : Nat), az = .returned (.slice a4 a5 a9) ∧
 Keep [au] ai ap ∧
 Calls Try.prog 29 #[.slice a4 a5 a9, .slice af ag ae] ap fun b0 ay => ∃ (a0 : Option Addr) (a2 a1 : Nat), b0 = .returned (.slice a0 a2 a1) ∧
 R (.slice a0 a2 a1) ay

theorem Q0G.up (a0 a2 a7 a9 ab a3 : Int) (a5 : Option Addr) (a6 a4 : Nat) (ae : Int) {R : RW} {w : World} (h : Q0G.N a0 a2 a7 a9 ab a3 a5 a6 a4 ae R w) : Q0G.M a0 a2 a7 a9 ab a3 a5 a6 a4 ae R w := by
  unfold Q0G.M
  unfold Q0G.N at h
  refine Q00 fun az e9 => ?_
  have a1 := Blk.of_new e9
  have b5 := ((Ext.refl no w)).size
  have ax := (Ext.refl no w).x_alloc e9
  refine Q00 fun ad an => ?_
  have b8 := a1.lt
  have a1 := a1.x_alloc an
  have h := h ad az.heap.size (w.heap.size) (ax.x_alloc an) (Blk.of_new an) (ax).size (Q0x an) (Privq.cons b5 b8 Privq.nil)
  refine ⟨a0, a1.celli 0 rfl rfl, ?_⟩
  refine ⟨a2, a1.celli 1 rfl rfl, ?_⟩
  refine ⟨a7, a1.celli 2 rfl rfl, ?_⟩
  refine Q00 fun au am => ?_
  have a1 := a1.x_alloc am
  have h := h au ad.heap.size ((Ext.refl no ad).x_alloc am) (Blk.of_new am) ((Ext.refl no ad)).size (Q0x am)
  refine h.mono fun b2 ar h => ?_
  obtain ⟨he, hk, h⟩ := h
  refine ⟨he, ?_⟩
  have a1 := hk.blk a1 (by simp)
  refine Q00 fun av ay => ?_
  have al := (Ext.refl no ar).x_drew ay
  have a1 := a1.x_drew ay
  obtain ⟨aw, ap, aq, ao, h⟩ := h
  refine ⟨aw, ap, aq, (al).cell ao id, ?_⟩
  refine ⟨a9, ab, ⟨a1.celli 3 rfl rfl, a1.celli 4 rfl rfl, trivial⟩, ?_⟩
  refine ⟨a3, a1.celli 5 rfl rfl, ?_⟩
  have h := h av al
  refine h.mono fun b1 b0 h => ?_
  obtain ⟨ai, ah, ak, he, hk, h⟩ := h
  refine ⟨ai, ah, ak, he, ?_⟩
  have a1 := hk.blk a1 (by simp)
  refine ⟨a1.celli 5 rfl rfl, ?_⟩
  refine h.mono fun b4 b7 h => ?_
  obtain ⟨af, ag, aj, he, hk, h⟩ := h
  refine ⟨af, ag, aj, he, ?_⟩
  have a1 := hk.blk a1 (by simp)
  refine ⟨a5, a6, a4, a1.celli 6 rfl rfl, ?_⟩
  refine h.mono fun b6 b3 h => ?_
  obtain ⟨a8, ac, aa, he, h⟩ := h
  refine ⟨a8, ac, aa, he, ?_⟩
  exact h

theorem Q0G.go (a0 a2 a6 a8 a9 a5 : Int) (a1 : Option Addr) (a3 a4 : Nat) (a7 : Int) {R : RW} {w : World} (h : Q0G.N a0 a2 a6 a8 a9 a5 a1 a3 a4 a7 R w) : Calls Try.prog 76 #[.agg #[.int .i64 a0, .int .i64 a2, .int .u64 a6, .int .i64 a8, .int .i64 a9, .int .i64 a5, .slice a1 a3 a4, .int .u64 a7]] w fun e w' => ∃ v, e = .returned v ∧ R v w' := Q0G.ok a0 a2 a6 a8 a9 a5 a1 a3 a4 a7 (Q0G.up a0 a2 a6 a8 a9 a5 a1 a3 a4 a7 h)
abbrev Q0r.J1 (an : Addr) (R : RW) (al : World) : Prop :=
 thenW (al.drew) fun ah =>
 ∃ (a0 a4 a9 ad ac a5 : Int) (a2 : Option Addr) (a1 a3 : Nat) (aa : Int), cellsAt ah an [.int .i64 a0, .int .i64 a4, .int .u64 a9, .int .i64 ad, .int .i64 ac, .int .i64 a5, .slice a2 a1 a3, .int .u64 aa] 0 ∧
 ∃ (ag : Int), ah.cell? (an.add 7) = some (.int .u64 ag) ∧
 Calls Try.prog 76 #[.agg #[.int .i64 a0, .int .i64 a4, .int .u64 a9, .int .i64 ad, .int .i64 ac, .int .i64 a5, .slice a2 a1 a3, .int .u64 aa]] ah fun aj ai => ∃ (a7 : Option Addr) (a8 a6 : Nat), aj = .returned (.slice a7 a8 a6) ∧
 ai.cell? (an.add 7) = some (.int .u64 ag) ∧
 Calls Try.prog 26 #[.slice a7 a8 a6, .int .u64 ag] ai fun am ak => ∃ (ab : Option Addr) (af ae : Nat), am = .returned (.slice ab af ae) ∧
 R (.tuple #[.slice ab af ae, .int .i64 0]) ak

def Q0r.M (a8 ac ah ak al ad : Int) (af : Option Addr) (ag ae : Nat) (ai : Int) (R : RW) (w : World) : Prop :=
 thenW (w.alloc (.cells #[.int .i64 a8, .int .i64 ac, .int .u64 ah, .int .i64 ak, .int .i64 al, .int .i64 ad, .slice af ag ae, .int .u64 ai] 27)) fun an =>
 ∃ (a0 a2 a6 ab a9 a4 : Int) (a5 : Option Addr) (a1 a3 : Nat) (aa : Int), cellsAt an (blk w.heap.size) [.int .i64 a0, .int .i64 a2, .int .u64 a6, .int .i64 ab, .int .i64 a9, .int .i64 a4, .slice a5 a1 a3, .int .u64 aa] 0 ∧
 Calls Try.prog 62 #[.agg #[.int .i64 a0, .int .i64 a2, .int .u64 a6, .int .i64 ab, .int .i64 a9, .int .i64 a4, .slice a5 a1 a3, .int .u64 aa]] an fun am aj => ∃ (a7 : Bool), am = .returned (.bool a7) ∧
 bif !a7 then (
 R (.tuple #[.slice none 0 0, .int .i64 1]) aj) else (
 Q0r.J1 (blk w.heap.size) R aj)

theorem Q0r.ok (a0 a2 a6 a8 a9 a5 : Int) (a1 : Option Addr) (a3 a4 : Nat) (a7 : Int) {R : RW} {w : World} (h : Q0r.M a0 a2 a6 a8 a9 a5 a1 a3 a4 a7 R w) : Calls Try.prog 58 #[.agg #[.int .i64 a0, .int .i64 a2, .int .u64 a6, .int .i64 a8, .int .i64 a9, .int .i64 a5, .slice a1 a3 a4, .int .u64 a7]] w fun e w' => ∃ v, e = .returned v ∧ R v w' :=
  Q0b follows (H := []) (args := [.agg #[.int .i64 a0, .int .i64 a2, .int .u64 a6, .int .i64 a8, .int .i64 a9, .int .i64 a5, .slice a1 a3 a4, .int .u64 a7]]) (cast (by kernel_rfl) h)

def Q0r.N (a0 a1 a6 ac af a2 : Int) (a4 : Option Addr) (a5 a3 : Nat) (a7 : Int) (R : RW) (w : World) : Prop :=
 ((Q07.F a0 a1 a6 ac af a2 a4 a5 a3 a7) = false →
 ∀ (ah : World), Ext no w ah →
 R (.tuple #[.slice none 0 0, .int .i64 1]) ah) ∧
 ((Q07.F a0 a1 a6 ac af a2 a4 a5 a3 a7) = true →
 ∀ (ag : World) (am : Nat), Ext no w ag → Priv w ag [am] →
 Calls Try.prog 76 #[.agg #[.int .i64 a0, .int .i64 a1, .int .u64 a6, .int .i64 ac, .int .i64 af, .int .i64 a2, .slice a4 a5 a3, .int .u64 a7]] ag fun ak ai => ∃ (aa : Option Addr) (a8 a9 : Nat), ak = .returned (.slice aa a8 a9) ∧
 Keep [am] ag ai ∧
 Calls Try.prog 26 #[.slice aa a8 a9, .int .u64 a7] ai fun al aj => ∃ (ab : Option Addr) (ad ae : Nat), al = .returned (.slice ab ad ae) ∧
 R (.tuple #[.slice ab ad ae, .int .i64 0]) aj)

theorem Q0r.up (a0 a1 a6 a9 aa a2 : Int) (a4 : Option Addr) (a5 a3 : Nat) (a8 : Int) {R : RW} {w : World} (h : Q0r.N a0 a1 a6 a9 aa a2 a4 a5 a3 a8 R w) : Q0r.M a0 a1 a6 a9 aa a2 a4 a5 a3 a8 R w := by
  unfold Q0r.M
  unfold Q0r.N at h
  refine Q00 fun au e9 => ?_
  have a7 := Blk.of_new e9
  have ap := ((Ext.refl no w)).size
  have am := (Ext.refl no w).x_alloc e9
  refine ⟨a0, a1, a6, a9, aa, a2, a4, a5, a3, a8, ⟨a7.celli 0 rfl rfl, a7.celli 1 rfl rfl, a7.celli 2 rfl rfl, a7.celli 3 rfl rfl, a7.celli 4 rfl rfl, a7.celli 5 rfl rfl, a7.celli 6 rfl rfl, a7.celli 7 rfl rfl, trivial⟩, ?_⟩
  refine (Q07.pure a0 a1 a6 a9 aa a2 a4 a5 a3 a8).mono fun ee ww10 ⟨he, hxx⟩ => ⟨(Q07.F a0 a1 a6 a9 aa a2 a4 a5 a3 a8), he, ?_⟩
  have ah := am.trans hxx
  have a7 := a7.ext hxx id
  refine bif_of (fun ai => ?_) (fun ai => ?_)
  ·have h := h.1 (not_t ai)
   have h := h ww10 ah
   exact h
  have h := h.2 (not_f ai)
  unfold Q0r.J1
  refine Q00 fun ak al => ?_
  have aj := ah.x_drew al
  have a7 := a7.x_drew al
  refine ⟨a0, a1, a6, a9, aa, a2, a4, a5, a3, a8, ⟨a7.celli 0 rfl rfl, a7.celli 1 rfl rfl, a7.celli 2 rfl rfl, a7.celli 3 rfl rfl, a7.celli 4 rfl rfl, a7.celli 5 rfl rfl, a7.celli 6 rfl rfl, a7.celli 7 rfl rfl, trivial⟩, ?_⟩
  refine ⟨a8, a7.celli 7 rfl rfl, ?_⟩
  have h := h ak (w.heap.size) aj (Priv.cons ap a7.lt Priv.nil)
  refine h.mono fun ao aq h => ?_
  obtain ⟨ad, ab, ac, he, hk, h⟩ := h
  refine ⟨ad, ab, ac, he, ?_⟩
  have a7 := hk.blk a7 (by simp)
  refine ⟨a7.celli 7 rfl rfl, ?_⟩
  refine h.mono fun ar an h => ?_
  obtain ⟨ae, af, ag, he, h⟩ := h
  refine ⟨ae, af, ag, he, ?_⟩
  exact h

theorem Q0r.go (a0 a2 a6 a8 a9 a5 : Int) (a1 : Option Addr) (a3 a4 : Nat) (a7 : Int) {R : RW} {w : World} (h : Q0r.N a0 a2 a6 a8 a9 a5 a1 a3 a4 a7 R w) : Calls Try.prog 58 #[.agg #[.int .i64 a0, .int .i64 a2, .int .u64 a6, .int .i64 a8, .int .i64 a9, .int .i64 a5, .slice a1 a3 a4, .int .u64 a7]] w fun e w' => ∃ v, e = .returned v ∧ R v w' := Q0r.ok a0 a2 a6 a8 a9 a5 a1 a3 a4 a7 (Q0r.up a0 a2 a6 a8 a9 a5 a1 a3 a4 a7 h)
abbrev Q0A.J1 (cd : Int) (cb a0 : Addr) (R : RW) (ca : World) : Prop :=
 Q01 ca ((cb.add 5).add 0) ∧
 thenW (ca.setCell ((cb.add 5).add 0) (.int .i64 cd)) fun bk =>
 ∃ (bi : Int), bk.cell? (cb.add 5) = some (.int .i64 bi) ∧
 bif bi != cd then (
 Q01 bk (a0.add 0) ∧
 thenW (bk.setCell (a0.add 0) (.int .i64 0)) fun c8 =>
 Q01 c8 (a0.add 1) ∧
 thenW (c8.setCell (a0.add 1) (.int .i64 0)) fun c9 =>
 Q01 c9 (a0.add 2) ∧
 thenW (c9.setCell (a0.add 2) (.int .u64 0)) fun c5 =>
 Q01 c5 (a0.add 3) ∧
 thenW (c5.setCell (a0.add 3) (.int .i64 0)) fun bo =>
 Q01 bo (a0.add 4) ∧
 thenW (bo.setCell (a0.add 4) (.int .i64 0)) fun bv =>
 Q01 bv (a0.add 5) ∧
 thenW (bv.setCell (a0.add 5) (.int .i64 0)) fun c4 =>
 Q01 c4 (a0.add 6) ∧
 thenW (c4.setCell (a0.add 6) (.slice none 0 0)) fun bt =>
 Q01 bt (a0.add 7) ∧
 thenW (bt.setCell (a0.add 7) (.int .u64 0)) fun bx =>
 ∃ (a3 ac al b0 aw ae : Int) (a7 : Option Addr) (ai ag : Nat) (b8 : Int), cellsAt bx a0 [.int .i64 a3, .int .i64 ac, .int .u64 al, .int .i64 b0, .int .i64 aw, .int .i64 ae, .slice a7 ai ag, .int .u64 b8] 0 ∧
 R (.tuple #[.agg #[.int .i64 a3, .int .i64 ac, .int .u64 al, .int .i64 b0, .int .i64 aw, .int .i64 ae, .slice a7 ai ag, .int .u64 b8], .int .i64 4]) bx) else (
 ∃ (ak b7 b9 bj bg ap : Int) (b4 : Option Addr) (au b6 : Nat) (bh : Int), cellsAt bk cb [.int .i64 ak, .int .i64 b7, .int .u64 b9, .int .i64 bj, .int .i64 bg, .int .i64 ap, .slice b4 au b6, .int .u64 bh] 0 ∧
 Calls Try.prog 62 #[.agg #[.int .i64 ak, .int .i64 b7, .int .u64 b9, .int .i64 bj, .int .i64 bg, .int .i64 ap, .slice b4 au b6, .int .u64 bh]] bk fun cc ba => ∃ (bc : Bool), cc = .returned (.bool bc) ∧
 bif !bc then (
 Q01 ba (a0.add 0) ∧
 thenW (ba.setCell (a0.add 0) (.int .i64 0)) fun bu =>
 Q01 bu (a0.add 1) ∧
 thenW (bu.setCell (a0.add 1) (.int .i64 0)) fun br =>
 Q01 br (a0.add 2) ∧
 thenW (br.setCell (a0.add 2) (.int .u64 0)) fun bl =>
 Q01 bl (a0.add 3) ∧
 thenW (bl.setCell (a0.add 3) (.int .i64 0)) fun c3 =>
 Q01 c3 (a0.add 4) ∧
 thenW (c3.setCell (a0.add 4) (.int .i64 0)) fun c2 =>
 Q01 c2 (a0.add 5) ∧
 thenW (c2.setCell (a0.add 5) (.int .i64 0)) fun c0 =>
 Q01 c0 (a0.add 6) ∧
 thenW (c0.setCell (a0.add 6) (.slice none 0 0)) fun bp =>
 Q01 bp (a0.add 7) ∧
 thenW (bp.setCell (a0.add 7) (.int .u64 0)) fun bq =>
 ∃ (a1 af am ar aq ab : Int) (a6 : Option Addr) (aa ah : Nat) (b2 : Int), cellsAt bq a0 [.int .i64 a1, .int .i64 af, .int .u64 am, .int .i64 ar, .int .i64 aq, .int .i64 ab, .slice a6 aa ah, .int .u64 b2] 0 ∧
 R (.tuple #[.agg #[.int .i64 a1, .int .i64 af, .int .u64 am, .int .i64 ar, .int .i64 aq, .int .i64 ab, .slice a6 aa ah, .int .u64 b2], .int .i64 4]) bq) else (
 ∃ (an av bb bd be b5 : Int) (az : Option Addr) (ay b1 : Nat) (bf : Int), cellsAt ba cb [.int .i64 an, .int .i64 av, .int .u64 bb, .int .i64 bd, .int .i64 be, .int .i64 b5, .slice az ay b1, .int .u64 bf] 0 ∧
 Q01 ba (a0.add 0) ∧
 thenW (ba.setCell (a0.add 0) (.int .i64 an)) fun bs =>
 Q01 bs (a0.add 1) ∧
 thenW (bs.setCell (a0.add 1) (.int .i64 av)) fun bz =>
 Q01 bz (a0.add 2) ∧
 thenW (bz.setCell (a0.add 2) (.int .u64 bb)) fun c7 =>
 Q01 c7 (a0.add 3) ∧
 thenW (c7.setCell (a0.add 3) (.int .i64 bd)) fun bm =>
 Q01 bm (a0.add 4) ∧
 thenW (bm.setCell (a0.add 4) (.int .i64 be)) fun c1 =>
 Q01 c1 (a0.add 5) ∧
 thenW (c1.setCell (a0.add 5) (.int .i64 b5)) fun bn =>
 Q01 bn (a0.add 6) ∧
 thenW (bn.setCell (a0.add 6) (.slice az ay b1)) fun c6 =>
 Q01 c6 (a0.add 7) ∧
 thenW (c6.setCell (a0.add 7) (.int .u64 bf)) fun bw =>
 ∃ (a2 ad aj b3 ao a4 : Int) (a5 : Option Addr) (a9 a8 : Nat) (ax : Int), cellsAt bw a0 [.int .i64 a2, .int .i64 ad, .int .u64 aj, .int .i64 b3, .int .i64 ao, .int .i64 a4, .slice a5 a9 a8, .int .u64 ax] 0 ∧
 R (.tuple #[.agg #[.int .i64 a2, .int .i64 ad, .int .u64 aj, .int .i64 b3, .int .i64 ao, .int .i64 a4, .slice a5 a9 a8, .int .u64 ax], .int .i64 0]) bw))

def Q0A.M (bj : Option Addr) (bp bm : Nat) (R : RW) (w : World) : Prop :=
 thenW (w.alloc (.cells #[.int .i64 0, .int .i64 0, .int .u64 0, .int .i64 0, .int .i64 0, .int .i64 0, .slice none 0 0, .int .u64 0] 27)) fun bn =>
 Calls Try.prog 33 #[.slice bj bp bm] bn fun bo ae => ∃ (a0 : Option Addr), bo = .returned (.pointer a0) ∧
 thenW (ae.alloc (.cells #[.int .i64 0, .int .i64 0, .int .u64 0, .int .i64 0, .int .i64 0, .int .i64 0, .slice none 0 0, .int .u64 0] 27)) fun bl =>
 Calls Try.prog 54 #[.pointer a0, .int .i64 7] bl fun bk bi => ∃ (ah : Int), bk = .returned (.int .i64 ah) ∧
 Q01 bi (((blk ae.heap.size).add 0).add 0) ∧
 thenW (bi.setCell (((blk ae.heap.size).add 0).add 0) (.int .i64 ah)) fun be =>
 Calls Try.prog 54 #[.pointer a0, .int .i64 199] be fun b8 ax => ∃ (ag : Int), b8 = .returned (.int .i64 ag) ∧
 Q01 ax (((blk ae.heap.size).add 1).add 0) ∧
 thenW (ax.setCell (((blk ae.heap.size).add 1).add 0) (.int .i64 ag)) fun b2 =>
 Calls Try.prog 71 #[.pointer a0] b2 fun b5 b0 => ∃ (aj : Int), b5 = .returned (.int .u64 aj) ∧
 Q01 b0 (((blk ae.heap.size).add 2).add 0) ∧
 thenW (b0.setCell (((blk ae.heap.size).add 2).add 0) (.int .u64 aj)) fun b3 =>
 Calls Try.prog 99 #[.pointer a0] b3 fun b4 am => ∃ (bg bh : Int), b4 = .returned (.agg #[.int .i64 bg, .int .i64 bh]) ∧
 Q01 am (((blk ae.heap.size).add 3).add 0) ∧
 thenW (am.setCell (((blk ae.heap.size).add 3).add 0) (.int .i64 bg)) fun ap =>
 Q01 ap (((blk ae.heap.size).add 3).add 1) ∧
 thenW (ap.setCell (((blk ae.heap.size).add 3).add 1) (.int .i64 bh)) fun bd =>
 Calls Try.prog 100 #[.pointer a0] bd fun ba bb => ∃ (ak : Int), ba = .returned (.int .i64 ak) ∧
 Calls Try.prog 55 #[.pointer a0, .int .i64 1100] bb fun bc au => ∃ (ad : Option Addr) (ab ac : Nat), bc = .returned (.slice ad ab ac) ∧
 Q01 au (((blk ae.heap.size).add 6).add 0) ∧
 thenW (au.setCell (((blk ae.heap.size).add 6).add 0) (.slice ad ab ac)) fun b7 =>
 Calls Try.prog 71 #[.pointer a0] b7 fun bf aq => ∃ (ai : Int), bf = .returned (.int .u64 ai) ∧
 Q01 aq (((blk ae.heap.size).add 7).add 0) ∧
 thenW (aq.setCell (((blk ae.heap.size).add 7).add 0) (.int .u64 ai)) fun b6 =>
 Calls Try.prog 56 #[.pointer a0] b6 fun b9 al => ∃ (af : Int), b9 = .returned (.int .i64 af) ∧
 bif af != 0 then (
 Q01 al ((blk w.heap.size).add 0) ∧
 thenW (al.setCell ((blk w.heap.size).add 0) (.int .i64 0)) fun b1 =>
 Q01 b1 ((blk w.heap.size).add 1) ∧
 thenW (b1.setCell ((blk w.heap.size).add 1) (.int .i64 0)) fun ay =>
 Q01 ay ((blk w.heap.size).add 2) ∧
 thenW (ay.setCell ((blk w.heap.size).add 2) (.int .u64 0)) fun az =>
 Q01 az ((blk w.heap.size).add 3) ∧
 thenW (az.setCell ((blk w.heap.size).add 3) (.int .i64 0)) fun ar =>
 Q01 ar ((blk w.heap.size).add 4) ∧
 thenW (ar.setCell ((blk w.heap.size).add 4) (.int .i64 0)) fun ao =>
 Q01 ao ((blk w.heap.size).add 5) ∧
 thenW (ao.setCell ((blk w.heap.size).add 5) (.int .i64 0)) fun an =>
 Q01 an ((blk w.heap.size).add 6) ∧
 thenW (an.setCell ((blk w.heap.size).add 6) (.slice none 0 0)) fun aw =>
 Q01 aw ((blk w.heap.size).add 7) ∧
 thenW (aw.setCell ((blk w.heap.size).add 7) (.int .u64 0)) fun av =>
 ∃ (a1 a6 a7 aa a8 a3 : Int) (a4 : Option Addr) (a5 a2 : Nat) (a9 : Int), cellsAt av (blk w.heap.size) [.int .i64 a1, .int .i64 a6, .int .u64 a7, .int .i64 aa, .int .i64 a8, .int .i64 a3, .slice a4 a5 a2, .int .u64 a9] 0 ∧
 R (.tuple #[.agg #[.int .i64 a1, .int .i64 a6, .int .u64 a7, .int .i64 aa, .int .i64 a8, .int .i64 a3, .slice a4 a5 a2, .int .u64 a9], .int .i64 af]) av) else (
 Q0A.J1 ak (blk ae.heap.size) (blk w.heap.size) R al)

theorem Q0A.ok (a0 : Option Addr) (a2 a1 : Nat) {R : RW} {w : World} (h : Q0A.M a0 a2 a1 R w) : Calls Try.prog 98 #[.slice a0 a2 a1] w fun e w' => ∃ v, e = .returned v ∧ R v w' :=
  Q0b follows (H := []) (args := [.slice a0 a2 a1]) (cast (by kernel_rfl) h)

def Q0A.N (b7 : Option Addr) (b9 b8 : Nat) (R : RW) (w : World) : Prop :=
 ∀ (av : World) (p3 : Nat), Ext no w av → Priv w av [p3] →
 Calls Try.prog 33 #[.slice b7 b9 b8] av fun ba b0 => ∃ (a0 : Option Addr), ba = .returned (.pointer a0) ∧
 Keep [p3] av b0 ∧
 ∀ (aw : World) (p8 : Nat), Ext no b0 aw → Priv b0 aw [p8] →
 Calls Try.prog 54 #[.pointer a0, .int .i64 7] aw fun b5 ar => ∃ (a6 : Int), b5 = .returned (.int .i64 a6) ∧
 Keep [p3, p8] aw ar ∧
 ∀ (ac : World), Ext (fun b => b = p8) ar ac →
 Calls Try.prog 54 #[.pointer a0, .int .i64 199] ac fun ay ao => ∃ (a5 : Int), ay = .returned (.int .i64 a5) ∧
 Keep [p3, p8] ac ao ∧
 ∀ (ae : World), Ext (fun b => b = p8) ao ae →
 Calls Try.prog 71 #[.pointer a0] ae fun b2 aj => ∃ (a8 : Int), b2 = .returned (.int .u64 a8) ∧
 Keep [p3, p8] ae aj ∧
 ∀ (ad : World), Ext (fun b => b = p8) aj ad →
 Calls Try.prog 99 #[.pointer a0] ad fun az aq => ∃ (au ax : Int), az = .returned (.agg #[.int .i64 au, .int .i64 ax]) ∧
 Keep [p3, p8] ad aq ∧
 ∀ (ab : World), Ext (fun b => b = p8) aq ab →
 Calls Try.prog 100 #[.pointer a0] ab fun b1 af => ∃ (a4 : Int), b1 = .returned (.int .i64 a4) ∧
 Keep [p3, p8] ab af ∧
 Calls Try.prog 55 #[.pointer a0, .int .i64 1100] af fun b6 am => ∃ (a1 : Option Addr) (a2 a3 : Nat), b6 = .returned (.slice a1 a2 a3) ∧
 Keep [p3, p8] af am ∧
 ∀ (ah : World), Ext (fun b => b = p8) am ah →
 Calls Try.prog 71 #[.pointer a0] ah fun b3 ap => ∃ (a9 : Int), b3 = .returned (.int .u64 a9) ∧
 Keep [p3, p8] ah ap ∧
 ∀ (ag : World), Ext (fun b => b = p8) ap ag →
 Calls Try.prog 56 #[.pointer a0] ag fun b4 aa => ∃ (a7 : Int), b4 = .returned (.int .i64 a7) ∧
 Keep [p3, p8] ag aa ∧
 (a7 ≠ 0 →
 ∀ (ai : World), Ext (fun b => b = p3) aa ai →
 R (.tuple #[.agg #[.int .i64 0, .int .i64 0, .int .u64 0, .int .i64 0, .int .i64 0, .int .i64 0, .slice none 0 0, .int .u64 0], .int .i64 a7]) ai) ∧
 (a7 = 0 →
 (a4 ≠ a4 →
 ∀ (ak : World), Ext (fun b => b = p3 ∨ b = p8) aa ak →
 R (.tuple #[.agg #[.int .i64 0, .int .i64 0, .int .u64 0, .int .i64 0, .int .i64 0, .int .i64 0, .slice none 0 0, .int .u64 0], .int .i64 4]) ak) ∧
 (a4 = a4 →
 ((Q07.F a6 a5 a8 au ax a4 a1 a2 a3 a9) = false →
 ∀ (al : World), Ext (fun b => b = p3 ∨ b = p8) aa al →
 R (.tuple #[.agg #[.int .i64 0, .int .i64 0, .int .u64 0, .int .i64 0, .int .i64 0, .int .i64 0, .slice none 0 0, .int .u64 0], .int .i64 4]) al) ∧
 ((Q07.F a6 a5 a8 au ax a4 a1 a2 a3 a9) = true →
 ∀ (an : World), Ext (fun b => b = p3 ∨ b = p8) aa an →
 R (.tuple #[.agg #[.int .i64 a6, .int .i64 a5, .int .u64 a8, .int .i64 au, .int .i64 ax, .int .i64 a4, .slice a1 a2 a3, .int .u64 a9], .int .i64 0]) an)))

theorem Q0A.up (dl : Option Addr) (dt dq : Nat) {R : RW} {w : World} (h : Q0A.N dl dt dq R w) : Q0A.M dl dt dq R w := by
  unfold Q0A.M
  unfold Q0A.N at h
  refine Q00 fun et e2 => ?_
  have a0 := Blk.of_new e2
  have f1 := ((Ext.refl no w)).size
  have ew := (Ext.refl no w).x_alloc e2
  have h := h et (w.heap.size) ew (Priv.cons f1 a0.lt Priv.nil)
  refine h.mono fun f3 a8 h => ?_
  obtain ⟨az, he, hk, h⟩ := h
  refine ⟨az, he, ?_⟩
  have a0 := hk.blk a0 (by simp)
  refine Q00 fun ey e7 => ?_
  have a6 := Blk.of_new e7
  have eo := ((Ext.refl no a8)).size
  have ab := Nat.ne_of_lt a0.lt
  have a0 := a0.x_alloc e7
  have ev := (Ext.refl no a8).x_alloc e7
  have h := h ey (a8.heap.size) ev (Priv.cons eo a6.lt Priv.nil)
  refine h.mono fun eq ai h => ?_
  obtain ⟨a2, he, hk, h⟩ := h
  refine ⟨a2, he, ?_⟩
  have a0 := hk.blk a0 (by simp)
  have a6 := hk.blk a6 (by simp)
  have bn : Ext (fun b => b = a8.heap.size) ai ai := ((Ext.refl no ai)).none
  refine ⟨a6.cani 0 rfl rfl, Q00 fun am d5 => ?_⟩
  have cg := bn.x_set (q := a8.heap.size) (i := 0) rfl (.inl rfl) d5
  have a0 := a0.oth (q := a8.heap.size) (i := 0) rfl ab d5
  have a6 : Blk am a8.heap.size 27 [.int .i64 a2, .int .i64 0, .int .u64 0, .int .i64 0, .int .i64 0, .int .i64 0, .slice none 0 0, .int .u64 0] := a6.seti 0 rfl d5
  have h := h am cg
  refine h.mono fun ez al h => ?_
  obtain ⟨a1, he, hk, h⟩ := h
  refine ⟨a1, he, ?_⟩
  have a0 := hk.blk a0 (by simp)
  have a6 := hk.blk a6 (by simp)
  have bw : Ext (fun b => b = a8.heap.size) al al := ((Ext.refl no al)).none
  refine ⟨a6.cani 1 rfl rfl, Q00 fun ax ct => ?_⟩
  have ba := bw.x_set (q := a8.heap.size) (i := 1) rfl (.inl rfl) ct
  have a0 := a0.oth (q := a8.heap.size) (i := 1) rfl ab ct
  have a6 : Blk ax a8.heap.size 27 [.int .i64 a2, .int .i64 a1, .int .u64 0, .int .i64 0, .int .i64 0, .int .i64 0, .slice none 0 0, .int .u64 0] := a6.seti 1 rfl ct
  have h := h ax ba
  refine h.mono fun es aj h => ?_
  obtain ⟨a7, he, hk, h⟩ := h
  refine ⟨a7, he, ?_⟩
  have a0 := hk.blk a0 (by simp)
  have a6 := hk.blk a6 (by simp)
  have c1 : Ext (fun b => b = a8.heap.size) aj aj := ((Ext.refl no aj)).none
  refine ⟨a6.cani 2 rfl rfl, Q00 fun aw b6 => ?_⟩
  have bx := c1.x_set (q := a8.heap.size) (i := 2) rfl (.inl rfl) b6
  have a0 := a0.oth (q := a8.heap.size) (i := 2) rfl ab b6
  have a6 : Blk aw a8.heap.size 27 [.int .i64 a2, .int .i64 a1, .int .u64 a7, .int .i64 0, .int .i64 0, .int .i64 0, .slice none 0 0, .int .u64 0] := a6.seti 2 rfl b6
  have h := h aw bx
  refine h.mono fun f0 ag h => ?_
  obtain ⟨ad, ae, he, hk, h⟩ := h
  refine ⟨ad, ae, he, ?_⟩
  have a0 := hk.blk a0 (by simp)
  have a6 := hk.blk a6 (by simp)
  have bc : Ext (fun b => b = a8.heap.size) ag ag := ((Ext.refl no ag)).none
  refine ⟨a6.cani 3 rfl rfl, Q00 fun cs bs => ?_⟩
  have ck := bc.x_set (q := a8.heap.size) (i := 3) rfl (.inl rfl) bs
  have a0 := a0.oth (q := a8.heap.size) (i := 3) rfl ab bs
  have a6 : Blk cs a8.heap.size 27 [.int .i64 a2, .int .i64 a1, .int .u64 a7, .int .i64 ad, .int .i64 0, .int .i64 0, .slice none 0 0, .int .u64 0] := a6.seti 3 rfl bs
  refine ⟨a6.cani 4 rfl rfl, Q00 fun au cu => ?_⟩
  have bz := ck.x_set (q := a8.heap.size) (i := 4) rfl (.inl rfl) cu
  have a0 := a0.oth (q := a8.heap.size) (i := 4) rfl ab cu
  have a6 : Blk au a8.heap.size 27 [.int .i64 a2, .int .i64 a1, .int .u64 a7, .int .i64 ad, .int .i64 ae, .int .i64 0, .slice none 0 0, .int .u64 0] := a6.seti 4 rfl cu
  have h := h au bz
  refine h.mono fun ex ep h => ?_
  obtain ⟨a9, he, hk, h⟩ := h
  refine ⟨a9, he, ?_⟩
  have a0 := hk.blk a0 (by simp)
  have a6 := hk.blk a6 (by simp)
  refine h.mono fun er af h => ?_
  obtain ⟨a5, a4, a3, he, hk, h⟩ := h
  refine ⟨a5, a4, a3, he, ?_⟩
  have a0 := hk.blk a0 (by simp)
  have a6 := hk.blk a6 (by simp)
  have d3 : Ext (fun b => b = a8.heap.size) af af := ((Ext.refl no af)).none
  refine ⟨a6.cani 6 rfl rfl, Q00 fun ar d9 => ?_⟩
  have ch := d3.x_set (q := a8.heap.size) (i := 6) rfl (.inl rfl) d9
  have a0 := a0.oth (q := a8.heap.size) (i := 6) rfl ab d9
  have a6 : Blk ar a8.heap.size 27 [.int .i64 a2, .int .i64 a1, .int .u64 a7, .int .i64 ad, .int .i64 ae, .int .i64 0, .slice a5 a4 a3, .int .u64 0] := a6.seti 6 rfl d9
  have h := h ar ch
  refine h.mono fun eu ah h => ?_
  obtain ⟨aa, he, hk, h⟩ := h
  refine ⟨aa, he, ?_⟩
  have a0 := hk.blk a0 (by simp)
  have a6 := hk.blk a6 (by simp)
  have dk : Ext (fun b => b = a8.heap.size) ah ah := ((Ext.refl no ah)).none
  refine ⟨a6.cani 7 rfl rfl, Q00 fun b0 c3 => ?_⟩
  have cn := dk.x_set (q := a8.heap.size) (i := 7) rfl (.inl rfl) c3
  have a0 := a0.oth (q := a8.heap.size) (i := 7) rfl ab c3
  have a6 : Blk b0 a8.heap.size 27 [.int .i64 a2, .int .i64 a1, .int .u64 a7, .int .i64 ad, .int .i64 ae, .int .i64 0, .slice a5 a4 a3, .int .u64 aa] := a6.seti 7 rfl c3
  have h := h b0 cn
  refine h.mono fun f2 ac h => ?_
  obtain ⟨ak, he, hk, h⟩ := h
  refine ⟨ak, he, ?_⟩
  have a0 := hk.blk a0 (by simp)
  have a6 := hk.blk a6 (by simp)
  refine bif_of (fun dg => ?_) (fun dg => ?_)
  ·have h := h.1 (bne_t dg)
   have c8 : Ext (fun b => b = w.heap.size) ac ac := ((Ext.refl no ac)).none
   refine ⟨a0.cani 0 rfl rfl, Q00 fun cl eg => ?_⟩
   have cm := c8.x_set (q := w.heap.size) (i := 0) rfl (.inl rfl) eg
   have a0 : Blk cl w.heap.size 27 [.int .i64 0, .int .i64 0, .int .u64 0, .int .i64 0, .int .i64 0, .int .i64 0, .slice none 0 0, .int .u64 0] := a0.seti 0 rfl eg
   refine ⟨a0.cani 1 rfl rfl, Q00 fun b4 dp => ?_⟩
   have bp := cm.x_set (q := w.heap.size) (i := 1) rfl (.inl rfl) dp
   have a0 : Blk b4 w.heap.size 27 [.int .i64 0, .int .i64 0, .int .u64 0, .int .i64 0, .int .i64 0, .int .i64 0, .slice none 0 0, .int .u64 0] := a0.seti 1 rfl dp
   refine ⟨a0.cani 2 rfl rfl, Q00 fun bq e5 => ?_⟩
   have cp := bp.x_set (q := w.heap.size) (i := 2) rfl (.inl rfl) e5
   have a0 : Blk bq w.heap.size 27 [.int .i64 0, .int .i64 0, .int .u64 0, .int .i64 0, .int .i64 0, .int .i64 0, .slice none 0 0, .int .u64 0] := a0.seti 2 rfl e5
   refine ⟨a0.cani 3 rfl rfl, Q00 fun bv ei => ?_⟩
   have df := cp.x_set (q := w.heap.size) (i := 3) rfl (.inl rfl) ei
   have a0 : Blk bv w.heap.size 27 [.int .i64 0, .int .i64 0, .int .u64 0, .int .i64 0, .int .i64 0, .int .i64 0, .slice none 0 0, .int .u64 0] := a0.seti 3 rfl ei
   refine ⟨a0.cani 4 rfl rfl, Q00 fun co dn => ?_⟩
   have bd := df.x_set (q := w.heap.size) (i := 4) rfl (.inl rfl) dn
   have a0 : Blk co w.heap.size 27 [.int .i64 0, .int .i64 0, .int .u64 0, .int .i64 0, .int .i64 0, .int .i64 0, .slice none 0 0, .int .u64 0] := a0.seti 4 rfl dn
   refine ⟨a0.cani 5 rfl rfl, Q00 fun br dw => ?_⟩
   have c4 := bd.x_set (q := w.heap.size) (i := 5) rfl (.inl rfl) dw
   have a0 : Blk br w.heap.size 27 [.int .i64 0, .int .i64 0, .int .u64 0, .int .i64 0, .int .i64 0, .int .i64 0, .slice none 0 0, .int .u64 0] := a0.seti 5 rfl dw
   refine ⟨a0.cani 6 rfl rfl, Q00 fun bo ej => ?_⟩
   have bt := c4.x_set (q := w.heap.size) (i := 6) rfl (.inl rfl) ej
   have a0 : Blk bo w.heap.size 27 [.int .i64 0, .int .i64 0, .int .u64 0, .int .i64 0, .int .i64 0, .int .i64 0, .slice none 0 0, .int .u64 0] := a0.seti 6 rfl ej
   refine ⟨a0.cani 7 rfl rfl, Q00 fun ay eh => ?_⟩
   have d8 := bt.x_set (q := w.heap.size) (i := 7) rfl (.inl rfl) eh
   have a0 : Blk ay w.heap.size 27 [.int .i64 0, .int .i64 0, .int .u64 0, .int .i64 0, .int .i64 0, .int .i64 0, .slice none 0 0, .int .u64 0] := a0.seti 7 rfl eh
   refine ⟨0, 0, 0, 0, 0, 0, none, 0, 0, 0, ⟨a0.celli 0 rfl rfl, a0.celli 1 rfl rfl, a0.celli 2 rfl rfl, a0.celli 3 rfl rfl, a0.celli 4 rfl rfl, a0.celli 5 rfl rfl, a0.celli 6 rfl rfl, a0.celli 7 rfl rfl, trivial⟩, ?_⟩
   have h := h ay d8
   exact h
  have h := h.2 (bne_f dg)
  unfold Q0A.J1
  have bf : Ext (fun b => b = a8.heap.size) ac ac := ((Ext.refl no ac)).none
  refine ⟨a6.cani 5 rfl rfl, Q00 fun aq cv => ?_⟩
  have an := bf.x_set (q := a8.heap.size) (i := 5) rfl (.inl rfl) cv
  have a0 := a0.oth (q := a8.heap.size) (i := 5) rfl ab cv
  have a6 : Blk aq a8.heap.size 27 [.int .i64 a2, .int .i64 a1, .int .u64 a7, .int .i64 ad, .int .i64 ae, .int .i64 a9, .slice a5 a4 a3, .int .u64 aa] := a6.seti 5 rfl cv
  refine ⟨a9, a6.celli 5 rfl rfl, ?_⟩
  refine bif_of (fun c7 => ?_) (fun c7 => ?_)
  ·have h := h.1 (bne_t c7)
   have d7 : Ext (fun b => b = w.heap.size ∨ b = a8.heap.size) ac aq := (an).mono fun _ h _ => .inr h
   refine ⟨a0.cani 0 rfl rfl, Q00 fun b9 e4 => ?_⟩
   have bh := d7.x_set (q := w.heap.size) (i := 0) rfl (.inl (.inl rfl)) e4
   have a0 : Blk b9 w.heap.size 27 [.int .i64 0, .int .i64 0, .int .u64 0, .int .i64 0, .int .i64 0, .int .i64 0, .slice none 0 0, .int .u64 0] := a0.seti 0 rfl e4
   refine ⟨a0.cani 1 rfl rfl, Q00 fun cf dy => ?_⟩
   have db := bh.x_set (q := w.heap.size) (i := 1) rfl (.inl (.inl rfl)) dy
   have a0 : Blk cf w.heap.size 27 [.int .i64 0, .int .i64 0, .int .u64 0, .int .i64 0, .int .i64 0, .int .i64 0, .slice none 0 0, .int .u64 0] := a0.seti 1 rfl dy
   refine ⟨a0.cani 2 rfl rfl, Q00 fun da em => ?_⟩
   have c5 := db.x_set (q := w.heap.size) (i := 2) rfl (.inl (.inl rfl)) em
   have a0 : Blk da w.heap.size 27 [.int .i64 0, .int .i64 0, .int .u64 0, .int .i64 0, .int .i64 0, .int .i64 0, .slice none 0 0, .int .u64 0] := a0.seti 2 rfl em
   refine ⟨a0.cani 3 rfl rfl, Q00 fun dc e6 => ?_⟩
   have c2 := c5.x_set (q := w.heap.size) (i := 3) rfl (.inl (.inl rfl)) e6
   have a0 : Blk dc w.heap.size 27 [.int .i64 0, .int .i64 0, .int .u64 0, .int .i64 0, .int .i64 0, .int .i64 0, .slice none 0 0, .int .u64 0] := a0.seti 3 rfl e6
   refine ⟨a0.cani 4 rfl rfl, Q00 fun bj dr => ?_⟩
   have ce := c2.x_set (q := w.heap.size) (i := 4) rfl (.inl (.inl rfl)) dr
   have a0 : Blk bj w.heap.size 27 [.int .i64 0, .int .i64 0, .int .u64 0, .int .i64 0, .int .i64 0, .int .i64 0, .slice none 0 0, .int .u64 0] := a0.seti 4 rfl dr
   refine ⟨a0.cani 5 rfl rfl, Q00 fun cy en => ?_⟩
   have b3 := ce.x_set (q := w.heap.size) (i := 5) rfl (.inl (.inl rfl)) en
   have a0 : Blk cy w.heap.size 27 [.int .i64 0, .int .i64 0, .int .u64 0, .int .i64 0, .int .i64 0, .int .i64 0, .slice none 0 0, .int .u64 0] := a0.seti 5 rfl en
   refine ⟨a0.cani 6 rfl rfl, Q00 fun bl e0 => ?_⟩
   have cz := b3.x_set (q := w.heap.size) (i := 6) rfl (.inl (.inl rfl)) e0
   have a0 : Blk bl w.heap.size 27 [.int .i64 0, .int .i64 0, .int .u64 0, .int .i64 0, .int .i64 0, .int .i64 0, .slice none 0 0, .int .u64 0] := a0.seti 6 rfl e0
   refine ⟨a0.cani 7 rfl rfl, Q00 fun av el => ?_⟩
   have de := cz.x_set (q := w.heap.size) (i := 7) rfl (.inl (.inl rfl)) el
   have a0 : Blk av w.heap.size 27 [.int .i64 0, .int .i64 0, .int .u64 0, .int .i64 0, .int .i64 0, .int .i64 0, .slice none 0 0, .int .u64 0] := a0.seti 7 rfl el
   refine ⟨0, 0, 0, 0, 0, 0, none, 0, 0, 0, ⟨a0.celli 0 rfl rfl, a0.celli 1 rfl rfl, a0.celli 2 rfl rfl, a0.celli 3 rfl rfl, a0.celli 4 rfl rfl, a0.celli 5 rfl rfl, a0.celli 6 rfl rfl, a0.celli 7 rfl rfl, trivial⟩, ?_⟩
   have h := h av de
   exact h
  have h := h.2 (bne_f c7)
  refine ⟨a2, a1, a7, ad, ae, a9, a5, a4, a3, aa, ⟨a6.celli 0 rfl rfl, a6.celli 1 rfl rfl, a6.celli 2 rfl rfl, a6.celli 3 rfl rfl, a6.celli 4 rfl rfl, a6.celli 5 rfl rfl, a6.celli 6 rfl rfl, a6.celli 7 rfl rfl, trivial⟩, ?_⟩
  refine (Q07.pure a2 a1 a7 ad ae a9 a5 a4 a3 aa).mono fun ee ww60 ⟨he, hxx⟩ => ⟨(Q07.F a2 a1 a7 ad ae a9 a5 a4 a3 aa), he, ?_⟩
  have b1 := an.trans hxx.none
  have a0 := a0.ext hxx id
  have a6 := a6.ext hxx id
  refine bif_of (fun c6 => ?_) (fun c6 => ?_)
  ·have h := h.1 (not_t c6)
   have cw : Ext (fun b => b = w.heap.size ∨ b = a8.heap.size) ac ww60 := (b1).mono fun _ h _ => .inr h
   refine ⟨a0.cani 0 rfl rfl, Q00 fun bb du => ?_⟩
   have d2 := cw.x_set (q := w.heap.size) (i := 0) rfl (.inl (.inl rfl)) du
   have a0 : Blk bb w.heap.size 27 [.int .i64 0, .int .i64 0, .int .u64 0, .int .i64 0, .int .i64 0, .int .i64 0, .slice none 0 0, .int .u64 0] := a0.seti 0 rfl du
   refine ⟨a0.cani 1 rfl rfl, Q00 fun d1 dz => ?_⟩
   have bi := d2.x_set (q := w.heap.size) (i := 1) rfl (.inl (.inl rfl)) dz
   have a0 : Blk d1 w.heap.size 27 [.int .i64 0, .int .i64 0, .int .u64 0, .int .i64 0, .int .i64 0, .int .i64 0, .slice none 0 0, .int .u64 0] := a0.seti 1 rfl dz
   refine ⟨a0.cani 2 rfl rfl, Q00 fun dj eb => ?_⟩
   have d0 := bi.x_set (q := w.heap.size) (i := 2) rfl (.inl (.inl rfl)) eb
   have a0 : Blk dj w.heap.size 27 [.int .i64 0, .int .i64 0, .int .u64 0, .int .i64 0, .int .i64 0, .int .i64 0, .slice none 0 0, .int .u64 0] := a0.seti 2 rfl eb
   refine ⟨a0.cani 3 rfl rfl, Q00 fun ci e8 => ?_⟩
   have bk := d0.x_set (q := w.heap.size) (i := 3) rfl (.inl (.inl rfl)) e8
   have a0 : Blk ci w.heap.size 27 [.int .i64 0, .int .i64 0, .int .u64 0, .int .i64 0, .int .i64 0, .int .i64 0, .slice none 0 0, .int .u64 0] := a0.seti 3 rfl e8
   refine ⟨a0.cani 4 rfl rfl, Q00 fun ca ea => ?_⟩
   have cx := bk.x_set (q := w.heap.size) (i := 4) rfl (.inl (.inl rfl)) ea
   have a0 : Blk ca w.heap.size 27 [.int .i64 0, .int .i64 0, .int .u64 0, .int .i64 0, .int .i64 0, .int .i64 0, .slice none 0 0, .int .u64 0] := a0.seti 4 rfl ea
   refine ⟨a0.cani 5 rfl rfl, Q00 fun c9 ed => ?_⟩
   have di := cx.x_set (q := w.heap.size) (i := 5) rfl (.inl (.inl rfl)) ed
   have a0 : Blk c9 w.heap.size 27 [.int .i64 0, .int .i64 0, .int .u64 0, .int .i64 0, .int .i64 0, .int .i64 0, .slice none 0 0, .int .u64 0] := a0.seti 5 rfl ed
   refine ⟨a0.cani 6 rfl rfl, Q00 fun b5 ds => ?_⟩
   have b8 := di.x_set (q := w.heap.size) (i := 6) rfl (.inl (.inl rfl)) ds
   have a0 : Blk b5 w.heap.size 27 [.int .i64 0, .int .i64 0, .int .u64 0, .int .i64 0, .int .i64 0, .int .i64 0, .slice none 0 0, .int .u64 0] := a0.seti 6 rfl ds
   refine ⟨a0.cani 7 rfl rfl, Q00 fun ao dm => ?_⟩
   have cq := b8.x_set (q := w.heap.size) (i := 7) rfl (.inl (.inl rfl)) dm
   have a0 : Blk ao w.heap.size 27 [.int .i64 0, .int .i64 0, .int .u64 0, .int .i64 0, .int .i64 0, .int .i64 0, .slice none 0 0, .int .u64 0] := a0.seti 7 rfl dm
   refine ⟨0, 0, 0, 0, 0, 0, none, 0, 0, 0, ⟨a0.celli 0 rfl rfl, a0.celli 1 rfl rfl, a0.celli 2 rfl rfl, a0.celli 3 rfl rfl, a0.celli 4 rfl rfl, a0.celli 5 rfl rfl, a0.celli 6 rfl rfl, a0.celli 7 rfl rfl, trivial⟩, ?_⟩
   have h := h ao cq
   exact h
  have h := h.2 (not_f c6)
  refine ⟨a2, a1, a7, ad, ae, a9, a5, a4, a3, aa, ⟨a6.celli 0 rfl rfl, a6.celli 1 rfl rfl, a6.celli 2 rfl rfl, a6.celli 3 rfl rfl, a6.celli 4 rfl rfl, a6.celli 5 rfl rfl, a6.celli 6 rfl rfl, a6.celli 7 rfl rfl, trivial⟩, ?_⟩
  have b7 : Ext (fun b => b = w.heap.size ∨ b = a8.heap.size) ac ww60 := (b1).mono fun _ h _ => .inr h
  refine ⟨a0.cani 0 rfl rfl, Q00 fun dh dv => ?_⟩
  have c0 := b7.x_set (q := w.heap.size) (i := 0) rfl (.inl (.inl rfl)) dv
  have a0 : Blk dh w.heap.size 27 [.int .i64 a2, .int .i64 0, .int .u64 0, .int .i64 0, .int .i64 0, .int .i64 0, .slice none 0 0, .int .u64 0] := a0.seti 0 rfl dv
  refine ⟨a0.cani 1 rfl rfl, Q00 fun cj e3 => ?_⟩
  have be := c0.x_set (q := w.heap.size) (i := 1) rfl (.inl (.inl rfl)) e3
  have a0 : Blk cj w.heap.size 27 [.int .i64 a2, .int .i64 a1, .int .u64 0, .int .i64 0, .int .i64 0, .int .i64 0, .slice none 0 0, .int .u64 0] := a0.seti 1 rfl e3
  refine ⟨a0.cani 2 rfl rfl, Q00 fun cc dx => ?_⟩
  have d4 := be.x_set (q := w.heap.size) (i := 2) rfl (.inl (.inl rfl)) dx
  have a0 : Blk cc w.heap.size 27 [.int .i64 a2, .int .i64 a1, .int .u64 a7, .int .i64 0, .int .i64 0, .int .i64 0, .slice none 0 0, .int .u64 0] := a0.seti 2 rfl dx
  refine ⟨a0.cani 3 rfl rfl, Q00 fun cd e1 => ?_⟩
  have b2 := d4.x_set (q := w.heap.size) (i := 3) rfl (.inl (.inl rfl)) e1
  have a0 : Blk cd w.heap.size 27 [.int .i64 a2, .int .i64 a1, .int .u64 a7, .int .i64 ad, .int .i64 0, .int .i64 0, .slice none 0 0, .int .u64 0] := a0.seti 3 rfl e1
  refine ⟨a0.cani 4 rfl rfl, Q00 fun bm ef => ?_⟩
  have dd := b2.x_set (q := w.heap.size) (i := 4) rfl (.inl (.inl rfl)) ef
  have a0 : Blk bm w.heap.size 27 [.int .i64 a2, .int .i64 a1, .int .u64 a7, .int .i64 ad, .int .i64 ae, .int .i64 0, .slice none 0 0, .int .u64 0] := a0.seti 4 rfl ef
  refine ⟨a0.cani 5 rfl rfl, Q00 fun cr ec => ?_⟩
  have cb := dd.x_set (q := w.heap.size) (i := 5) rfl (.inl (.inl rfl)) ec
  have a0 : Blk cr w.heap.size 27 [.int .i64 a2, .int .i64 a1, .int .u64 a7, .int .i64 ad, .int .i64 ae, .int .i64 a9, .slice none 0 0, .int .u64 0] := a0.seti 5 rfl ec
  refine ⟨a0.cani 6 rfl rfl, Q00 fun d6 ek => ?_⟩
  have bg := cb.x_set (q := w.heap.size) (i := 6) rfl (.inl (.inl rfl)) ek
  have a0 : Blk d6 w.heap.size 27 [.int .i64 a2, .int .i64 a1, .int .u64 a7, .int .i64 ad, .int .i64 ae, .int .i64 a9, .slice a5 a4 a3, .int .u64 0] := a0.seti 6 rfl ek
  refine ⟨a0.cani 7 rfl rfl, Q00 fun ap e9 => ?_⟩
  have bu := bg.x_set (q := w.heap.size) (i := 7) rfl (.inl (.inl rfl)) e9
  have a0 : Blk ap w.heap.size 27 [.int .i64 a2, .int .i64 a1, .int .u64 a7, .int .i64 ad, .int .i64 ae, .int .i64 a9, .slice a5 a4 a3, .int .u64 aa] := a0.seti 7 rfl e9
  refine ⟨a2, a1, a7, ad, ae, a9, a5, a4, a3, aa, ⟨a0.celli 0 rfl rfl, a0.celli 1 rfl rfl, a0.celli 2 rfl rfl, a0.celli 3 rfl rfl, a0.celli 4 rfl rfl, a0.celli 5 rfl rfl, a0.celli 6 rfl rfl, a0.celli 7 rfl rfl, trivial⟩, ?_⟩
  have h := h ap bu
  exact h

theorem Q0A.go (a0 : Option Addr) (a2 a1 : Nat) {R : RW} {w : World} (h : Q0A.N a0 a2 a1 R w) : Calls Try.prog 98 #[.slice a0 a2 a1] w fun e w' => ∃ v, e = .returned v ∧ R v w' := Q0A.ok a0 a2 a1 (Q0A.up a0 a2 a1 h)
def Q0z.M (am av b5 b8 b9 au : Int) (ap : Option Addr) (ao ar : Nat) (b7 ah al aq b4 b2 ag : Int) (an : Option Addr) (af aj : Nat) (b6 : Int) (R : RW) (w : World) : Prop :=
 thenW (w.alloc (.cells #[.int .i64 am, .int .i64 av, .int .u64 b5, .int .i64 b8, .int .i64 b9, .int .i64 au, .slice ap ao ar, .int .u64 b7] 27)) fun a3 =>
 thenW (a3.alloc (.cells #[.int .i64 ah, .int .i64 al, .int .u64 aq, .int .i64 b4, .int .i64 b2, .int .i64 ag, .slice an af aj, .int .u64 b6] 27)) fun bb =>
 thenW (bb.drew) fun b3 =>
 ∃ (a6 : Option Addr) (ae ab : Nat), b3.cell? ((blk w.heap.size).add 6) = some (.slice a6 ae ab) ∧
 ∃ (ad : Option Addr) (a8 aa : Nat), b3.cell? ((blk a3.heap.size).add 6) = some (.slice ad a8 aa) ∧
 Calls Try.prog 59 #[.slice a6 ae ab, .slice ad a8 aa] b3 fun ba a0 => ∃ (a5 : Bool), ba = .returned (.bool a5) ∧
 bif a5 then (
 ∃ (a2 : Int), a0.cell? ((blk w.heap.size).add 0) = some (.int .i64 a2) ∧
 ∃ (a1 : Int), a0.cell? ((blk a3.heap.size).add 0) = some (.int .i64 a1) ∧
 bif a2 == a1 then (
 ∃ (a9 : Int), a0.cell? ((blk w.heap.size).add 1) = some (.int .i64 a9) ∧
 ∃ (a4 : Int), a0.cell? ((blk a3.heap.size).add 1) = some (.int .i64 a4) ∧
 bif a9 == a4 then (
 ∃ (ak : Int), a0.cell? ((blk w.heap.size).add 2) = some (.int .u64 ak) ∧
 ∃ (ai : Int), a0.cell? ((blk a3.heap.size).add 2) = some (.int .u64 ai) ∧
 bif ak == ai then (
 ∃ (aw ay : Int), cellsAt a0 ((blk w.heap.size).add 3) [.int .i64 aw, .int .i64 ay] 0 ∧
 ∃ (b1 ax : Int), cellsAt a0 ((blk a3.heap.size).add 3) [.int .i64 b1, .int .i64 ax] 0 ∧
 ∃ (bc : Bool), (binOp .eql 24 (.agg #[.int .i64 aw, .int .i64 ay]) (.agg #[.int .i64 b1, .int .i64 ax])).run Try.prog a0 = .ok (.bool bc) a0 ∧
 bif bc then (
 ∃ (ac : Int), a0.cell? ((blk w.heap.size).add 5) = some (.int .i64 ac) ∧
 ∃ (a7 : Int), a0.cell? ((blk a3.heap.size).add 5) = some (.int .i64 a7) ∧
 bif ac == a7 then (
 ∃ (b0 : Int), a0.cell? ((blk w.heap.size).add 7) = some (.int .u64 b0) ∧
 ∃ (az : Int), a0.cell? ((blk a3.heap.size).add 7) = some (.int .u64 az) ∧
 R (.bool (b0 == az)) a0) else (
 R (.bool false) a0)) else (
 R (.bool false) a0)) else (
 R (.bool false) a0)) else (
 R (.bool false) a0)) else (
 R (.bool false) a0)) else (
 R (.bool false) a0)

theorem Q0z.ok (a5 ac af ai aj ab : Int) (a8 : Option Addr) (a7 aa : Nat) (ah a2 a4 a9 ae ad a1 : Int) (a6 : Option Addr) (a0 a3 : Nat) (ag : Int) {R : RW} {w : World} (h : Q0z.M a5 ac af ai aj ab a8 a7 aa ah a2 a4 a9 ae ad a1 a6 a0 a3 ag R w) : Calls Try.prog 30 #[.agg #[.int .i64 a5, .int .i64 ac, .int .u64 af, .int .i64 ai, .int .i64 aj, .int .i64 ab, .slice a8 a7 aa, .int .u64 ah], .agg #[.int .i64 a2, .int .i64 a4, .int .u64 a9, .int .i64 ae, .int .i64 ad, .int .i64 a1, .slice a6 a0 a3, .int .u64 ag]] w fun e w' => ∃ v, e = .returned v ∧ R v w' :=
  Q0b follows (H := []) (args := [.agg #[.int .i64 a5, .int .i64 ac, .int .u64 af, .int .i64 ai, .int .i64 aj, .int .i64 ab, .slice a8 a7 aa, .int .u64 ah], .agg #[.int .i64 a2, .int .i64 a4, .int .u64 a9, .int .i64 ae, .int .i64 ad, .int .i64 a1, .slice a6 a0 a3, .int .u64 ag]]) (cast (by kernel_rfl) h)

def Q0z.N (a5 a8 ad aj ak a7 : Int) (ah : Option Addr) (ag ai : Nat) (am a2 a4 a6 ac a9 a1 : Int) (ae : Option Addr) (aa ab : Nat) (al : Int) (R : RW) (w : World) : Prop :=
 ∀ (af : World) (ao ap : Nat), Ext no w af → Priv w af [ao, ap] →
 Calls Try.prog 59 #[.slice ah ag ai, .slice ae aa ab] af fun an a3 => ∃ (a0 : Bool), an = .returned (.bool a0) ∧
 Keep [ao, ap] af a3 ∧
 (a0 = true →
 (a5 = a2 →
 (a8 = a4 →
 (ad = a6 →
 (aj = ac ∧ ak = a9 →
 (a7 = a1 →
 R (.bool (am == al)) a3) ∧
 (a7 ≠ a1 →
 R (.bool false) a3)) ∧
 (¬ (aj = ac ∧ ak = a9) →
 R (.bool false) a3)) ∧
 (ad ≠ a6 →
 R (.bool false) a3)) ∧
 (a8 ≠ a4 →
 R (.bool false) a3)) ∧
 (a5 ≠ a2 →
 R (.bool false) a3)) ∧
 (a0 = false →
 R (.bool false) a3)

theorem Q0z.up (a5 ae ag ai aj ad : Int) (a9 : Option Addr) (a8 ab : Nat) (al a2 a4 aa ac a7 a1 : Int) (a6 : Option Addr) (a0 a3 : Nat) (ah : Int) {R : RW} {w : World} (h : Q0z.N a5 ae ag ai aj ad a9 a8 ab al a2 a4 aa ac a7 a1 a6 a0 a3 ah R w) : Q0z.M a5 ae ag ai aj ad a9 a8 ab al a2 a4 aa ac a7 a1 a6 a0 a3 ah R w := by
  unfold Q0z.M
  unfold Q0z.N at h
  refine Q00 fun b0 b3 => ?_
  have af := Blk.of_new b3
  have b7 := ((Ext.refl no w)).size
  have an := (Ext.refl no w).x_alloc b3
  refine Q00 fun b5 ar => ?_
  have ak := Blk.of_new ar
  have b6 := (an).size
  have b2 := Nat.ne_of_lt af.lt
  have af := af.x_alloc ar
  have aq := an.x_alloc ar
  refine Q00 fun ao aw => ?_
  have au := aq.x_drew aw
  have af := af.x_drew aw
  have ak := ak.x_drew aw
  refine ⟨a9, a8, ab, af.celli 6 rfl rfl, ?_⟩
  refine ⟨a6, a0, a3, ak.celli 6 rfl rfl, ?_⟩
  have h := h ao (w.heap.size) (b0.heap.size) au (Priv.cons b7 af.lt (Priv.cons b6 ak.lt Priv.nil))
  refine h.mono fun b4 b8 h => ?_
  obtain ⟨am, he, hk, h⟩ := h
  refine ⟨am, he, ?_⟩
  have af := hk.blk af (by simp)
  have ak := hk.blk ak (by simp)
  refine bif_fo (fun ax => ?_) (fun ax => ?_)
  ·have h := h.2 ax
   exact h
  have h := h.1 ax
  refine ⟨a5, af.celli 0 rfl rfl, ?_⟩
  refine ⟨a2, ak.celli 0 rfl rfl, ?_⟩
  refine bif_fo (fun ay => ?_) (fun ay => ?_)
  ·have h := h.2 (beq_f ay)
   exact h
  have h := h.1 (beq_t ay)
  refine ⟨ae, af.celli 1 rfl rfl, ?_⟩
  refine ⟨a4, ak.celli 1 rfl rfl, ?_⟩
  refine bif_fo (fun av => ?_) (fun av => ?_)
  ·have h := h.2 (beq_f av)
   exact h
  have h := h.1 (beq_t av)
  refine ⟨ag, af.celli 2 rfl rfl, ?_⟩
  refine ⟨aa, ak.celli 2 rfl rfl, ?_⟩
  refine bif_fo (fun ap => ?_) (fun ap => ?_)
  ·have h := h.2 (beq_f ap)
   exact h
  have h := h.1 (beq_t ap)
  refine ⟨ai, aj, ⟨af.celli 3 rfl rfl, af.celli 4 rfl rfl, trivial⟩, ?_⟩
  refine ⟨ac, a7, ⟨ak.celli 3 rfl rfl, ak.celli 4 rfl rfl, trivial⟩, ?_⟩
  refine ⟨_, Q4b ai aj ac a7 _, ?_⟩
  refine bif_fo (fun az => ?_) (fun az => ?_)
  ·have h := h.2 (of_decide_eq_false az)
   exact h
  have h := h.1 (of_decide_eq_true az)
  refine ⟨ad, af.celli 5 rfl rfl, ?_⟩
  refine ⟨a1, ak.celli 5 rfl rfl, ?_⟩
  refine bif_fo (fun b1 => ?_) (fun b1 => ?_)
  ·have h := h.2 (beq_f b1)
   exact h
  have h := h.1 (beq_t b1)
  refine ⟨al, af.celli 7 rfl rfl, ?_⟩
  refine ⟨ah, ak.celli 7 rfl rfl, ?_⟩
  exact h

theorem Q0z.go (a5 ac af ai aj ab : Int) (a8 : Option Addr) (a7 aa : Nat) (ah a2 a4 a9 ae ad a1 : Int) (a6 : Option Addr) (a0 a3 : Nat) (ag : Int) {R : RW} {w : World} (h : Q0z.N a5 ac af ai aj ab a8 a7 aa ah a2 a4 a9 ae ad a1 a6 a0 a3 ag R w) : Calls Try.prog 30 #[.agg #[.int .i64 a5, .int .i64 ac, .int .u64 af, .int .i64 ai, .int .i64 aj, .int .i64 ab, .slice a8 a7 aa, .int .u64 ah], .agg #[.int .i64 a2, .int .i64 a4, .int .u64 a9, .int .i64 ae, .int .i64 ad, .int .i64 a1, .slice a6 a0 a3, .int .u64 ag]] w fun e w' => ∃ v, e = .returned v ∧ R v w' := Q0z.ok a5 ac af ai aj ab a8 a7 aa ah a2 a4 a9 ae ad a1 a6 a0 a3 ag (Q0z.up a5 ac af ai aj ab a8 a7 aa ah a2 a4 a9 ae ad a1 a6 a0 a3 ag h)
theorem Q0z.run (a5 ac af ai aj ab : Int) (a8 : Option Addr) (a7 aa : Nat) (ah a2 a4 a9 ae ad a1 : Int) (a6 : Option Addr) (a0 a3 : Nat) (ag : Int) {V : Value} {Q : World → Prop} {w : World} (h : Q0z.N a5 ac af ai aj ab a8 a7 aa ah a2 a4 a9 ae ad a1 a6 a0 a3 ag (fun v w' => v = V ∧ Q w') w) : Calls Try.prog 30 #[.agg #[.int .i64 a5, .int .i64 ac, .int .u64 af, .int .i64 ai, .int .i64 aj, .int .i64 ab, .slice a8 a7 aa, .int .u64 ah], .agg #[.int .i64 a2, .int .i64 a4, .int .u64 a9, .int .i64 ae, .int .i64 ad, .int .i64 a1, .slice a6 a0 a3, .int .u64 ag]] w (Ret V Q) := (Q0z.go a5 ac af ai aj ab a8 a7 aa ah a2 a4 a9 ae ad a1 a6 a0 a3 ag h).mono fun e w' ⟨v, he, hv, hq⟩ => ⟨by rw [he, hv], hq⟩

theorem keep1 {w w' : World} {m : Nat → Prop} {p : Nat} (h : Ext m w w') (hp : ¬ m p) : Keep [p] w w' := h.keep fun q hq _ => by simp at hq; subst hq; exact hp
theorem keep2 {w w' : World} {m : Nat → Prop} {p q : Nat} (h : Ext m w w') (hp : ¬ m p) (hq : ¬ m q) : Keep [p, q] w w' := h.keep fun r hr _ => by
  simp at hr
  rcases hr with rfl | rfl
  · exact hp
  · exact hq
theorem OwnB.up {N M : Nat} {w : World} {a : Option Addr} {c : Nat} {bs : List UInt8} (h : OwnB N w a c bs) (hM : M ≤ N) : OwnB M w a c bs := ⟨h.own, fun ad ha => ⟨Nat.le_trans hM (h.fr ad ha).1, (h.fr ad ha).2⟩⟩
section
variable {w w' : World} {a : Option Addr} {c N p : Nat} {bs : List UInt8} {k : Int}
theorem Q45 (h : RowAt w a (bytesV bs)) (hl : bs.length ≤ 900000) {t s : Int} (h0 : -9223372036854775808 ≤ t) (h1 : t < 9223372036854775808) (hs : s < 9223372036854775808) :
    Calls Try.prog 90 #[.slice a bs.length c, .agg #[.int .i64 t, .int .i64 s]] w (fun e w' => ∃ a' c', e = .returned (.slice a' (bs ++ stampL t s).length c') ∧ OwnB w.heap.size w' a' c' (bs ++ stampL t s) ∧ Ext no w w') := by
  refine (Q0I.go _ _ _ _ _ (R := fun v w' => ∃ a' c', v = (.slice a' (bs ++ stampL t s).length c') ∧ OwnB w.heap.size w' a' c' (bs ++ stampL t s) ∧ Ext no w w') ?_).mono fun e w' ⟨v, he, a, c, hv, hw⟩ => ⟨a, c, by rw [he, hv], hw⟩
  unfold Q0I.N
  intro w5 p6 hx5 hp
  refine (W.Int_spec (h.no hx5) (by omega) h0 h1).mono fun e w9 ⟨a9, c9, he, hO, hx9⟩ => ⟨a9, _, c9, he, hx9.kept, ?_⟩
  have e1 : IntKind.u64.wrap (if (0 : Int) > s then 0 else s) = ((s.toNat : Nat) : Int) := by split <;> rw [wu64 (by omega) (by omega)] <;> omega
  rw [e1]
  have hz := W.numL_le (zig t)
  refine (W.Num_spec hO.row (by rw [List.length_append]; omega) (n := s.toNat) (by omega)).mono fun e w12 ⟨a12, c12, he, hO2, hx12⟩ => ⟨a12, _, c12, he, a12, c12, ?_, ?_, (hx5.trans hx9).trans hx12⟩
  · unfold stampL; rw [List.append_assoc]
  · unfold stampL; rw [← List.append_assoc]; exact OwnB.up hO2 (Nat.le_trans hx5.size hx9.size)
theorem Q3Q {q : Nat} (hq : Blk w q 113 [.slice a bs.length c]) (h : RowAt w a (bytesV bs)) (ho : ∀ ad, a = some ad → ad.block ≠ q) {la : Option Addr} {lc : Nat} {xs : List Nat} (hx : RowAt w la (xs.map fun (n : Nat) => Value.int .u64 (n : Int))) (hla : ∀ ad, la = some ad → ad.block ≠ q)
    (hxs : ∀ n ∈ xs, n < 18446744073709551616) (hl : bs.length + xs.length * 10 ≤ 900000) :
    Calls Try.prog 88 #[.pointer (some (blk q)), .slice la xs.length lc] w (fun e w' => e = .returned (.tuple #[]) ∧ ∃ a' c', Blk w' q 113 [.slice a' (bs ++ xs.flatMap numL).length c'] ∧ RowAt w' a' (bytesV (bs ++ xs.flatMap numL)) ∧ (∀ ad, a' = some ad → ad.block ≠ q ∧ (a' = a ∨ w.heap.size ≤ ad.block)) ∧ Ext (fun b => b = q) w w') := by
  refine (Q0e.go _ _ _ _ (R := fun v w' => v = .tuple #[] ∧ ∃ a' c', Blk w' q 113 [.slice a' (bs ++ xs.flatMap numL).length c'] ∧ RowAt w' a' (bytesV (bs ++ xs.flatMap numL)) ∧ (∀ ad, a' = some ad → ad.block ≠ q ∧ (a' = a ∨ w.heap.size ≤ ad.block)) ∧ Ext (fun b => b = q) w w') ?_).mono fun e w' ⟨v, he, hv, hw⟩ => ⟨by rw [he, hv], hw⟩
  unfold Q0e.N
  refine ⟨fun k vs w1 => ∃ (t : Nat) (a1 : Option Addr) (c1 : Nat) (l1 : List UInt8), vs = [.int .i64 t] ∧ k + t = xs.length ∧ l1 = bs ++ (xs.take t).flatMap numL ∧ l1.length ≤ bs.length + t * 10 ∧ Blk w1 q 113 [.slice a1 l1.length c1] ∧ RowAt w1 a1 (bytesV l1) ∧ (∀ ad, a1 = some ad → ad.block ≠ q ∧ (a1 = a ∨ w.heap.size ≤ ad.block)) ∧ Ext (fun b => b = q) w w1, xs.length,
    ⟨0, a, c, bs, rfl, rfl, by simp, by omega, hq, h, fun ad ha => ⟨ho ad ha, .inl rfl⟩, Ext.refl _ _⟩, ?_⟩
  rintro k w1 i ⟨t, a1, c1, l1, hi, hk, hl1, hlen, hb, hr, hf, X⟩
  simp only [List.cons.injEq, Value.int.injEq, true_and, and_true] at hi
  subst hi
  refine ⟨fun ht => ?_, fun ht => ?_⟩
  · have htl : t < xs.length := by omega
    have hx1 := hx.ext' X fun _ ad ha => hla ad ha
    obtain ⟨ad, rfl⟩ := hx1.addr (by intro e; rw [List.map_eq_nil_iff] at e; subst e; simp at htl)
    have hnb := hxs xs[t] (List.getElem_mem htl)
    refine ⟨ad, rfl, by omega, by omega, xs[t], by rw [Int.toNat_natCast, Nat.mul_one]; exact hx1.at_ (by simp [htl]), blk q, rfl, a1, _, c1, hb.cella (i := 0) rfl, ?_⟩
    refine (W.Num_spec hr (by omega) hnb).mono fun e w16 ⟨a2, c2, he, hO, hx16⟩ => ⟨a2, _, c2, he, (hb.ext hx16 id).cana (i := 0) rfl, Q00 fun w18 e18 => ?_⟩
    have hb18 := (hb.ext hx16 id).seti 0 rfl e18
    have x18 : Ext (fun b => b = q) w16 w18 := (Ext.refl (fun b => b = q) w16).x_set (q := q) (i := 0) rfl (.inl rfl) e18
    have hne : ∀ ad, a2 = some ad → ad.block ≠ q := fun ad ha e => by have := (hO.fr ad ha).1; have := hb.lt; omega
    have htk : xs.take (t + 1) = xs.take t ++ [xs[t]] := by rw [List.take_add_one]; simp [htl]
    have hnl := W.numL_le xs[t]
    refine ⟨by omega, by omega, k - 1, by omega, t + 1, a2, c2, l1 ++ numL xs[t], rfl, by omega, ?_, by rw [List.length_append]; omega, hb18, hO.row.ext' x18 fun _ ad ha => hne ad ha, fun ad ha => ⟨hne ad ha, .inr (Nat.le_trans X.size (hO.fr ad ha).1)⟩, (X.trans hx16.none).trans x18⟩
    rw [hl1, htk, List.flatMap_append, List.append_assoc]; simp
  · obtain rfl : t = xs.length := by omega
    rw [List.take_length] at hl1
    subst hl1
    exact ⟨rfl, a1, c1, hb, hr, hf, X⟩
theorem Q3L {e : Ent} (hr : Q0w e = true) (hf : e.fit) {ba : Option Addr} {bc : Nat} (hb : RowAt w ba (bytesV e.body)) :
    Calls Try.prog 76 #[entV e ba bc] w (fun x w' => ∃ a' c', x = .returned (.slice a' (textL e).length c') ∧ OwnB w.heap.size w' a' c' (textL e) ∧ Ext no w w') := by
  obtain ⟨h1, h2, h3, h4, h5, h6, h7, h8, h9, h10, h11⟩ := (Q12 e).1 hr
  have f1 := hf.pv0; have f2 := hf.pv1
  refine (Q0G.go e.w e.i e.pv e.t e.tw e.ep ba e.body.length bc e.sg (R := fun v w' => ∃ a' c', v = (.slice a' (textL e).length c') ∧ OwnB w.heap.size w' a' c' (textL e) ∧ Ext no w w') ?_).mono fun x w' ⟨v, he, a, c, hv, hw⟩ => ⟨a, c, by rw [he, hv], hw⟩
  unfold Q0G.N
  intro w10 q p X10 hq hq1 hq2 hp w13 q2 X13 hq3 hq4 hq5
  rw [wu64 (n := e.w) h1 (by omega), wu64 (n := e.i) h3 (by omega)] at hq3
  have hrow : RowAt w13 (some (blk q2)) (([e.w.toNat, e.i.toNat, e.pv.toNat] : List Nat).map fun (n : Nat) => Value.int .u64 (n : Int)) := by
    have := RowAt.of_blk hq3
    simp only [List.map_cons, List.map_nil, Int.toNat_of_nonneg h1, Int.toNat_of_nonneg h3, Int.toNat_of_nonneg f1]
    exact this
  have hp1 := hp.one
  refine (Q3Q (bs := []) (q := q) (hq.ext X13 id) (RowAt.nil _ _) (fun ad ha => by cases ha) hrow (fun ad ha => by cases ha; simp only [blk]; omega) (by simp; omega) (by simp)).mono fun x w16 ⟨he, a1, c1, hb1, hr1, hf1, X16⟩ => ?_
  have hw16 : Ext no w w16 := (X10.trans X13).then X16 fun b hb => .inr (by omega)
  have hpq : p ≠ q := by omega
  have e1 : ([] ++ [e.w.toNat, e.i.toNat, e.pv.toNat].flatMap numL) = numL e.w.toNat ++ numL e.i.toNat ++ numL e.pv.toNat := by simp
  rw [e1] at hr1 hb1
  refine ⟨he, keep1 X16 hpq, a1, _, c1, hb1.cell (i := 0) rfl, fun w17 X17 => ?_⟩
  have g1 := W.numL_le e.w.toNat; have g2 := W.numL_le e.i.toNat; have g3 := W.numL_le e.pv.toNat; have g4 := Q2S e.t e.tw; have g5 := W.numL_le (zig e.ep)
  have h17 := hw16.trans X17
  refine (Q45 (hr1.no X17) (by simp only [List.length_append]; omega) (by omega) (by omega) (by omega)).mono fun x w22 ⟨a2, c2, he, hO2, X22⟩ => ⟨a2, _, c2, he, X22.kept, ?_⟩
  refine (W.Int_spec hO2.row (by simp only [List.length_append]; omega) (by omega) (by omega)).mono fun x w25 ⟨a3, c3, he, hO3, X25⟩ => ⟨a3, _, c3, he, X25.kept, ?_⟩
  have h25 := (h17.trans X22).trans X25
  refine (W.Bytes_spec hO3.row (by simp only [List.length_append]; omega) (hb.no h25) (by omega)).mono fun x w28 ⟨a4, c4, he, hO4, X28⟩ => ⟨a4, _, c4, he, a4, c4, ?_, ?_, h25.trans X28⟩
  · unfold textL; simp only [List.append_assoc]
  · unfold textL; rw [← List.append_assoc]; exact OwnB.up hO4 h25.size
theorem Q2V {e : Ent} (hf : Q0w e = true → e.fit) {ba : Option Addr} {bc : Nat} (hb : RowAt w ba (bytesV e.body)) :
    Calls Try.prog 58 #[entV e ba bc] w (fun x w' => Ext no w w' ∧ ((Q0w e = false ∧ x = .returned (.tuple #[.slice none 0 0, .int .i64 1])) ∨ (Q0w e = true ∧ ∃ a' c', x = .returned (.tuple #[.slice a' (bytesL e).length c', .int .i64 0]) ∧ OwnB w.heap.size w' a' c' (bytesL e)))) := by
  refine (Q0r.go e.w e.i e.pv e.t e.tw e.ep ba e.body.length bc e.sg (R := fun v w' => Ext no w w' ∧ ((Q0w e = false ∧ v = (.tuple #[.slice none 0 0, .int .i64 1])) ∨ (Q0w e = true ∧ ∃ a' c', v = (.tuple #[.slice a' (bytesL e).length c', .int .i64 0]) ∧ OwnB w.heap.size w' a' c' (bytesL e)))) ?_).mono fun x w' ⟨v, he, hx, hv⟩ => ⟨hx, hv.imp (fun ⟨h1, h2⟩ => ⟨h1, by rw [he, h2]⟩) fun ⟨h1, a, c, h2, h3⟩ => ⟨h1, a, c, by rw [he, h2], h3⟩⟩
  unfold Q0r.N
  rw [Q1H]
  refine ⟨fun h w10 X => ⟨X, .inl ⟨h, rfl⟩⟩, fun h w13 p X hp => ?_⟩
  have hf := hf h
  have f3 := hf.sg0; have f4 := hf.sg1
  have hbl := ((Q12 e).1 h).2.2.2.2.2.2.2.2.2.1
  have htl := Q3j e
  refine (Q3L h hf (hb.no X)).mono fun x w17 ⟨a1, c1, he, hO, X17⟩ => ⟨a1, _, c1, he, X17.kept, ?_⟩
  rw [← Int.toNat_of_nonneg f3]
  refine (W.Num_spec hO.row (by omega) (n := e.sg.toNat) (by omega)).mono fun x w20 ⟨a2, c2, he, hO2, X20⟩ => ⟨a2, _, c2, he, (X.trans X17).trans X20, .inr ⟨h, a2, c2, rfl, OwnB.up hO2 (X.trans X17).size⟩⟩
/-! ### reading -/
theorem Q4a (h : Rd w p bs k) (hl : bs.length < 1000000) :
    Calls Try.prog 99 #[.pointer (some (blk p))] w (GivesW (.agg #[.int .i64 (stampR (bs, k)).1.1, .int .i64 (stampR (bs, k)).1.2]) fun w' => Rd w' p (stampR (bs, k)).2.1 (stampR (bs, k)).2.2 ∧ Ext (fun b => b = p) w w') := by
  refine (Q0F.run _ (Q := fun w' => Rd w' p (stampR (bs, k)).2.1 (stampR (bs, k)).2.2 ∧ Ext (fun b => b = p) w w') ?_)
  unfold Q0F.N
  intro w2 p3 X2 hp
  have hp := hp.one
  have hpp : p < p3 := by have := h.lt; omega
  refine (W.RInt_spec (h.no X2) hl).mono fun e w6 ⟨he, h6, X6⟩ => ⟨_, he, keep1 X6 (by omega), fun w7 X7 => ?_⟩
  have h7 := h6.up X7 fun b hb => by omega
  have hlen := Q2z (bs, k)
  have hc := W.Count_spec h7 (by simp only at hlen; omega) (m := 7) (by decide)
  refine hc.mono fun e w10 ⟨he, h10, X10⟩ => ⟨_, he, keep1 X10 (by omega), fun w13 X13 => ?_⟩
  have h13 := h10.up X13 fun b hb => by omega
  refine ⟨rfl, h13, ?_⟩
  have y1 : Ext (fun b => b = p) w w7 := (X2.none.trans X6).then X7 fun b hb => .inr (by omega)
  exact (y1.trans X10).then X13 fun b hb => .inr (by omega)
theorem Read_spec (h : RowAt w a (bytesV bs)) (hc : bs.length ≤ c) (hl : bs.length < 1000000) :
    Calls Try.prog 98 #[.slice a bs.length c] w (fun e w' => ∃ a' c', e = .returned (.tuple #[entV (readE bs).1 a' c', .int .i64 (readE bs).2]) ∧ RowAt w' a' (bytesV (readE bs).1.body) ∧ (∀ ad, a' = some ad → w.heap.size ≤ ad.block) ∧ Ext no w w') := by
  refine (Q0A.go _ _ _ (R := fun v w' => ∃ a' c', v = (.tuple #[entV (readE bs).1 a' c', .int .i64 (readE bs).2]) ∧ RowAt w' a' (bytesV (readE bs).1.body) ∧ (∀ ad, a' = some ad → w.heap.size ≤ ad.block) ∧ Ext no w w') ?_).mono fun e w' ⟨v, he, a, c, hv, hw⟩ => ⟨a, c, by rw [he, hv], hw⟩
  unfold Q0A.N
  intro w2 p3 X2 hp3
  have hp3 := hp3.one
  obtain ⟨L1, L2, L3, L4, L5, L6, L7⟩ := Q4f (bs, 0)
  simp only at L1 L2 L3 L4 L5 L6 L7
  refine (W.Read_spec (h.no X2) hc).mono fun e w6 ⟨q, he, hr6, hq6, X6⟩ => ⟨_, he, X6.kept, fun w7 p8 X7 hp8 => ?_⟩
  have hp8 := hp8.one
  have hq7 := hr6.lt
  have s6 := X6.size
  have Y7 : Ext no w w7 := (X2.trans X6).trans X7
  -- what is changed is new
  have new : ∀ {w1 w2 : World}, Ext no w w1 → Ext (fun b => b = q) w1 w2 → Ext no w w2 := fun h1 h2 => h1.then h2 fun b hb => .inr (by omega)
  have new8 : ∀ {w1 w2 : World}, Ext no w w1 → Ext (fun b => b = p8) w1 w2 → Ext no w w2 := fun h1 h2 => h1.then h2 fun b hb => .inr (by omega)
  have new3 : ∀ {w1 w2 : World}, Ext no w w1 → Ext (fun b => b = p3) w1 w2 → Ext no w w2 := fun h1 h2 => h1.then h2 fun b hb => .inr (by omega)
  have up8 : ∀ b, b = p8 → q < b := fun b hb => by omega
  have k8 : ¬ (p8 = q) := by omega
  have k3 : ¬ (p3 = q) := by omega
  refine (W.Count_spec (hr6.no X7) hl (m := 7) (by decide)).mono fun e w11 ⟨he, hr11, X11⟩ => ⟨_, he, keep2 X11 k3 k8, fun w12 X12 => ?_⟩
  refine (W.Count_spec (bs := (entR1 (bs, 0)).1) (k := (entR1 (bs, 0)).2) (hr11.up X12 up8) (by omega) (m := 199) (by decide)).mono fun e w15 ⟨he, hr15, X15⟩ => ⟨_, he, keep2 X15 k3 k8, fun w16 X16 => ?_⟩
  refine (W.RNum_spec (bs := (entR2 (bs, 0)).1) (k := (entR2 (bs, 0)).2) (hr15.up X16 up8) (by omega)).mono fun e w19 ⟨he, hr19, X19⟩ => ⟨_, he, keep2 X19 k3 k8, fun w20 X20 => ?_⟩
  refine (Q4a (bs := (entR3 (bs, 0)).1) (k := (entR3 (bs, 0)).2) (hr19.up X20 up8) (by omega)).mono fun e w24 ⟨he, hr24, X24⟩ => ⟨_, _, he, keep2 X24 k3 k8, fun w26 X26 => ?_⟩
  refine (W.RInt_spec (bs := (entR4 (bs, 0)).1) (k := (entR4 (bs, 0)).2) (hr24.up X26 up8) (by omega)).mono fun e w29 ⟨he, hr29, X29⟩ => ⟨_, he, keep2 X29 k3 k8, ?_⟩
  refine (Q1Y (bs := (entR5 (bs, 0)).1) (k := (entR5 (bs, 0)).2) hr29 (by omega) (m := 1100) (by decide)).mono fun e w32 ⟨ba, bc, he, hO, hr32, X32⟩ => ⟨ba, _, bc, he, keep2 X32 k3 k8, fun w33 X33 => ?_⟩
  have Y29 := new (new8 (new (new8 (new (new8 (new (new8 (new Y7 X11) X12) X15) X16) X19) X20) X24) X26) X29
  have hO33 : OwnB w29.heap.size w33 ba bc (bytesR 1100 (entR5 (bs, 0))).1 := hO.ext X33 fun ad ha hb => by have := (hO.fr ad ha).1; have := X29.size; have := X26.size; have := X24.size; have := X20.size; have := X19.size; have := X16.size; have := X15.size; have := X12.size; have := X11.size; omega
  have s29 : w7.heap.size ≤ w29.heap.size := by have := X29.size; have := X26.size; have := X24.size; have := X20.size; have := X19.size; have := X16.size; have := X15.size; have := X12.size; have := X11.size; omega
  refine (W.RNum_spec (bs := (entR6 (bs, 0)).1) (k := (entR6 (bs, 0)).2) (hr32.up X33 up8) (by omega)).mono fun e w36 ⟨he, hr36, X36⟩ => ⟨_, he, keep2 X36 k3 k8, fun w37 X37 => ?_⟩
  have hO37 : OwnB w29.heap.size w37 ba bc (bytesR 1100 (entR5 (bs, 0))).1 := (hO33.ext X36 fun ad ha hb => by have := (hO.fr ad ha).1; have := X7.size; omega).ext X37 fun ad ha hb => by have := (hO.fr ad ha).1; omega
  refine (W.Done_spec (bs := (entR7 (bs, 0)).1) (k := (entR7 (bs, 0)).2) (hr36.up X37 up8)).mono fun e w40 ⟨he, hw⟩ => ⟨_, he, Keep.refl _ _ |> fun k => by subst hw; exact k, ?_⟩
  subst hw
  have Y40 := new8 (new (new8 (new Y29 X32) X33) X36) X37
  have hF := Q1H (entR (bs, 0)) ba bc
  have hF' : Q07.F ((countR 7 (bs, 0)).1 : Int) ((countR 199 (entR1 (bs, 0))).1 : Int) ((numR (entR2 (bs, 0))).1 : Int) (stampR (entR3 (bs, 0))).1.1 ((stampR (entR3 (bs, 0))).1.2 : Int) (intR (entR4 (bs, 0))).1 ba (bytesR 1100 (entR5 (bs, 0))).1.length bc ((numR (entR6 (bs, 0))).1 : Int) = Q0w (entR (bs, 0)) := hF
  have new38 : ∀ {w1 w2 : World}, Ext no w w1 → Ext (fun b => b = p3 ∨ b = p8) w1 w2 → Ext no w w2 := fun h1 h2 => h1.then h2 fun b hb => .inr (by omega)
  refine ⟨fun hd w49 X49 => ?_, fun hd => ⟨fun hn => absurd rfl hn, fun _ => ⟨fun hr w69 X69 => ?_, fun hr w77 X77 => ?_⟩⟩⟩
  · have : readE bs = (Ent.zero, doneR (entR7 (bs, 0))) := by unfold readE; rw [if_pos hd]
    rw [this]
    exact ⟨none, 0, rfl, RowAt.nil _ _, fun ad ha => by (cases ha), new3 Y40 X49⟩
  · rw [hF'] at hr
    have : readE bs = (Ent.zero, 4) := by unfold readE; rw [if_neg (by rw [hd]; simp), if_neg (by rw [hr]; simp)]
    rw [this]
    exact ⟨none, 0, rfl, RowAt.nil _ _, fun ad ha => by (cases ha), new38 Y40 X69⟩
  · rw [hF'] at hr
    have : readE bs = (entR (bs, 0), 0) := by unfold readE; rw [if_neg (by rw [hd]; simp), if_pos hr]
    rw [this]
    refine ⟨ba, bc, rfl, ?_, fun ad ha => ?_, new38 Y40 X77⟩
    · refine (hO37.ext X77 fun ad ha hb => ?_).row
      have := (hO.fr ad ha).1; have := X7.size; omega
    · have := (hO.fr ad ha).1; have := Y7.size; omega
end
end Go.Proofs.Ytoempemllkebkaa
namespace Go.Proofs.Ytoempemllkebkaa
open Go Go.Mx Go.Proofs
open W (OwnB Rd RdR GivesW numR countR doneR zig unzig intR)
theorem litB {w w1 : World} {t e : TypeId} (hs : Try.prog.underlying t = some (.slice e)) (he : Try.prog.underlying e = some (.int .u8)) (bs : List UInt8) {q : Nat} (X : Ext no w w1) (hb : Blk w1 q e (bytesV bs)) (hq : w.heap.size ≤ q) :
    ∃ w2, (convert t t (.slice (some (blk q)) bs.length bs.length)).run Try.prog w1 = .ok (.slice (some (blk q)) bs.length bs.length) w2 ∧ RowAt w2 (some (blk q)) (bytesV bs) ∧ Ext no w w2 :=
  ⟨_, Q43 hs he hb, (RowAt.of_blk hb).freeze _ _, X.freeze (.inr hq) _⟩
section
variable {w w' : World} {a : Option Addr} {c N p : Nat} {bs : List UInt8} {k : Int}
theorem Q3A {b : Option Addr} {d : Nat} {x y : List UInt8} (ha : RowAt w a (bytesV x)) (hb : RowAt w b (bytesV y)) :
    Calls Try.prog 59 #[.slice a x.length c, .slice b y.length d] w (Ret (.bool (decide (x = y))) fun w' => w' = w) := by
  refine Q0u.run _ _ _ _ _ _ ?_
  unfold Q0u.N
  refine ⟨_, Q3h Try.underlying25 Try.underlying5 Try.underlying9 ha, _, Q3h Try.underlying25 Try.underlying5 Try.underlying9 hb, ?_, rfl⟩
  have key := Q3Z x y
  have e : ∀ s : List UInt8, (ByteArray.mk s.toArray).toList = s := fun s => by
    simp
  congr 1
  rw [e, e, Bool.eq_iff_iff]
  simp
theorem Q1I {e f : Ent} {b : Option Addr} {d : Nat} (ha : RowAt w a (bytesV e.body)) (hb : RowAt w b (bytesV f.body)) :
    Calls Try.prog 30 #[entV e a c, entV f b d] w (Ret (.bool (decide (e = f))) fun w' => Ext no w w') := by
  refine Q0z.run _ _ _ _ _ _ _ _ _ _ _ _ _ _ _ _ _ _ _ _ ?_
  unfold Q0z.N
  intro w19 p20 p21 X hp
  refine (Q3A (ha.no X) (hb.no X)).mono fun x w24 ⟨he, hw⟩ => ⟨_, he, by subst hw; exact Keep.refl _ _, ?_⟩
  subst hw
  obtain ⟨e1, e2, e3, e4, e5, e6, e7, e8⟩ := e
  obtain ⟨f1, f2, f3, f4, f5, f6, f7, f8⟩ := f
  simp only [Ent.mk.injEq]
  refine ⟨fun h => ?_, fun h => ?_⟩
  · have h := of_decide_eq_true h
    subst h
    refine ⟨fun c1 => ⟨fun c2 => ⟨fun c3 => ⟨fun c4 => ⟨fun c5 => ?_, fun c5 => ?_⟩, fun c4 => ?_⟩, fun c3 => ?_⟩, fun c2 => ?_⟩, fun c1 => ?_⟩ <;> refine ⟨?_, X⟩
    · congr 1; rw [Bool.eq_iff_iff, beq_iff_eq, decide_eq_true_eq]; exact ⟨fun h => ⟨c1, c2, c3, c4.1, c4.2, c5, rfl, h⟩, fun h => h.2.2.2.2.2.2.2⟩
    · rw [decide_eq_false fun h => c5 h.2.2.2.2.2.1]
    · rw [decide_eq_false fun h => c4 ⟨h.2.2.2.1, h.2.2.2.2.1⟩]
    · rw [decide_eq_false fun h => c3 h.2.2.1]
    · rw [decide_eq_false fun h => c2 h.2.1]
    · rw [decide_eq_false fun h => c1 h.1]
  · have h := of_decide_eq_false h
    exact ⟨by rw [decide_eq_false fun q => h q.2.2.2.2.2.2.1], X⟩
end
end Go.Proofs.Ytoempemllkebkaa
namespace Go.Proofs.Ytoempemllkebkaa
open Go Go.Mx Go.Proofs
open W (OwnB Rd RdR GivesW numR countR doneR zig unzig intR)
section
variable {w w' : World} {a : Option Addr} {c N p : Nat} {bs : List UInt8} {k : Int}
end
end Go.Proofs.Ytoempemllkebkaa
namespace Go.Proofs.Ytoempemllkebkaa
open Go Go.Mx Go.Proofs
def vRight.M (ak : Option Addr) (ag an : Nat) (R : RW) (w : World) : Prop :=
 ∃ (I0 : Nat → List Value → World → Prop) (m3 : Nat), I0 m3 [.int .i64 0] w ∧ ∀ (m4 : Nat) (a7 : World) (t2 : Int), I0 m4 [.int .i64 t2] a7 →
 bif decide (t2 < (ag : Int)) then (
 ak.elim False fun a6 =>
 0 ≤ (t2 : Int) ∧ (t2 : Int) < (ag : Int) ∧
 ∃ (a2 aa ab : Int), cellsAt a7 (a6.add (Int.toNat t2 * 3)) [.int .i64 a2, .int .i64 aa, .int .u64 ab] 0 ∧
 thenW (a7.alloc (.cells #[.int .i64 0, .int .i64 0, .int .u64 0] 66)) fun af =>
 Q01 af ((blk a7.heap.size).add 0) ∧
 thenW (af.setCell ((blk a7.heap.size).add 0) (.int .i64 a2)) fun ae =>
 Q01 ae ((blk a7.heap.size).add 1) ∧
 thenW (ae.setCell ((blk a7.heap.size).add 1) (.int .i64 aa)) fun ac =>
 Q01 ac ((blk a7.heap.size).add 2) ∧
 thenW (ac.setCell ((blk a7.heap.size).add 2) (.int .u64 ab)) fun ah =>
 thenW (ah.drew) fun ad =>
 ∃ (a1 a9 a8 : Int), cellsAt ad (blk a7.heap.size) [.int .i64 a1, .int .i64 a9, .int .u64 a8] 0 ∧
 Calls Try.prog 63 #[.agg #[.int .i64 a1, .int .i64 a9, .int .u64 a8]] ad fun ai a5 => ∃ (a0 : Bool), ai = .returned (.bool a0) ∧
 bif !a0 then (
 R (.bool false) a5) else (
 bif decide (t2 > 0) then (
 ∃ (a3 : Int), a5.cell? ((blk a7.heap.size).add 0) = some (.int .i64 a3) ∧
 ak.elim False fun am =>
 0 ≤ ((IntKind.i64.wrap (t2 - 1)) : Int) ∧ ((IntKind.i64.wrap (t2 - 1)) : Int) < (ag : Int) ∧
 ∃ (a4 : Int), a5.cell? ((am.add (Int.toNat (IntKind.i64.wrap (t2 - 1)) * 3)).add 0) = some (.int .i64 a4) ∧
 bif decide (a3 ≤ a4) then (
 R (.bool false) a5) else (
 ∃ aj, aj < m4 ∧ I0 aj [.int .i64 (IntKind.i64.wrap (t2 + 1))] a5)) else (
 ∃ al, al < m4 ∧ I0 al [.int .i64 (IntKind.i64.wrap (t2 + 1))] a5))) else (
 R (.bool true) a7)

theorem vRight.ok (a2 : Option Addr) (a0 a1 : Nat) {R : RW} {w : World} (h : vRight.M a2 a0 a1 R w) : Calls Try.prog 38 #[.slice a2 a0 a1] w fun e w' => ∃ v, e = .returned v ∧ R v w' :=
  Q0b follows (H := [(0, [0, 5, 6], [(7, (.one (.int .i64)))])]) (args := [.slice a2 a0 a1]) (cast (by kernel_rfl) h)

def vrh.M (a2 a6 a8 : Int) (R : RW) (w : World) : Prop :=
 thenW (w.alloc (.cells #[.int .i64 a2, .int .i64 a6, .int .u64 a8] 66)) fun a3 =>
 ∃ (a0 : Int), a3.cell? ((blk w.heap.size).add 0) = some (.int .i64 a0) ∧
 bif decide (a0 ≥ 0) then (
 ∃ (a1 : Int), a3.cell? ((blk w.heap.size).add 0) = some (.int .i64 a1) ∧
 bif decide (a1 < 8) then (
 ∃ (a7 : Int), a3.cell? ((blk w.heap.size).add 1) = some (.int .i64 a7) ∧
 bif decide (a7 > 0) then (
 ∃ (a4 : Int), a3.cell? ((blk w.heap.size).add 1) = some (.int .i64 a4) ∧
 bif decide (a4 ≤ 200) then (
 ∃ (a5 : Int), a3.cell? ((blk w.heap.size).add 2) = some (.int .u64 a5) ∧
 R (.bool (a5 != 0)) a3) else (
 R (.bool false) a3)) else (
 R (.bool false) a3)) else (
 R (.bool false) a3)) else (
 R (.bool false) a3)

theorem vrh.ok (a0 a1 a2 : Int) {R : RW} {w : World} (h : vrh.M a0 a1 a2 R w) : Calls Try.prog 63 #[.agg #[.int .i64 a0, .int .i64 a1, .int .u64 a2]] w fun e w' => ∃ v, e = .returned v ∧ R v w' :=
  Q0b follows (H := []) (args := [.agg #[.int .i64 a0, .int .i64 a1, .int .u64 a2]]) (cast (by kernel_rfl) h)

def GivesV (v : Value) (Q : World → Prop) (e : Ending) (w' : World) : Prop := e = .returned v ∧ Q w'
abbrev Hd := Int × Int × Int
def hdC (h : Hd) : List Value := [.int .i64 h.1, .int .i64 h.2.1, .int .u64 h.2.2]
def hdV (h : Hd) : Value := .agg #[.int .i64 h.1, .int .i64 h.2.1, .int .u64 h.2.2]
def hsC (hs : List Hd) : List Value := hs.flatMap hdC
theorem Q2m : ∀ hs : List Hd, (hsC hs).length = hs.length * 3
  | [] => rfl
  | h :: r => by
    have := Q2m r
    simp only [hsC, List.flatMap_cons, List.length_append, List.length_cons] at this ⊢
    rw [this]; simp [hdC]; omega
theorem hsC_get : ∀ {hs : List Hd} {i : Nat} {h : Hd}, hs[i]? = some h → ∀ j, j < 3 → (hsC hs)[i * 3 + j]? = (hdC h)[j]?
  | [], i, h, hi, j, hj => by simp at hi
  | a :: r, 0, h, hi, j, hj => by
    simp only [List.getElem?_cons_zero, Option.some.injEq] at hi
    subst hi
    simp only [hsC, List.flatMap_cons, Nat.zero_mul, Nat.zero_add]
    rw [List.getElem?_append_left (by simp [hdC]; omega)]
  | a :: r, i + 1, h, hi, j, hj => by
    simp only [List.getElem?_cons_succ] at hi
    have := hsC_get hi j hj
    simp only [hsC, List.flatMap_cons] at this ⊢
    rw [List.getElem?_append_right (by simp [hdC]; omega), show (i + 1) * 3 + j - (hdC a).length = i * 3 + j by simp [hdC]; omega]
    exact this
theorem hs_cell {w : World} {ad : Addr} {hs : List Hd} (hr : RowAt w (some ad) (hsC hs)) {i : Nat} {h : Hd} (hi : hs[i]? = some h) {j : Nat} {v : Value} (hv : (hdC h)[j]? = some v) : w.cell? ((ad.add (i * 3)).add j) = some v := by
  have hj : j < 3 := by have := (List.getElem?_eq_some_iff.1 hv).1; simpa [hdC] using this
  rw [add_add]
  exact hr.at_ ((hsC_get hi j hj).trans hv)
theorem hs_at {w : World} {ad : Addr} {hs : List Hd} (hr : RowAt w (some ad) (hsC hs)) {i : Nat} {h : Hd} (hi : hs[i]? = some h) : cellsAt w (ad.add (i * 3)) [.int .i64 h.1, .int .i64 h.2.1, .int .u64 h.2.2] 0 :=
  ⟨hs_cell hr hi (j := 0) rfl, hs_cell hr hi (j := 1) rfl, hs_cell hr hi (j := 2) rfl, trivial⟩
theorem hsC_ne {hs : List Hd} (h : hs ≠ []) : hsC hs ≠ [] := fun e => by
  have := Q2m hs
  rw [e] at this
  simp at this
  exact h (List.eq_nil_of_length_eq_zero (by omega))

def rhead (h : Hd) : Bool := decide (h.1 ≥ 0) && (decide (h.1 < 8) && (decide (h.2.1 > 0) && (decide (h.2.1 ≤ 200) && (h.2.2 != 0))))
def rightF : Option Int → List Hd → Bool
  | _, [] => true
  | p, h :: r => rhead h && (match p with | none => true | some q => decide (q < h.1)) && rightF (some h.1) r
def rightV (hs : List Hd) : Bool := rightF none hs
def prevOf (hs : List Hd) : Nat → Option Int
  | 0 => none
  | t + 1 => (hs[t]?).map (·.1)
theorem Q2I : ∀ {hs : List Hd} {p : Option Int}, rightF p hs = true → (∀ q, p = some q → ∀ h ∈ hs, q < h.1) ∧ (hs.map (·.1)).Pairwise (· < ·)
  | [], p, _ => ⟨fun q _ h hh => by simp at hh, by simp⟩
  | a :: r, p, h => by
    simp only [rightF, Bool.and_eq_true] at h
    obtain ⟨⟨h1, h2⟩, h3⟩ := h
    obtain ⟨i1, i2⟩ := Q2I h3
    refine ⟨fun q hq x hx => ?_, ?_⟩
    · subst hq
      simp only [decide_eq_true_eq] at h2
      rcases List.mem_cons.1 hx with rfl | hx
      · exact h2
      · have := i1 a.1 rfl x hx; omega
    · simp only [List.map_cons, List.pairwise_cons]
      refine ⟨fun b hb => ?_, i2⟩
      obtain ⟨x, hx, rfl⟩ := List.mem_map.1 hb
      exact i1 a.1 rfl x hx
section
variable {w w' : World} {a : Option Addr} {c : Nat} {hs : List Hd}
theorem Q2j (h : Hd) : Calls Try.prog 63 #[hdV h] w (GivesV (.bool (rhead h)) fun w' => Ext no w w') := by
  refine (vrh.ok _ _ _ (R := fun v w' => v = .bool (rhead h) ∧ Ext no w w') ?_).mono fun e w' ⟨v, he, hv, hw⟩ => ⟨by rw [he, hv], hw⟩
  unfold vrh.M
  refine Q00 fun w4 h4 => ?_
  have hb : Blk w4 w.heap.size 66 (hdC h) := by subst h4; exact Blk.new _ _ _
  have hx : Ext no w w4 := by subst h4; exact (Ext.refl _ _).alloc _
  refine ⟨_, hb.cella (i := 0) rfl, ?_⟩
  unfold rhead
  by_cases c1 : h.1 ≥ 0
  · rw [decide_eq_true c1, cond_true, Bool.true_and]
    refine ⟨_, hb.cella (i := 0) rfl, ?_⟩
    by_cases c2 : h.1 < 8
    · rw [decide_eq_true c2, cond_true, Bool.true_and]
      refine ⟨_, hb.cella (i := 1) rfl, ?_⟩
      by_cases c3 : h.2.1 > 0
      · rw [decide_eq_true c3, cond_true, Bool.true_and]
        refine ⟨_, hb.cella (i := 1) rfl, ?_⟩
        by_cases c4 : h.2.1 ≤ 200
        · rw [decide_eq_true c4, cond_true, Bool.true_and]
          exact ⟨_, hb.cella (i := 2) rfl, rfl, hx⟩
        · rw [decide_eq_false c4]; exact ⟨rfl, hx⟩
      · rw [decide_eq_false c3]; exact ⟨rfl, hx⟩
    · rw [decide_eq_false c2]; exact ⟨rfl, hx⟩
  · rw [decide_eq_false c1]; exact ⟨rfl, hx⟩

theorem Q1l (hr : RowAt w a (hsC hs)) (hl : hs.length < 1000000) : Calls Try.prog 38 #[.slice a hs.length c] w (GivesV (.bool (rightV hs)) fun w' => Ext no w w') := by
  refine (vRight.ok _ _ _ (R := fun v w' => v = .bool (rightV hs) ∧ Ext no w w') ?_).mono fun e w' ⟨v, he, hv, hw⟩ => ⟨by rw [he, hv], hw⟩
  unfold vRight.M
  refine ⟨fun k vs w1 => ∃ t : Nat, vs = [.int .i64 t] ∧ k + t = hs.length ∧ rightF (prevOf hs t) (hs.drop t) = rightV hs ∧ Ext no w w1, hs.length, ⟨0, rfl, rfl, rfl, Ext.refl _ _⟩, ?_⟩
  rintro k w1 i ⟨t, hi, hk, hf, hx⟩
  simp only [List.cons.injEq, Value.int.injEq, true_and, and_true] at hi
  subst hi
  cases k with
  | zero =>
    obtain rfl : t = hs.length := by omega
    rw [show decide ((hs.length : Int) < (hs.length : Int)) = false by simp, cond_false]
    rw [List.drop_length] at hf
    exact ⟨by rw [← hf]; cases prevOf hs hs.length <;> rfl, hx⟩
  | succ k =>
    have ht : t < hs.length := by omega
    rw [show decide ((t : Int) < (hs.length : Int)) = true by simp; omega, cond_true]
    have hr1 := hr.no hx
    obtain ⟨ad, rfl⟩ := hr1.addr (hsC_ne (by intro e; subst e; simp at ht))
    have hgi : hs[t]? = some hs[t] := List.getElem?_eq_getElem ht
    refine ⟨by omega, by omega, _, _, _, by rw [Int.toNat_natCast]; exact hs_at hr1 hgi, Q00 fun w10 h10 => ?_⟩
    have hb10 : Blk w10 w1.heap.size 66 [.int .i64 0, .int .i64 0, .int .u64 0] := by subst h10; exact Blk.new _ _ _
    have x10 : Ext no w1 w10 := by subst h10; exact (Ext.refl _ _).alloc _
    refine ⟨hb10.cana (i := 0) rfl, Q00 fun w11 h11 => ?_⟩
    have hb11 := hb10.seta 0 (.int .i64 hs[t].1)
    rw [← h11] at hb11
    have x11 : Ext no w1 w11 := by subst h11; exact x10.setCell (.inr (by rw [add_zero]; exact Nat.le_refl _)) _
    refine ⟨hb11.cana (i := 1) rfl, Q00 fun w12 h12 => ?_⟩
    have hb12 := hb11.seta 1 (.int .i64 hs[t].2.1)
    rw [← h12] at hb12
    have x12 : Ext no w1 w12 := by subst h12; exact x11.setCell (.inr (by rw [add_blk]; exact Nat.le_refl _)) _
    refine ⟨hb12.cana (i := 2) rfl, Q00 fun w13 h13 => Q00 fun w14 h14 => ?_⟩
    have hb13 := hb12.seta 2 (.int .u64 hs[t].2.2)
    rw [← h13] at hb13
    have x13 : Ext no w1 w13 := by subst h13; exact x12.setCell (.inr (by rw [add_blk]; exact Nat.le_refl _)) _
    have hb14 := hb13.drew
    rw [← h14] at hb14
    have x14 : Ext no w1 w14 := by subst h14; exact x13.drew
    refine ⟨_, _, _, ⟨hb14.cella (i := 0) rfl, hb14.cella (i := 1) rfl, hb14.cella (i := 2) rfl, trivial⟩, ?_⟩
    refine (Q2j hs[t]).mono fun e w20 ⟨he, x20'⟩ => ⟨_, he, ?_⟩
    have x20 := x14.trans x20'
    have hb20 := hb14.ext x20' id
    have hd : hs.drop t = hs[t] :: hs.drop (t + 1) := List.drop_eq_getElem_cons ht
    rw [hd] at hf
    simp only [rightF] at hf
    by_cases c1 : rhead hs[t] = true
    · rw [c1, Bool.not_true, cond_false]
      rw [c1, Bool.true_and] at hf
      have hw1 : IntKind.i64.wrap ((t : Int) + 1) = ((t + 1 : Nat) : Int) := by rw [w64 (by omega) (by omega)]; rfl
      cases t with
      | zero =>
        rw [show decide (((0 : Nat) : Int) > 0) = false from rfl, cond_false]
        exact ⟨k, by omega, 1, by rw [hw1], by omega, by rw [← hf]; simp [prevOf, ht], hx.trans x20⟩
      | succ t =>
        rw [show decide (((t + 1 : Nat) : Int) > 0) = true by simp <;> omega, cond_true]
        have htl : t < hs.length := by omega
        have hgp : hs[t]? = some hs[t] := List.getElem?_eq_getElem htl
        have hw2 : IntKind.i64.wrap (((t + 1 : Nat) : Int) - 1) = (t : Int) := by rw [w64 (by omega) (by omega)] <;> omega
        rw [hw2]
        refine ⟨_, hb20.cella (i := 0) rfl, by omega, by omega, _, by rw [Int.toNat_natCast]; exact hs_cell (hr1.no x20) hgp (j := 0) rfl, ?_⟩
        simp only [prevOf, hgp, Option.map_some] at hf
        by_cases c2 : hs[t + 1].1 ≤ hs[t].1
        · rw [decide_eq_true c2, cond_true]
          rw [decide_eq_false (by omega), Bool.false_and] at hf
          exact ⟨by rw [← hf], hx.trans x20⟩
        · rw [decide_eq_false c2, cond_false]
          rw [decide_eq_true (by omega), Bool.true_and] at hf
          exact ⟨k, by omega, t + 2, by rw [hw1], by omega, by rw [← hf]; simp [prevOf, ht], hx.trans x20⟩
    · have c1' : rhead hs[t] = false := by simpa using c1
      rw [c1', Bool.not_false, cond_true]
      rw [c1', Bool.false_and, Bool.false_and] at hf
      exact ⟨by rw [← hf], hx.trans x20⟩

theorem Q3P (hs : List Hd) (h : rightV hs = true) {i j : Nat} {p q : Hd} (hij : i < j) (hi : hs[i]? = some p) (hj : hs[j]? = some q) : p.1 < q.1 := by
  have := (Q2I h).2
  obtain ⟨hi1, rfl⟩ := List.getElem?_eq_some_iff.1 hi
  obtain ⟨hj1, rfl⟩ := List.getElem?_eq_some_iff.1 hj
  have h2 := List.pairwise_iff_getElem.1 this i j (by simpa using hi1) (by simpa using hj1) hij
  simpa using h2
end
end Go.Proofs.Ytoempemllkebkaa
namespace Go.Proofs.Ytoempemllkebkaa
open Go Go.Mx Go.Proofs
theorem infHead : (Try.prog.info? 66).map (fun i => (i.zero, i.size, i.bytes)) = some (some (.agg #[.int .i64 0, .int .i64 0, .int .u64 0]), 3, 24) := by kernel_rfl

theorem Q4e {w w' : World} {m : Nat → Prop} {base e size n : Nat} {v : Value} {xs : List Value} (h : w.ownsRow base e size v n xs) (k : Ext m w w') (hm : ∀ q, v.ownBlock = some q → ¬ m q) : w'.ownsRow base e size v n xs := by
  refine ⟨h.1, ?_⟩
  rcases h.2 with h2 | ⟨g, cap, cur, hv, hb, hg, hr⟩
  · exact .inl h2
  · exact .inr ⟨g, cap, cur, hv, hb, k.get hg (hm g (by rw [hv]; rfl)), hr⟩
theorem Q4i (w : World) (e size : Nat) : w.ownsRow 0 e size (.slice none 0 0) 0 [] := ⟨by simp, .inl ⟨rfl, rfl⟩⟩

section
variable {w w' : World} {aa ba : Option Addr} {ac bc : Nat} {a b : List Hd}
/-! ### Compare -/
/-! ### a list of heads that grows -/
def Grows (N : Nat) (w : World) (A : Nat) (t : TypeId) (l : List Hd) : Prop :=
  ∃ ra rc, Blk w A t [.slice ra l.length rc] ∧ w.ownsRow 0 66 3 (.slice ra l.length rc) l.length (hsC l) ∧ (∀ ad, ra = some ad → N ≤ ad.block ∧ ad.block ≠ A) ∧ N ≤ A
/-! ### Missing -/
end
end Go.Proofs.Ytoempemllkebkaa
namespace Go.Proofs.Ytoempemllkebkaa
open Go Go.Mx Go.Proofs
section
variable {w w' : World} {aa ba : Option Addr} {ac bc : Nat} {a b : List Hd}
/-! ### Conflict -/
/-! ### Merge -/
/-! ### the chapter's example -/
end
end Go.Proofs.Ytoempemllkebkaa
namespace Go.Proofs.Ytoempemllkebkaa
open Go Go.Mx Go.Proofs
def fitH (h : Hd) : Prop := (Lit.int .i64 h.1).wf = true ∧ (Lit.int .i64 h.2.1).wf = true ∧ (Lit.int .u64 h.2.2).wf = true
def HeadsQ (W : World) (cs : List Value) : Prop := ∃ (a : Option Addr) (c : Nat) (hs : List Hd), cs = [.slice a hs.length c] ∧ hs.length ≤ c ∧ c ≤ maxLen ∧ RowAt W a (hsC hs) ∧ ∀ h ∈ hs, fitH h
def HeadQ (W : World) (cs : List Value) : Prop := ∃ h : Hd, cs = hdC h ∧ fitH h
theorem Q3G : Opens Try.prog 66 HeadQ :=
  (Q13 (size := 3) Try.underlying66 (by kernel_rfl)).mono fun W cs ⟨hl, h⟩ => by
    match cs, hl with
    | [c0, c1, c2], _ =>
      obtain ⟨n0, e0, f0⟩ := h 0 _ rfl _ (Q0H Try.underlying3)
      obtain ⟨n1, e1, f1⟩ := h 1 _ rfl _ (Q0H Try.underlying3)
      obtain ⟨n2, e2, f2⟩ := h 2 _ rfl _ (Q0H Try.underlying22)
      have ci : Try.prog.cellsOf 3 = 1 := by kernel_rfl
      have cu : Try.prog.cellsOf 22 = 1 := by kernel_rfl
      change List.take (Try.prog.cellsOf 3) (List.drop 0 [c0, c1, c2]) = _ at e0
      change List.take (Try.prog.cellsOf 3) (List.drop 1 [c0, c1, c2]) = _ at e1
      change List.take (Try.prog.cellsOf 22) (List.drop 2 [c0, c1, c2]) = _ at e2
      rw [ci] at e0 e1
      rw [cu] at e2
      simp only [List.drop_zero, List.drop_succ_cons, List.take_succ_cons, List.take_zero, List.cons.injEq, and_true] at e0 e1 e2
      subst e0; subst e1; subst e2
      exact ⟨(n0, n1, n2), rfl, f0, f1, f2⟩
theorem Q2Z : Opens Try.prog 28 HeadsQ :=
  (Q2d (size := 3) Try.underlying28 (by kernel_rfl) Q3G).mono fun W cs ⟨a, l, c, rows, h1, h2, h3, h4, h5, h6⟩ => by
    obtain ⟨xs, h7, h8⟩ := rows_of (rows := rows) hdC fitH fun r hr => by
      obtain ⟨h, q1, q2⟩ := (h6 r hr).2
      exact ⟨h, q1, q2⟩
    subst h7
    rw [List.length_map] at h4
    subst h4
    exact ⟨a, c, xs, h1, h2, h3, by rw [hsC, List.flatMap_def]; exact h5, h8⟩

end Go.Proofs.Ytoempemllkebkaa
namespace Go.Proofs.Ytoempemllkebkaa
open Go Go.Mx Go.Proofs
open W (OwnB Rd GivesW numR countR doneR)
def vBytes.M (ba : Option Addr) (aw bi : Nat) (R : RW) (w : World) : Prop :=
 Calls Try.prog 38 #[.slice ba aw bi] w fun bj b9 => ∃ (a8 : Bool), bj = .returned (.bool a8) ∧
 bif !a8 then (
 R (.tuple #[.slice none 0 0, .int .i64 1]) b9) else (
 Calls Try.prog 26 #[.slice none 0 0, .int .u64 (IntKind.u64.wrap (aw : Int))] b9 fun bd bg => ∃ (am : Option Addr) (al an : Nat), bd = .returned (.slice am al an) ∧
 ∃ (I0 : Nat → List Value → World → Prop) (bh : Nat), I0 bh [.slice am al an, .int .i64 0] bg ∧ ∀ (bb : Nat) (a0 : World) (ax : Option Addr) (b4 b3 : Nat) (t9 : Int), I0 bb [.slice ax b4 b3, .int .i64 t9] a0 →
 bif decide (t9 < (aw : Int)) then (
 ba.elim False fun be =>
 0 ≤ (t9 : Int) ∧ (t9 : Int) < (aw : Int) ∧
 ∃ (a1 ad ai : Int), cellsAt a0 (be.add (Int.toNat t9 * 3)) [.int .i64 a1, .int .i64 ad, .int .u64 ai] 0 ∧
 thenW (a0.alloc (.cells #[.int .i64 0, .int .i64 0, .int .u64 0] 66)) fun au =>
 Q01 au ((blk a0.heap.size).add 0) ∧
 thenW (au.setCell ((blk a0.heap.size).add 0) (.int .i64 a1)) fun ar =>
 Q01 ar ((blk a0.heap.size).add 1) ∧
 thenW (ar.setCell ((blk a0.heap.size).add 1) (.int .i64 ad)) fun aq =>
 Q01 aq ((blk a0.heap.size).add 2) ∧
 thenW (aq.setCell ((blk a0.heap.size).add 2) (.int .u64 ai)) fun ak =>
 ∃ (a2 : Int), ak.cell? ((blk a0.heap.size).add 0) = some (.int .i64 a2) ∧
 ∃ (ap : Int), ak.cell? ((blk a0.heap.size).add 1) = some (.int .i64 ap) ∧
 ∃ (ao : Int), ak.cell? ((blk a0.heap.size).add 2) = some (.int .u64 ao) ∧
 ∃ (I2 : Nat → List Value → World → Prop) (bf : Nat), I2 bf [.slice ax b4 b3, .int .i64 0] ak ∧ ∀ (av : Nat) (aa : World) (ae : Option Addr) (a9 af : Nat) (aj : Int), I2 av [.slice ae a9 af, .int .i64 aj] aa →
 bif decide (aj < 3) then (
 0 ≤ (aj : Int) ∧ (aj : Int) < (3 : Int) ∧
 ((aj : Int) = 0 → 
 Calls Try.prog 26 #[.slice ae a9 af, .int .u64 (IntKind.u64.wrap a2)] aa fun b1 b2 => ∃ (ah : Option Addr) (a3 ab : Nat), b1 = .returned (.slice ah a3 ab) ∧
 ∃ b7, b7 < av ∧ I2 b7 [.slice ah a3 ab, .int .i64 (IntKind.i64.wrap (aj + 1))] b2) ∧
 ((aj : Int) = 1 → 
 Calls Try.prog 26 #[.slice ae a9 af, .int .u64 (IntKind.u64.wrap ap)] aa fun ay b0 => ∃ (a6 : Option Addr) (a7 ag : Nat), ay = .returned (.slice a6 a7 ag) ∧
 ∃ b6, b6 < av ∧ I2 b6 [.slice a6 a7 ag, .int .i64 (IntKind.i64.wrap (aj + 1))] b0) ∧
 ((aj : Int) = 2 → 
 Calls Try.prog 26 #[.slice ae a9 af, .int .u64 ao] aa fun az b5 => ∃ (a4 : Option Addr) (a5 ac : Nat), az = .returned (.slice a4 a5 ac) ∧
 ∃ bc, bc < av ∧ I2 bc [.slice a4 a5 ac, .int .i64 (IntKind.i64.wrap (aj + 1))] b5) ∧ True) else (
 ∃ b8, b8 < bb ∧ I0 b8 [.slice ae a9 af, .int .i64 (IntKind.i64.wrap (t9 + 1))] aa)) else (
 R (.tuple #[.slice ax b4 b3, .int .i64 0]) a0))

theorem vBytes.ok (a2 : Option Addr) (a0 a1 : Nat) {R : RW} {w : World} (h : vBytes.M a2 a0 a1 R w) : Calls Try.prog 28 #[.slice a2 a0 a1] w fun e w' => ∃ v, e = .returned v ∧ R v w' :=
  Q0b follows (H := [(0, [16, 17], [(4, (.one .slice)), (18, (.one (.int .i64)))]), (2, [16, 17, 18, 30], [(4, (.one .slice)), (31, (.one (.int .i64)))])]) (args := [.slice a2 a0 a1]) (cast (by kernel_rfl) h)

def vRead.M (b1 : Option Addr) (b5 b3 : Nat) (R : RW) (w : World) : Prop :=
 Calls Try.prog 33 #[.slice b1 b5 b3] w fun b8 b4 => ∃ (a1 : Option Addr), b8 = .returned (.pointer a1) ∧
 Calls Try.prog 54 #[.pointer a1, .int .i64 8] b4 fun b2 b6 => ∃ (a9 : Int), b2 = .returned (.int .i64 a9) ∧
 ∃ (I0 : Nat → List Value → World → Prop) (b7 : Nat), I0 b7 [.slice none 0 0, .int .i64 0] b6 ∧ ∀ (b0 : Nat) (a0 : World) (am : Option Addr) (an al : Nat) (t9 : Int), I0 b0 [.slice am an al, .int .i64 t9] a0 →
 bif decide (t9 < a9) then (
 thenW (a0.alloc (.cells #[.int .i64 0, .int .i64 0, .int .u64 0] 66)) fun au =>
 Calls Try.prog 54 #[.pointer a1, .int .i64 7] au fun aq af => ∃ (a5 : Int), aq = .returned (.int .i64 a5) ∧
 Q01 af (((blk a0.heap.size).add 0).add 0) ∧
 thenW (af.setCell (((blk a0.heap.size).add 0).add 0) (.int .i64 a5)) fun ax =>
 Calls Try.prog 54 #[.pointer a1, .int .i64 200] ax fun ay ae => ∃ (a4 : Int), ay = .returned (.int .i64 a4) ∧
 Q01 ae (((blk a0.heap.size).add 1).add 0) ∧
 thenW (ae.setCell (((blk a0.heap.size).add 1).add 0) (.int .i64 a4)) fun ap =>
 Calls Try.prog 71 #[.pointer a1] ap fun ao ak => ∃ (aa : Int), ao = .returned (.int .u64 aa) ∧
 Q01 ak (((blk a0.heap.size).add 2).add 0) ∧
 thenW (ak.setCell (((blk a0.heap.size).add 2).add 0) (.int .u64 aa)) fun ab =>
 ∃ (a2 a7 a8 : Int), cellsAt ab (blk a0.heap.size) [.int .i64 a2, .int .i64 a7, .int .u64 a8] 0 ∧
 thenW (ab.alloc (.cells #[.int .i64 a2, .int .i64 a7, .int .u64 a8] 66)) fun av =>
 ∃ (ai : Option Addr) (ad ac : Nat) (ah : World), (Builtin.append_ #[36, 36] 36 #[.slice am an al, .slice (some (blk ab.heap.size)) 1 1]).run Try.prog av = .ok (.slice ai ad ac) ah ∧
 ∃ az, az < b0 ∧ I0 az [.slice ai ad ac, .int .i64 (IntKind.i64.wrap (t9 + 1))] ah) else (
 Calls Try.prog 56 #[.pointer a1] a0 fun ar ag => ∃ (a3 : Int), ar = .returned (.int .i64 a3) ∧
 bif a3 != 0 then (
 R (.tuple #[.slice none 0 0, .int .i64 a3]) ag) else (
 Calls Try.prog 38 #[.slice am an al] ag fun aw aj => ∃ (a6 : Bool), aw = .returned (.bool a6) ∧
 bif !a6 then (
 R (.tuple #[.slice none 0 0, .int .i64 4]) aj) else (
 R (.tuple #[.slice am an al, .int .i64 0]) aj)))

theorem vRead.ok (a0 : Option Addr) (a2 a1 : Nat) {R : RW} {w : World} (h : vRead.M a0 a2 a1 R w) : Calls Try.prog 93 #[.slice a0 a2 a1] w fun e w' => ∃ v, e = .returned v ∧ R v w' :=
  Q0b follows (H := [(0, [4, 10], [(2, (.one .slice)), (11, (.one (.int .i64)))])]) (args := [.slice a0 a2 a1]) (cast (by kernel_rfl) h)

def wSame.M (a7 : Option Addr) (a1 ab : Nat) (a9 : Option Addr) (a4 aa : Nat) (R : RW) (w : World) : Prop :=
 bif (a1 : Int) != (a4 : Int) then (
 R (.bool false) w) else (
 ∃ (I0 : Nat → List Value → World → Prop) (m4 : Nat), I0 m4 [.int .i64 0] w ∧ ∀ (m5 : Nat) (a2 : World) (i3 : Int), I0 m5 [.int .i64 i3] a2 →
 bif decide (i3 < (a1 : Int)) then (
 thenW (a2.drew) fun a0 =>
 a7.elim False fun a8 =>
 0 ≤ (i3 : Int) ∧ (i3 : Int) < (a1 : Int) ∧
 ∃ (x9 : Int), a0.cell? (a8.add (Int.toNat i3 * 1)) = some (.int .u8 x9) ∧
 a9.elim False fun a6 =>
 0 ≤ (i3 : Int) ∧ (i3 : Int) < (a4 : Int) ∧
 ∃ (a5 : Int), a0.cell? (a6.add (Int.toNat i3 * 1)) = some (.int .u8 a5) ∧
 bif x9 != a5 then (
 R (.bool false) a0) else (
 ∃ a3, a3 < m5 ∧ I0 a3 [.int .i64 (IntKind.i64.wrap (i3 + 1))] a0)) else (
 R (.bool true) a2))

theorem wSame.eq (a1a : Option Addr) (a1n a1c : Nat) (b2a : Option Addr) (b2n b2c : Nat) (R : RW) (w : World) : mfunc Try.prog [(0, [0, 1], [(5, (.one (.int .i64)))])] 11 [.slice a1a a1n a1c, .slice b2a b2n b2c] R w = wSame.M a1a a1n a1c b2a b2n b2c R w := by kernel_rfl
theorem wSame.ok (a4 : Option Addr) (a2 a1 : Nat) (a5 : Option Addr) (a3 a0 : Nat) {R : RW} {w : World} (h : wSame.M a4 a2 a1 a5 a3 a0 R w) : Calls Try.prog 11 #[.slice a4 a2 a1, .slice a5 a3 a0] w fun e w' => ∃ v, e = .returned v ∧ R v w' :=
  Q0b follows (H := [(0, [0, 1], [(5, (.one (.int .i64)))])]) (args := [.slice a4 a2 a1, .slice a5 a3 a0]) (by rw [wSame.eq]; exact h)

def hdL (h : Hd) : List UInt8 := numL h.1.toNat ++ (numL h.2.1.toNat ++ numL h.2.2.toNat)
def vecL (hs : List Hd) : List UInt8 := numL hs.length ++ hs.flatMap hdL
theorem numL_le (n : Nat) : (numL n).length ≤ 10 := numF_le 10 n
theorem hdL_le (h : Hd) : (hdL h).length ≤ 30 := by
  have := numL_le h.1.toNat; have := numL_le h.2.1.toNat; have := numL_le h.2.2.toNat
  simp only [hdL, List.length_append]; omega
theorem hdsL_le : ∀ hs : List Hd, (hs.flatMap hdL).length ≤ 30 * hs.length
  | [] => Nat.le_refl _
  | h :: r => by
    have := hdsL_le r; have := hdL_le h
    simp only [List.flatMap_cons, List.length_append, List.length_cons]; omega
def natH (h : Hd) : Prop := 0 ≤ h.1 ∧ h.1 < 18446744073709551616 ∧ 0 ≤ h.2.1 ∧ h.2.1 < 18446744073709551616 ∧ 0 ≤ h.2.2 ∧ h.2.2 < 18446744073709551616
theorem Q3K {h : Hd} (hr : rhead h = true) (hf : 0 ≤ h.2.2 ∧ h.2.2 < 18446744073709551616) : natH h := by
  simp only [rhead, Bool.and_eq_true, decide_eq_true_eq] at hr
  obtain ⟨a, b, c, d, _⟩ := hr
  exact ⟨a, by omega, by omega, by omega, hf.1, hf.2⟩
theorem Q0X : ∀ {hs : List Hd} {p : Option Int}, rightF p hs = true → ∀ h ∈ hs, rhead h = true
  | [], _, _, h, hh => by simp at hh
  | a :: r, p, hr, h, hh => by
    simp only [rightF, Bool.and_eq_true] at hr
    rcases List.mem_cons.1 hh with rfl | hh
    · exact hr.1.1
    · exact Q0X hr.2 h hh
theorem OwnB.mono {N M : Nat} {w : World} {a : Option Addr} {c : Nat} {bs : List UInt8} (h : OwnB N w a c bs) (hM : M ≤ N) : OwnB M w a c bs := ⟨h.own, fun ad ha => ⟨Nat.le_trans hM (h.fr ad ha).1, (h.fr ad ha).2⟩⟩

section
variable {w w' : World} {a : Option Addr} {c : Nat} {hs : List Hd}
theorem Q2Y (hr : RowAt w a (hsC hs)) (hl : hs.length ≤ 1000) (hn : rightV hs = true → ∀ h ∈ hs, natH h) :
    Calls Try.prog 28 #[.slice a hs.length c] w (fun e w' => Ext no w w' ∧ ((rightV hs = false ∧ e = .returned (.tuple #[.slice none 0 0, .int .i64 1])) ∨ (rightV hs = true ∧ ∃ a' c', e = .returned (.tuple #[.slice a' (vecL hs).length c', .int .i64 0]) ∧ OwnB w.heap.size w' a' c' (vecL hs)))) := by
  refine (vBytes.ok _ _ _ (R := fun v w' => Ext no w w' ∧ ((rightV hs = false ∧ v = .tuple #[.slice none 0 0, .int .i64 1]) ∨ (rightV hs = true ∧ ∃ a' c', v = .tuple #[.slice a' (vecL hs).length c', .int .i64 0] ∧ OwnB w.heap.size w' a' c' (vecL hs)))) ?_).mono fun e w' ⟨v, he, hx, hv⟩ => ⟨hx, hv.imp (fun ⟨h1, h2⟩ => ⟨h1, by rw [he, h2]⟩) (fun ⟨h1, a', c', h2, h3⟩ => ⟨h1, a', c', by rw [he, h2], h3⟩)⟩
  unfold vBytes.M
  refine (Q1l hr (by omega)).mono fun e w4 ⟨he, x4⟩ => ⟨_, he, ?_⟩
  by_cases hright : rightV hs = true
  · rw [hright, Bool.not_true, cond_false]
    have hnat := hn hright
    rw [wu64 (n := (hs.length : Int)) (by omega) (by omega)]
    refine (W.Num_spec (bs := []) (n := hs.length) (RowAt.nil _ none) (by decide) (by omega)).mono fun e w7 ⟨a7, c7, he, ho7, x7'⟩ => ⟨a7, _, c7, he, ?_⟩
    rw [List.nil_append] at ho7 ⊢
    have x7 := x4.trans x7'
    refine ⟨fun k vs w1 => ∃ (t : Nat) (a1 : Option Addr) (c1 : Nat), vs = [.slice a1 (numL hs.length ++ (hs.take t).flatMap hdL).length c1, .int .i64 t] ∧ k + t = hs.length ∧ OwnB w.heap.size w1 a1 c1 (numL hs.length ++ (hs.take t).flatMap hdL) ∧ Ext no w w1, hs.length,
      ⟨0, a7, c7, by simp, rfl, by simpa using OwnB.mono ho7 x4.size, x7⟩, ?_⟩
    rintro k w12 b0 n0 c0 i ⟨t, a1, c1, hvs, hk, ho, hx⟩
    simp only [List.cons.injEq, Value.int.injEq, Value.slice.injEq, true_and, and_true] at hvs
    obtain ⟨⟨rfl, rfl, rfl⟩, rfl⟩ := hvs
    cases k with
    | zero =>
      obtain rfl : t = hs.length := by omega
      rw [show decide ((hs.length : Int) < (hs.length : Int)) = false by simp, cond_false]
      rw [List.take_length] at ho ⊢
      exact ⟨hx, .inr ⟨rfl, _, _, rfl, ho⟩⟩
    | succ k =>
      have ht : t < hs.length := by omega
      rw [show decide ((t : Int) < (hs.length : Int)) = true by simp; omega, cond_true]
      have hr1 := hr.no hx
      obtain ⟨ad, rfl⟩ := hr1.addr (hsC_ne (by intro e; subst e; simp at ht))
      have hgi : hs[t]? = some hs[t] := List.getElem?_eq_getElem ht
      obtain ⟨m1, m2, m3, m4, m5, m6⟩ := hnat hs[t] (List.getElem_mem ht)
      refine ⟨by omega, by omega, _, _, _, by rw [Int.toNat_natCast]; exact hs_at hr1 hgi, Q00 fun w17 h17 => ?_⟩
      have hb17 : Blk w17 w12.heap.size 66 [.int .i64 0, .int .i64 0, .int .u64 0] := by subst h17; exact Blk.new _ _ _
      have x17 : Ext no w12 w17 := by subst h17; exact (Ext.refl _ _).alloc _
      refine ⟨hb17.cana (i := 0) rfl, Q00 fun w18 h18 => ?_⟩
      have hb18 := hb17.seta 0 (.int .i64 hs[t].1)
      rw [← h18] at hb18
      have x18 : Ext no w12 w18 := by subst h18; exact x17.setCell (.inr (by rw [add_zero]; exact Nat.le_refl _)) _
      refine ⟨hb18.cana (i := 1) rfl, Q00 fun w19 h19 => ?_⟩
      have hb19 := hb18.seta 1 (.int .i64 hs[t].2.1)
      rw [← h19] at hb19
      have x19 : Ext no w12 w19 := by subst h19; exact x18.setCell (.inr (by rw [add_blk]; exact Nat.le_refl _)) _
      refine ⟨hb19.cana (i := 2) rfl, Q00 fun w20 h20 => ?_⟩
      have hb20 := hb19.seta 2 (.int .u64 hs[t].2.2)
      rw [← h20] at hb20
      have x20 : Ext no w12 w20 := by subst h20; exact x19.setCell (.inr (by rw [add_blk]; exact Nat.le_refl _)) _
      refine ⟨_, hb20.cella (i := 0) rfl, _, hb20.cella (i := 1) rfl, _, hb20.cella (i := 2) rfl, ?_⟩
      -- the three numbers
      have hlen : (numL hs.length ++ (hs.take t).flatMap hdL).length ≤ 10 + 30 * 1000 := by
        have h1 := numL_le hs.length
        have h2 := hdsL_le (hs.take t)
        rw [List.length_take] at h2
        rw [List.length_append]; omega
      have n1 := numL_le hs[t].1.toNat; have n2 := numL_le hs[t].2.1.toNat; have n3 := numL_le hs[t].2.2.toNat
      rw [wu64 m1 m2, wu64 m3 m4]
      generalize hbase : numL hs.length ++ (hs.take t).flatMap hdL = base at *
      have part : ∀ j : Nat, j ≤ 3 → ((([numL hs[t].1.toNat, numL hs[t].2.1.toNat, numL hs[t].2.2.toNat] : List (List UInt8)).take j).flatten).length ≤ 30 := fun j hj => by
        match j, hj with
        | 0, _ => simp
        | 1, _ => simp; omega
        | 2, _ => simp; omega
        | 3, _ => simp; omega
      refine ⟨fun k2 vs w1 => ∃ (j : Nat) (a2 : Option Addr) (c2 : Nat), vs = [.slice a2 (base ++ (([numL hs[t].1.toNat, numL hs[t].2.1.toNat, numL hs[t].2.2.toNat] : List (List UInt8)).take j).flatten).length c2, .int .i64 j] ∧ k2 + j = 3 ∧ OwnB w.heap.size w1 a2 c2 (base ++ (([numL hs[t].1.toNat, numL hs[t].2.1.toNat, numL hs[t].2.2.toNat] : List (List UInt8)).take j).flatten) ∧ Ext no w w1, 3,
        ⟨0, b0, c0, by simp, rfl, by simpa using ho.no x20, hx.trans x20⟩, ?_⟩
      rintro k2 w28 b2 l2 c2 i2 ⟨j, a2', c2', hvs, hk2, ho2, hx2⟩
      simp only [List.cons.injEq, Value.int.injEq, Value.slice.injEq, true_and, and_true] at hvs
      obtain ⟨⟨rfl, rfl, rfl⟩, rfl⟩ := hvs
      cases k2 with
      | zero =>
        obtain rfl : j = 3 := by omega
        rw [show decide (((3 : Nat) : Int) < 3) = false from rfl, cond_false]
        have hnx : base ++ (([numL hs[t].1.toNat, numL hs[t].2.1.toNat, numL hs[t].2.2.toNat] : List (List UInt8)).take 3).flatten = numL hs.length ++ (hs.take (t + 1)).flatMap hdL := by
          rw [← hbase, List.take_add_one (l := hs) (i := t), hgi, Option.toList_some, List.flatMap_append]
          show (numL hs.length ++ (hs.take t).flatMap hdL) ++ (numL hs[t].1.toNat ++ (numL hs[t].2.1.toNat ++ (numL hs[t].2.2.toNat ++ []))) = numL hs.length ++ ((hs.take t).flatMap hdL ++ (hdL hs[t] ++ []))
          simp only [hdL, List.append_nil, List.append_assoc]
        rw [hnx] at ho2 ⊢
        exact ⟨k, by omega, t + 1, _, _, by rw [w64 (by omega) (by omega)]; rfl, by omega, ho2, hx2⟩
      | succ k2 =>
        have hj : j < 3 := by omega
        rw [show decide ((j : Int) < 3) = true by simp; omega, cond_true]
        refine ⟨by omega, by omega, ?_⟩
        have hp := part j (by omega)
        -- one number more
        have step : ∀ (n : Nat), n < 18446744073709551616 → (([numL hs[t].1.toNat, numL hs[t].2.1.toNat, numL hs[t].2.2.toNat] : List (List UInt8))[j]? = some (numL n)) → ∀ x : Int, x = (n : Int) →
            Calls Try.prog 26 #[.slice b2 (base ++ (([numL hs[t].1.toNat, numL hs[t].2.1.toNat, numL hs[t].2.2.toNat] : List (List UInt8)).take j).flatten).length c2, .int .u64 x] w28 (fun ee31 ww32 => ∃ (num30a : Option Addr) (num30n num30c : Nat), ee31 = .returned (.slice num30a num30n num30c) ∧
              ∃ m33, m33 < k2 + 1 ∧ ∃ (j' : Nat) (a2 : Option Addr) (c2 : Nat), [Value.slice num30a num30n num30c, .int .i64 (IntKind.i64.wrap ((j : Int) + 1))] = [.slice a2 (base ++ (([numL hs[t].1.toNat, numL hs[t].2.1.toNat, numL hs[t].2.2.toNat] : List (List UInt8)).take j').flatten).length c2, .int .i64 j'] ∧ m33 + j' = 3 ∧ OwnB w.heap.size ww32 a2 c2 (base ++ (([numL hs[t].1.toNat, numL hs[t].2.1.toNat, numL hs[t].2.2.toNat] : List (List UInt8)).take j').flatten) ∧ Ext no w ww32) := fun n hn64 hj2 x hx' => by
          subst hx'
          refine (W.Num_spec (c := c2) ho2.row (by rw [List.length_append]; omega) hn64).mono fun e w32 ⟨a3, c3, he, ho3, x3⟩ => ⟨a3, _, c3, he, k2, by omega, j + 1, a3, c3, ?_, by omega, ?_, hx2.trans x3⟩
          · rw [w64 (by omega) (by omega), List.take_add_one, hj2]
            simp [List.append_assoc]
          · rw [List.take_add_one, hj2]
            have := OwnB.mono ho3 hx2.size
            simpa [List.append_assoc] using this
        refine ⟨fun h => ?_, fun h => ?_, fun h => ?_, trivial⟩
        · obtain rfl : j = 0 := by omega
          exact step hs[t].1.toNat (by omega) rfl hs[t].1 (by omega)
        · obtain rfl : j = 1 := by omega
          exact step hs[t].2.1.toNat (by omega) rfl hs[t].2.1 (by omega)
        · obtain rfl : j = 2 := by omega
          exact step hs[t].2.2.toNat (by omega) rfl hs[t].2.2 (by omega)
  · rw [show rightV hs = false by simpa using hright, Bool.not_false, cond_true]
    exact ⟨x4, .inl ⟨rfl, rfl⟩⟩

/-! ### reading -/
def readF : Nat → List Hd → List UInt8 × Int → List Hd × (List UInt8 × Int)
  | 0, hs, s => (hs, s)
  | n + 1, hs, s =>
    readF n (hs ++ [(((countR 7 s).1 : Int), (((countR 200 (countR 7 s).2).1 : Int), ((numR (countR 200 (countR 7 s).2).2).1 : Int)))]) (numR (countR 200 (countR 7 s).2).2).2
def readAll (b : List UInt8) : List Hd × (List UInt8 × Int) := readF (countR 8 (b, 0)).1 [] (countR 8 (b, 0)).2
def readV (b : List UInt8) : List Hd × Int :=
  if doneR (readAll b).2 ≠ 0 then ([], doneR (readAll b).2) else if rightV (readAll b).1 then ((readAll b).1, 0) else ([], 4)

structure OwnH (N : Nat) (w : World) (a : Option Addr) (c : Nat) (hs : List Hd) : Prop where
  own : w.ownsRow 0 66 3 (.slice a hs.length c) hs.length (hsC hs)
  fr : ∀ ad, a = some ad → N ≤ ad.block ∧ ad.block < w.heap.size
theorem OwnH.row {N : Nat} (h : OwnH N w a c hs) : RowAt w a (hsC hs) := by
  obtain ⟨_, _, hv, hr⟩ := RowAt.of_owns h.own
  cases hv; exact hr
theorem OwnH.ext {N : Nat} {m : Nat → Prop} (h : OwnH N w a c hs) (k : Ext m w w') (hm : ∀ ad, a = some ad → ¬ m ad.block) : OwnH N w' a c hs :=
  ⟨Q4e h.own k fun q hq => by
    cases a with
    | none => simp [Value.ownBlock] at hq
    | some ad => simp only [Value.ownBlock, Option.some.injEq] at hq; subst hq; exact hm ad rfl, fun ad ha => ⟨(h.fr ad ha).1, Nat.lt_of_lt_of_le (h.fr ad ha).2 k.size⟩⟩
theorem OwnH.push {N : Nat} {ty : TypeId} (hty : Try.prog.underlying ty = some (.slice 66)) (h : OwnH N w a c hs) (hN : N ≤ w.heap.size) (hl : hs.length ≤ 1000000) {xa : Option Addr} {x : Hd} (hx : RowAt w xa (hdC x)) :
    ∃ a' c' w', (Builtin.append_ #[ty, ty] ty #[.slice a hs.length c, .slice xa 1 1]).run Try.prog w = .ok (.slice a' (hs.length + 1) c') w' ∧ OwnH N w' a' c' (hs ++ [x]) ∧ Ext (fun b => N ≤ b ∧ ∀ ad, a = some ad → b = ad.block ∨ w.heap.size ≤ b) w w' ∧ (∀ ad, a' = some ad → (∃ b, a = some b ∧ ad.block = b.block) ∨ w.heap.size ≤ ad.block) := by
  obtain ⟨i, hi, hz, hs', hby⟩ := info_of infHead
  obtain ⟨a', c', w2, hr, ho, hg, hb⟩ := Q16 (ty := ty) hty hi hz hs' hby rfl (by decide) h.own (xa := xa) (m := 1) (c := 1) rfl hx (fun u hu => by
    simp only [hdC, List.mem_cons, List.not_mem_nil, or_false] at hu
    rcases hu with rfl | rfl | rfl <;> rfl) (by omega) (by omega)
  have hrow : ∀ q, (Value.slice a hs.length c).ownBlock = some q → N ≤ q ∧ ∀ ad, a = some ad → q = ad.block := fun q hq => by
    cases a with
    | none => simp [Value.ownBlock] at hq
    | some ad => simp only [Value.ownBlock, Option.some.injEq] at hq; subst hq; exact ⟨(h.fr ad rfl).1, fun ad' ha' => by cases ha'; rfl⟩
  refine ⟨a', c', w2, hr, ⟨?_, fun ad ha => ⟨?_, (Q0U ho).2 ad ha⟩⟩, Ext.of_grown hg fun q hq => .inl ⟨(hrow q hq).1, fun ad ha => .inl ((hrow q hq).2 ad ha)⟩, fun ad ha => ?_⟩
  · rw [List.length_append, show hsC (hs ++ [x]) = hsC hs ++ hdC x by simp [hsC]]; exact ho
  · subst ha
    rcases hb with hq | hq
    · exact (hrow _ hq.symm).1
    · simp only [Value.ownBlock, Option.some.injEq] at hq; omega
  · subst ha
    rcases hb with hq | hq
    · cases a with
      | none => simp [Value.ownBlock] at hq
      | some b => exact .inl ⟨b, rfl, by simpa [Value.ownBlock] using hq⟩
    · simp only [Value.ownBlock, Option.some.injEq] at hq; exact .inr (by omega)
end
end Go.Proofs.Ytoempemllkebkaa
namespace Go.Proofs.Ytoempemllkebkaa
open Go Go.Mx Go.Proofs
open W (OwnB Rd GivesW numR countR doneR)
section
variable {w w' : World} {a : Option Addr} {c : Nat} {hs : List Hd}
theorem OwnH.mono {N M : Nat} (h : OwnH N w a c hs) (hM : M ≤ N) : OwnH M w a c hs := ⟨h.own, fun ad ha => ⟨Nat.le_trans hM (h.fr ad ha).1, (h.fr ad ha).2⟩⟩
theorem Q1V (m : Int) (s : List UInt8 × Int) (hm : 0 ≤ m) : ((countR m s).1 : Int) ≤ m := by
  unfold countR
  split
  · split
    · exact hm
    · rename_i h; exact Decidable.byContradiction fun e => h (.inr (by omega))
  · exact hm

theorem Q3F {b : List UInt8} (hr : RowAt w a (bytesV b)) (hc : b.length ≤ c) (hl : b.length < 1000000) :
    Calls Try.prog 93 #[.slice a b.length c] w (fun e w' => ∃ ra rc, e = .returned (.tuple #[.slice ra (readV b).1.length rc, .int .i64 (readV b).2]) ∧ OwnH w.heap.size w' ra rc (readV b).1 ∧ Ext no w w') := by
  refine (vRead.ok _ _ _ (R := fun v w' => ∃ ra rc, v = .tuple #[.slice ra (readV b).1.length rc, .int .i64 (readV b).2] ∧ OwnH w.heap.size w' ra rc (readV b).1 ∧ Ext no w w') ?_).mono fun e w' ⟨v, he, ra, rc, hv, hw⟩ => ⟨ra, rc, by rw [he, hv], hw⟩
  unfold vRead.M
  refine (W.Read_spec hr hc).mono fun e w4 ⟨p, he, hR4, hp, x4⟩ => ⟨_, he, ?_⟩
  have pnew : ∀ {w1 w2 : World}, Ext no w w1 → Ext (fun b => b = p) w1 w2 → Ext no w w2 := fun h k => h.then k fun q hq => .inr (by omega)
  refine (W.Count_spec hR4 hl (m := 8) (by decide)).mono fun e w7 ⟨he, hR7, x7'⟩ => ⟨_, he, ?_⟩
  have x7 := pnew x4 x7'
  have hn8 := Q1V 8 (b, 0) (by decide)
  have hcl := W.countR_len 8 (b, 0)
  have nilH : ∀ N w1, OwnH N w1 none 0 [] := fun N w1 => ⟨Q4i _ _ _, fun ad ha => by cases ha⟩
  refine ⟨fun k vs w1 => ∃ (t : Nat) (va : Option Addr) (vc : Nat) (l : List Hd) (s : List UInt8 × Int), vs = [.slice va l.length vc, .int .i64 t] ∧ k + t = (countR 8 (b, 0)).1 ∧ l.length = t ∧ Rd w1 p s.1 s.2 ∧ s.1.length ≤ b.length ∧ OwnH (p + 1) w1 va vc l ∧ (∀ ad, va = some ad → ad.block ≠ p) ∧ readF k l s = readAll b ∧ Ext no w w1, (countR 8 (b, 0)).1,
    ⟨0, none, 0, [], (countR 8 (b, 0)).2, rfl, rfl, rfl, hR7, hcl, nilH _ _, (fun ad ha => by cases ha), rfl, x7⟩, ?_⟩
  rintro k w12 v0 n0 c0 i ⟨t, va, vc, l, s, hvs, hk, hlt2, hR, hsl, hO, hOp, hF, hx⟩
  simp only [List.cons.injEq, Value.int.injEq, Value.slice.injEq, true_and, and_true] at hvs
  obtain ⟨⟨rfl, rfl, rfl⟩, rfl⟩ := hvs
  cases k with
  | zero =>
    rw [show decide ((t : Int) < ((countR 8 (b, 0)).1 : Int)) = false by simp; omega, cond_false]
    simp only [readF] at hF
    refine (W.Done_spec hR).mono fun e w35 ⟨he, hw⟩ => ⟨_, he, ?_⟩
    subst hw
    unfold readV
    rw [← hF]
    by_cases hd : doneR (s.1, s.2) ≠ 0
    · rw [show (doneR (s.1, s.2) != 0) = true by simpa using hd, cond_true, if_pos hd]
      exact ⟨none, 0, rfl, nilH _ _, hx⟩
    · rw [show (doneR (s.1, s.2) != 0) = false by simpa using hd, cond_false, if_neg hd]
      refine (Q1l hO.row (by have := hn8; omega)).mono fun e w38 ⟨he, x38⟩ => ⟨_, he, ?_⟩
      by_cases hri : rightV l = true
      · rw [hri, Bool.not_true, cond_false, if_pos rfl]
        exact ⟨_, _, rfl, (hO.ext x38 (fun _ _ h => h)).mono (by omega), hx.trans x38⟩
      · rw [show rightV l = false by simpa using hri, Bool.not_false, cond_true, if_neg (by decide)]
        exact ⟨none, 0, rfl, nilH _ _, hx.trans x38⟩
  | succ k =>
    rw [show decide ((t : Int) < ((countR 8 (b, 0)).1 : Int)) = true by simp; omega, cond_true]
    refine Q00 fun w13 h13 => ?_
    have x13' : Ext no w12 w13 := by subst h13; exact (Ext.refl _ _).alloc _
    have hH13 : Blk w13 w12.heap.size 66 (hdC (0, 0, 0)) := by subst h13; exact Blk.new _ _ _
    have x13 := hx.trans x13'
    have hpl0 := W.Rd.lt hR
    have hpH : w12.heap.size ≠ p := by omega
    have hR13 := W.Rd.no hR x13'
    have hO13 := hO.ext x13' (fun _ _ h => h)
    -- three numbers
    refine (W.Count_spec hR13 (Nat.lt_of_le_of_lt hsl hl) (m := 7) (by decide)).mono fun e w16 ⟨he, hR16, x16'⟩ => ⟨_, he, ?_⟩
    have l16 : (countR 7 (s.1, s.2)).2.1.length ≤ s.1.length := W.countR_len 7 (s.1, s.2)
    have x16 := pnew x13 x16'
    have hH16 := hH13.ext x16' hpH
    have hO16 := hO13.ext x16' hOp
    rw [add_zero]
    refine ⟨hH16.cana (i := 0) rfl, Q00 fun w17 h17 => ?_⟩
    have hH17 : Blk w17 w12.heap.size 66 (hdC ((countR 7 (s.1, s.2)).1, 0, 0)) := by subst h17; exact hH16.seta 0 _
    have x17' : Ext (fun b => b = w12.heap.size) w16 w17 := by subst h17; exact (Ext.refl (fun b => b = w12.heap.size) w16).setCell (a := (blk w12.heap.size).add 0) (.inl rfl) _
    have hR17 := W.Rd.up hR16 x17' (fun q hq => by omega)
    have hOH : ∀ ad, v0 = some ad → ¬ ad.block = w12.heap.size := fun ad ha e => by have := (hO.fr ad ha).2; omega
    have hO17 := hO16.ext x17' hOH
    have x17 : Ext no w w17 := x16.then x17' fun q hq => .inr (by have := hx.size; omega)
    refine (W.Count_spec hR17 (Nat.lt_of_le_of_lt (Nat.le_trans l16 hsl) hl) (m := 200) (by decide)).mono fun e w20 ⟨he, hR20, x20'⟩ => ⟨_, he, ?_⟩
    have l20 : (countR 200 (countR 7 (s.1, s.2)).2).2.1.length ≤ (countR 7 (s.1, s.2)).2.1.length := W.countR_len 200 (countR 7 (s.1, s.2)).2
    have x20 := pnew x17 x20'
    have hH20 := hH17.ext x20' hpH
    have hO20 := hO17.ext x20' hOp
    rw [add_zero]
    refine ⟨hH20.cana (i := 1) rfl, Q00 fun w21 h21 => ?_⟩
    have hH21 : Blk w21 w12.heap.size 66 (hdC ((countR 7 (s.1, s.2)).1, (countR 200 (countR 7 (s.1, s.2)).2).1, 0)) := by subst h21; exact hH20.seta 1 _
    have x21' : Ext (fun b => b = w12.heap.size) w20 w21 := by subst h21; exact (Ext.refl (fun b => b = w12.heap.size) w20).setCell (a := (blk w12.heap.size).add 1) (.inl (by rw [add_blk])) _
    have hR21 := W.Rd.up hR20 x21' (fun q hq => by omega)
    have hO21 := hO20.ext x21' hOH
    have x21 : Ext no w w21 := x20.then x21' fun q hq => .inr (by have := hx.size; omega)
    refine (W.RNum_spec hR21 (Nat.lt_of_le_of_lt (Nat.le_trans l20 (Nat.le_trans l16 hsl)) hl)).mono fun e w24 ⟨he, hR24, x24'⟩ => ⟨_, he, ?_⟩
    have l24 : (numR (countR 200 (countR 7 (s.1, s.2)).2).2).2.1.length ≤ (countR 200 (countR 7 (s.1, s.2)).2).2.1.length := W.numR_len (countR 200 (countR 7 (s.1, s.2)).2).2
    have x24 := pnew x21 x24'
    have hH24 := hH21.ext x24' hpH
    have hO24 := hO21.ext x24' hOp
    rw [add_zero]
    refine ⟨hH24.cana (i := 2) rfl, Q00 fun w25 h25 => ?_⟩
    have hH25 : Blk w25 w12.heap.size 66 (hdC ((countR 7 (s.1, s.2)).1, (countR 200 (countR 7 (s.1, s.2)).2).1, (numR (countR 200 (countR 7 (s.1, s.2)).2).2).1)) := by subst h25; exact hH24.seta 2 _
    have x25' : Ext (fun b => b = w12.heap.size) w24 w25 := by subst h25; exact (Ext.refl (fun b => b = w12.heap.size) w24).setCell (a := (blk w12.heap.size).add 2) (.inl (by rw [add_blk])) _
    have hR25 := W.Rd.up hR24 x25' (fun q hq => by omega)
    have hO25 := hO24.ext x25' hOH
    have x25 : Ext no w w25 := x24.then x25' fun q hq => .inr (by have := hx.size; omega)
    refine ⟨_, _, _, ⟨hH25.cella (i := 0) rfl, hH25.cella (i := 1) rfl, hH25.cella (i := 2) rfl, trivial⟩, Q00 fun w29 h29 => ?_⟩
    have x29' : Ext no w25 w29 := by subst h29; exact (Ext.refl _ _).alloc _
    have hb29 : Blk w29 w25.heap.size 66 (hdC ((countR 7 (s.1, s.2)).1, (countR 200 (countR 7 (s.1, s.2)).2).1, (numR (countR 200 (countR 7 (s.1, s.2)).2).2).1)) := by subst h29; exact Blk.new _ _ _
    have x29 := x25.trans x29'
    have hO29 := hO25.ext x29' (fun _ _ h => h)
    obtain ⟨a', c', w31, hrun, hO31, x31', hblk⟩ := hO29.push (ty := 36) Try.underlying36 (by have := W.Rd.lt hR25; have := x29'.size; omega) (by omega) (RowAt.of_blk hb29)
    have hlast : w25.heap.size + 1 = w29.heap.size := by subst h29; simp
    have hpl : p < w25.heap.size := W.Rd.lt hR25
    have hR29 := W.Rd.no hR25 x29'
    -- the append turns the row of the heads, or makes another
    have hR31 : Rd w31 p (numR (countR 200 (countR 7 (s.1, s.2)).2).2).2.1 (numR (countR 200 (countR 7 (s.1, s.2)).2).2).2.2  := W.Rd.up hR29 x31' fun q hq => by have := hq.1; omega
    refine ⟨a', _, c', w31, hrun, k, by omega, t + 1, a', c', _, (numR (countR 200 (countR 7 (s.1, s.2)).2).2).2, ?_, by omega, ?_, hR31, by omega, hO31, fun ad ha => ?_, hF, x29.then x31' fun q hq => .inr (by have := hq.1; omega)⟩
    · rw [w64 (by omega) (by omega), List.length_append]; rfl
    · rw [List.length_append]; simp; omega
    · rcases hblk ad ha with ⟨b0, hb0, e0⟩ | h
      · rw [e0]; exact hOp b0 hb0
      · omega

theorem eqf_step {P : Program} {w : World} {d : Nat} {xs ys : Array Value} {f : Field} {fs : List Field} {a b : Value} {r : Bool} (n : f.name ≠ "_") (qa : (part f.type xs f.offset).run P w = .ok a w) (qb : (part f.type ys f.offset).run P w = .ok b w) (he : (Op.equalIn d f.type a b).run P w = .ok r w) :
    (Op.eqFields d xs ys (f :: fs)).run P w = if r then (Op.eqFields d xs ys fs).run P w else .ok false w := by
  simp only [Op.eqFields, n, ne_eq, not_false_eq_true, if_true, Sem.run_bind, qa, qb, he, Result.andThen_ok]
  cases r <;> simp
theorem sameB_spec {a b : Option Addr} {c d : Nat} {x y : List UInt8} (ha : RowAt w a (bytesV x)) (hb : RowAt w b (bytesV y)) (hx : x.length < 1000000) :
    Calls Try.prog 11 #[.slice a x.length c, .slice b y.length d] w (GivesV (.bool (decide (x = y))) fun w' => Ext no w w') := by
  refine (wSame.ok _ _ _ _ _ _ (R := fun v w' => v = .bool (decide (x = y)) ∧ Ext no w w') ?_).mono fun e w' ⟨v, he, hv, hw⟩ => ⟨by rw [he, hv], hw⟩
  unfold wSame.M
  by_cases hl : x.length = y.length
  · have hl' : ((x.length : Int) != (y.length : Int)) = false := by simp [hl]
    rw [hl', cond_false]
    refine ⟨fun k vs w1 => ∃ i : Nat, vs = [.int .i64 i] ∧ k = x.length - i ∧ i ≤ x.length ∧ x.take i = y.take i ∧ Ext no w w1, x.length, ⟨0, rfl, rfl, Nat.zero_le _, rfl, Ext.refl _ _⟩, ?_⟩
    rintro k w1 i3 ⟨i, hi, rfl, hle, ht, hw⟩
    simp only [List.cons.injEq, Value.int.injEq, true_and, and_true] at hi
    subst hi
    by_cases hlt : i < x.length
    · have hd : decide ((i : Int) < (x.length : Int)) = true := by simp [hlt]
      rw [hd, cond_true]
      refine Q00 fun w7 h7 => ?_
      have hw7 : Ext no w w7 := hw.trans (by subst h7; exact (Ext.refl _ _).drew)
      have hi2 : i < y.length := hl ▸ hlt
      have hax := ha.ext hw7 (fun _ _ h => h)
      have hby := hb.ext hw7 (fun _ _ h => h)
      obtain ⟨ad, rfl⟩ := hax.addr (by intro e; rw [bytesV, List.map_eq_nil_iff] at e; subst e; simp at hlt)
      obtain ⟨bd, rfl⟩ := hby.addr (by intro e; rw [bytesV, List.map_eq_nil_iff] at e; subst e; simp at hi2)
      refine ⟨by omega, by omega, x[i].toNat, ?_, by omega, by omega, y[i].toNat, ?_, ?_⟩
      · rw [show Int.toNat (i : Int) * 1 = i by omega]; exact hax.at_ (Q0W hlt)
      · rw [show Int.toNat (i : Int) * 1 = i by omega]; exact hby.at_ (Q0W hi2)
      · by_cases he : x[i] = y[i]
        · have h1 : ((x[i].toNat : Int) != (y[i].toNat : Int)) = false := by simp [he]
          rw [h1, cond_false]
          refine ⟨x.length - (i + 1), by omega, i + 1, by rw [w64 (by omega) (by omega)]; rfl, rfl, by omega, ?_, hw7⟩
          rw [List.take_add_one, List.take_add_one, ht]; simp [hlt, hi2, he]
        · have h1 : ((x[i].toNat : Int) != (y[i].toNat : Int)) = true := by
            simp only [bne_iff_ne, ne_eq, Int.natCast_inj, UInt8.toNat_inj]; exact he
          rw [h1, cond_true]
          exact ⟨by rw [decide_eq_false]; rintro rfl; exact he rfl, hw7⟩
    · have hd : decide ((i : Int) < (x.length : Int)) = false := by simp; omega
      rw [hd, cond_false]
      obtain rfl : i = x.length := by omega
      refine ⟨?_, hw⟩
      have : x = y := by
        rw [List.take_length] at ht
        rw [hl, List.take_length] at ht
        exact ht
      simp [this]
  · have hl' : ((x.length : Int) != (y.length : Int)) = true := by simp; omega
    rw [hl', cond_true]
    exact ⟨by rw [decide_eq_false]; rintro rfl; exact hl rfl, Ext.refl _ _⟩
end

/-! ### the plain law: what is written is read, and what is read is what was written -/
theorem numR_write {n : Nat} (h : n < 18446744073709551616) (r : List UInt8) : numR (numL n ++ r, 0) = (n, (r, 0)) := by
  unfold numR; rw [if_pos rfl, rd_num h]
theorem countR_write {n : Nat} {m : Int} (h : n < 18446744073709551616) (hm : (n : Int) ≤ m) (r : List UInt8) : countR m (numL n ++ r, 0) = (n, (r, 0)) := by
  unfold countR
  rw [numR_write h, if_pos rfl, if_neg (by show ¬ (m < 0 ∨ (n : Int) > m); omega)]
theorem Q2C {s : List UInt8 × Int} (h : s.2 ≠ 0) : (numR s).2.2 ≠ 0 := by
  unfold numR; rw [if_neg h]; exact h
theorem Q1C {s : List UInt8 × Int} (h : (numR s).2.2 = 0) : s.2 = 0 ∧ s.1 = numL (numR s).1 ++ (numR s).2.1 := by
  have h0 : s.2 = 0 := Decidable.byContradiction fun e => Q2C e h
  refine ⟨h0, ?_⟩
  unfold numR at h ⊢
  rw [if_pos h0] at h ⊢
  cases hr : rdNum s.1 with
  | none => rw [hr] at h; exact absurd h (by decide)
  | some q => obtain ⟨n, r⟩ := q; exact (rd_back hr).1
theorem Q19 {m : Int} {s : List UInt8 × Int} (h : (countR m s).2.2 = 0) : s.2 = 0 ∧ s.1 = numL (countR m s).1 ++ (countR m s).2.1 := by
  unfold countR at h ⊢
  by_cases h1 : (numR s).2.2 = 0
  · rw [if_pos h1] at h ⊢
    by_cases h2 : m < 0 ∨ ((numR s).1 : Int) > m
    · rw [if_pos h2] at h; exact absurd h (by decide)
    · rw [if_neg h2]; exact Q1C h1
  · rw [if_neg h1] at h; exact absurd h h1
theorem Q2r : ∀ (hs l : List Hd), (∀ h ∈ hs, rhead h = true ∧ 0 ≤ h.2.2 ∧ h.2.2 < 18446744073709551616) → readF hs.length l (hs.flatMap hdL, 0) = (l ++ hs, ([], 0))
  | [], l, _ => by simp [readF]
  | h :: r, l, hh => by
    obtain ⟨h1, h2, h3⟩ := hh h List.mem_cons_self
    simp only [rhead, Bool.and_eq_true, decide_eq_true_eq] at h1
    obtain ⟨a1, a2, a3, a4, _⟩ := h1
    simp only [List.length_cons, readF, List.flatMap_cons, hdL, List.append_assoc]
    rw [countR_write (by omega) (by omega), countR_write (by omega) (by omega), numR_write (by omega)]
    have he : (((h.1.toNat : Nat) : Int), ((h.2.1.toNat : Nat) : Int), ((h.2.2.toNat : Nat) : Int)) = h := by
      obtain ⟨x, y, z⟩ := h
      simp only at *
      rw [Int.toNat_of_nonneg (by omega), Int.toNat_of_nonneg (by omega), Int.toNat_of_nonneg (by omega)]
    simp only []
    rw [he, Q2r r (l ++ [h]) fun q hq => hh q (List.mem_cons_of_mem _ hq)]
    simp
theorem Q2l : ∀ (n : Nat) (l : List Hd) (s : List UInt8 × Int), (readF n l s).2.2 = 0 → s.2 = 0 ∧ ∃ hs : List Hd, (readF n l s).1 = l ++ hs ∧ hs.length = n ∧ s.1 = hs.flatMap hdL ++ (readF n l s).2.1 ∧ ∀ h ∈ hs, natH h
  | 0, l, s, h => ⟨h, [], by simp [readF], rfl, rfl, by simp⟩
  | n + 1, l, s, h => by
    simp only [readF] at h ⊢
    obtain ⟨k3, hs, e1, e2, e3, e4⟩ := Q2l n _ _ h
    obtain ⟨k2, f2⟩ := Q1C k3
    obtain ⟨k1, f1⟩ := Q19 k2
    obtain ⟨k0, f0⟩ := Q19 k1
    have l1 := Q1V 7 s (by decide)
    have l2 := Q1V 200 (countR 7 s).2 (by decide)
    have l3 := W.numR_lt (countR 200 (countR 7 s).2).2
    refine ⟨k0, _ :: hs, by rw [e1, List.append_assoc]; rfl, by rw [List.length_cons, e2], ?_, fun q hq => ?_⟩
    · rw [f0, f1, f2, e3]
      simp [hdL]
    · rcases List.mem_cons.1 hq with rfl | hq
      · refine ⟨?_, ?_, ?_, ?_, ?_, ?_⟩ <;> first | omega | (dsimp only; omega)
      · exact e4 q hq
theorem Q2b {hs : List Hd} (h : rightV hs = true) : hs.length ≤ 8 := by
  by_cases h0 : hs.length = 0
  · omega
  have key : ∀ i (hi : i < hs.length), (i : Int) ≤ hs[i].1 := by
    intro i
    induction i with
    | zero =>
      intro hi
      have := Q0X h hs[0] (List.getElem_mem hi)
      simp only [rhead, Bool.and_eq_true, decide_eq_true_eq] at this
      have := this.1
      omega
    | succ i ih =>
      intro hi
      have h1 := ih (by omega)
      have h2 := Q3P hs h (i := i) (j := i + 1) (by omega) (List.getElem?_eq_getElem (by omega)) (List.getElem?_eq_getElem hi)
      omega
  have h1 := key (hs.length - 1) (by omega)
  have := Q0X h hs[hs.length - 1] (List.getElem_mem (by omega))
  simp only [rhead, Bool.and_eq_true, decide_eq_true_eq] at this
  have := this.2.1
  omega
theorem Q27 {hs : List Hd} (h : rightV hs = true) (hf : ∀ h ∈ hs, 0 ≤ h.2.2 ∧ h.2.2 < 18446744073709551616) : readV (vecL hs) = (hs, 0) := by
  have hl := Q2b h
  have hra : readAll (vecL hs) = (hs, ([], 0)) := by
    unfold readAll vecL
    rw [countR_write (by omega) (by omega)]
    show readF hs.length [] (hs.flatMap hdL, 0) = _
    rw [Q2r hs [] fun q hq => ⟨Q0X h q hq, hf q hq⟩]
    simp
  unfold readV
  rw [hra]
  simp [doneR, h]
theorem Q3B {b : List UInt8} (h : (readV b).2 = 0) : rightV (readV b).1 = true ∧ vecL (readV b).1 = b ∧ ∀ q ∈ (readV b).1, natH q := by
  unfold readV at h ⊢
  by_cases hd : doneR (readAll b).2 ≠ 0
  · rw [if_pos hd] at h; exact absurd h hd
  rw [if_neg hd] at h ⊢
  by_cases hr : rightV (readAll b).1 = true
  · rw [if_pos hr]
    have hd := Decidable.not_not.1 hd
    have hk : (readAll b).2.2 = 0 ∧ (readAll b).2.1 = [] := by
      unfold doneR at hd
      by_cases h0 : (readAll b).2.2 = 0
      · rw [if_pos h0] at hd
        refine ⟨h0, ?_⟩
        by_cases h1 : (readAll b).2.1.length > 0
        · rw [if_pos h1] at hd; exact absurd hd (by decide)
        · exact List.eq_nil_of_length_eq_zero (by omega)
      · rw [if_neg h0] at hd; exact absurd hd h0
    obtain ⟨k0, hs, e1, e2, e3, e4⟩ := Q2l (countR 8 (b, 0)).1 [] (countR 8 (b, 0)).2 hk.1
    obtain ⟨_, f0⟩ := Q19 k0
    rw [List.nil_append] at e1
    have e1' : (readAll b).1 = hs := e1
    refine ⟨hr, ?_, fun q hq => e4 q (by rw [← e1']; exact hq)⟩
    rw [e1', vecL, e2]
    have e3' : (countR 8 (b, 0)).2.1 = hs.flatMap hdL ++ (readAll b).2.1 := e3
    rw [hk.2, List.append_nil] at e3'
    rw [← e3']
    exact f0.symm
  · rw [if_neg hr] at h; exact absurd h (by decide)
theorem Q3s {b : List UInt8} (h : (readV b).2 ≠ 0) : (readV b).1 = [] := by
  unfold readV at h ⊢
  by_cases hd : doneR (readAll b).2 ≠ 0
  · rw [if_pos hd]
  · rw [if_neg hd] at h ⊢
    by_cases hr : rightV (readAll b).1 = true
    · rw [if_pos hr] at h; exact absurd rfl h
    · rw [if_neg hr]
end Go.Proofs.Ytoempemllkebkaa
namespace Go.Proofs.Ytoempemllkebkaa
open Go Go.Mx Go.Proofs
open W (OwnB Rd GivesW numR countR doneR)
section
variable {w w' : World} {a : Option Addr} {c : Nat} {hs : List Hd}
end
end Go.Proofs.Ytoempemllkebkaa
set_option maxHeartbeats 4000000
namespace Go.Proofs.Ytoempemllkebkaa
open Go Go.Mx Go.Proofs
open W (OwnB Rd RdR GivesW numR countR doneR zig unzig intR)
def Q0B.M (af an av ay az ao : Int) (aq : Option Addr) (ar ap : Nat) (ax : Int) (aw : Bool) (R : RW) (w : World) : Prop :=
 thenW (w.alloc (.cells #[.int .i64 af, .int .i64 an, .int .u64 av, .int .i64 ay, .int .i64 az, .int .i64 ao, .slice aq ar ap, .int .u64 ax] 27)) fun au =>
 bif aw then (
 ∃ (a0 a6 ac am ag a7 : Int) (a5 : Option Addr) (a8 ab : Nat) (ak : Int), cellsAt au (blk w.heap.size) [.int .i64 a0, .int .i64 a6, .int .u64 ac, .int .i64 am, .int .i64 ag, .int .i64 a7, .slice a5 a8 ab, .int .u64 ak] 0 ∧
 Calls Try.prog 62 #[.agg #[.int .i64 a0, .int .i64 a6, .int .u64 ac, .int .i64 am, .int .i64 ag, .int .i64 a7, .slice a5 a8 ab, .int .u64 ak]] au fun b2 b0 => ∃ (ad : Bool), b2 = .returned (.bool ad) ∧
 R (.bool ad) b0) else (
 ∃ (a1 a9 ae al ah a3 : Int) (a4 : Option Addr) (a2 aa : Nat) (ai : Int), cellsAt au (blk w.heap.size) [.int .i64 a1, .int .i64 a9, .int .u64 ae, .int .i64 al, .int .i64 ah, .int .i64 a3, .slice a4 a2 aa, .int .u64 ai] 0 ∧
 Calls Try.prog 30 #[.agg #[.int .i64 a1, .int .i64 a9, .int .u64 ae, .int .i64 al, .int .i64 ah, .int .i64 a3, .slice a4 a2 aa, .int .u64 ai], .agg #[.int .i64 0, .int .i64 0, .int .u64 0, .int .i64 0, .int .i64 0, .int .i64 0, .slice none 0 0, .int .u64 0]] au fun b3 b1 => ∃ (aj : Bool), b3 = .returned (.bool aj) ∧
 R (.bool aj) b1)

theorem Q0B.ok (a0 a2 a6 a9 aa a5 : Int) (a1 : Option Addr) (a3 a4 : Nat) (a8 : Int) (a7 : Bool) {R : RW} {w : World} (h : Q0B.M a0 a2 a6 a9 aa a5 a1 a3 a4 a8 a7 R w) : Calls Try.prog 37 #[.agg #[.int .i64 a0, .int .i64 a2, .int .u64 a6, .int .i64 a9, .int .i64 aa, .int .i64 a5, .slice a1 a3 a4, .int .u64 a8], .bool a7] w fun e w' => ∃ v, e = .returned v ∧ R v w' :=
  Q0b follows (H := []) (args := [.agg #[.int .i64 a0, .int .i64 a2, .int .u64 a6, .int .i64 a9, .int .i64 aa, .int .i64 a5, .slice a1 a3 a4, .int .u64 a8], .bool a7]) (cast (by kernel_rfl) h)

def Q0B.N (a0 a5 a7 aa ab a4 : Int) (a1 : Option Addr) (a2 a3 : Nat) (a9 : Int) (a8 : Bool) (R : RW) (w : World) : Prop :=
 (a8 = true →
 ∀ (ac : World), Ext no w ac →
 R (.bool (Q07.F a0 a5 a7 aa ab a4 a1 a2 a3 a9)) ac) ∧
 (a8 = false →
 ∀ (ad : World), Ext no w ad →
 Calls Try.prog 30 #[.agg #[.int .i64 a0, .int .i64 a5, .int .u64 a7, .int .i64 aa, .int .i64 ab, .int .i64 a4, .slice a1 a2 a3, .int .u64 a9], .agg #[.int .i64 0, .int .i64 0, .int .u64 0, .int .i64 0, .int .i64 0, .int .i64 0, .slice none 0 0, .int .u64 0]] ad fun af ae => ∃ (a6 : Bool), af = .returned (.bool a6) ∧
 R (.bool a6) ae)

theorem Q0B.up (a0 a1 a6 a8 a9 a2 : Int) (a4 : Option Addr) (a5 a3 : Nat) (a7 : Int) (ab : Bool) {R : RW} {w : World} (h : Q0B.N a0 a1 a6 a8 a9 a2 a4 a5 a3 a7 ab R w) : Q0B.M a0 a1 a6 a8 a9 a2 a4 a5 a3 a7 ab R w := by
  unfold Q0B.M
  unfold Q0B.N at h
  refine Q00 fun ag ah => ?_
  have aa := Blk.of_new ah
  have ak := ((Ext.refl no w)).size
  have ad := (Ext.refl no w).x_alloc ah
  refine bif_of (fun ae => ?_) (fun ae => ?_)
  ·have h := h.1 ae
   refine ⟨a0, a1, a6, a8, a9, a2, a4, a5, a3, a7, ⟨aa.celli 0 rfl rfl, aa.celli 1 rfl rfl, aa.celli 2 rfl rfl, aa.celli 3 rfl rfl, aa.celli 4 rfl rfl, aa.celli 5 rfl rfl, aa.celli 6 rfl rfl, aa.celli 7 rfl rfl, trivial⟩, ?_⟩
   refine (Q07.pure a0 a1 a6 a8 a9 a2 a4 a5 a3 a7).mono fun ee ww12 ⟨he, hxx⟩ => ⟨(Q07.F a0 a1 a6 a8 a9 a2 a4 a5 a3 a7), he, ?_⟩
   have af := ad.trans hxx
   have h := h ww12 af
   exact h
  have h := h.2 ae
  refine ⟨a0, a1, a6, a8, a9, a2, a4, a5, a3, a7, ⟨aa.celli 0 rfl rfl, aa.celli 1 rfl rfl, aa.celli 2 rfl rfl, aa.celli 3 rfl rfl, aa.celli 4 rfl rfl, aa.celli 5 rfl rfl, aa.celli 6 rfl rfl, aa.celli 7 rfl rfl, trivial⟩, ?_⟩
  have h := h ag ad
  refine h.mono fun ai aj h => ?_
  obtain ⟨ac, he, h⟩ := h
  refine ⟨ac, he, ?_⟩
  exact h

theorem Q0B.go (a0 a2 a6 a9 aa a5 : Int) (a1 : Option Addr) (a3 a4 : Nat) (a8 : Int) (a7 : Bool) {R : RW} {w : World} (h : Q0B.N a0 a2 a6 a9 aa a5 a1 a3 a4 a8 a7 R w) : Calls Try.prog 37 #[.agg #[.int .i64 a0, .int .i64 a2, .int .u64 a6, .int .i64 a9, .int .i64 aa, .int .i64 a5, .slice a1 a3 a4, .int .u64 a8], .bool a7] w fun e w' => ∃ v, e = .returned v ∧ R v w' := Q0B.ok a0 a2 a6 a9 aa a5 a1 a3 a4 a8 a7 (Q0B.up a0 a2 a6 a9 aa a5 a1 a3 a4 a8 a7 h)
theorem Q0B.run (a0 a2 a6 a9 aa a5 : Int) (a1 : Option Addr) (a3 a4 : Nat) (a8 : Int) (a7 : Bool) {V : Value} {Q : World → Prop} {w : World} (h : Q0B.N a0 a2 a6 a9 aa a5 a1 a3 a4 a8 a7 (fun v w' => v = V ∧ Q w') w) : Calls Try.prog 37 #[.agg #[.int .i64 a0, .int .i64 a2, .int .u64 a6, .int .i64 a9, .int .i64 aa, .int .i64 a5, .slice a1 a3 a4, .int .u64 a8], .bool a7] w (Ret V Q) := (Q0B.go a0 a2 a6 a9 aa a5 a1 a3 a4 a8 a7 h).mono fun e w' ⟨v, he, hv, hq⟩ => ⟨by rw [he, hv], hq⟩

def Q0q.M (cw b2 b9 c6 ct cv bn : Int) (bx : Option Addr) (c3 bl : Nat) (cs ar b3 be c9 c5 b0 : Int) (b5 : Option Addr) (b4 b1 : Nat) (c8 cu : Int) (cy : Option Addr) (d5 d7 : Nat) (cx : Int) (R : RW) (w : World) : Prop :=
 thenW (w.alloc (.cells #[.int .i64 cw, .int .i64 b2, .int .i64 b9, .int .u64 c6, .int .i64 ct, .int .i64 cv, .int .i64 bn, .slice bx c3 bl, .int .u64 cs, .int .i64 ar, .int .i64 b3, .int .u64 be, .int .i64 c9, .int .i64 c5, .int .i64 b0, .slice b5 b4 b1, .int .u64 c8, .int .i64 cu, .slice cy d5 d7, .int .u64 cx] 38)) fun aa =>
 ∃ (c2 : Int), aa.cell? ((blk w.heap.size).add 0) = some (.int .i64 c2) ∧
 bif decide (c2 < 1) then (
 R (.bool false) aa) else (
 ∃ (bk : Int), aa.cell? ((blk w.heap.size).add 0) = some (.int .i64 bk) ∧
 bif decide (bk > 4) then (
 R (.bool false) aa) else (
 ∃ (a2 a6 ab ap aq a5 : Int) (a3 : Option Addr) (a4 a7 : Nat) (ao : Int), cellsAt aa ((blk w.heap.size).add 1) [.int .i64 a2, .int .i64 a6, .int .u64 ab, .int .i64 ap, .int .i64 aq, .int .i64 a5, .slice a3 a4 a7, .int .u64 ao] 0 ∧
 ∃ (bv : Int), aa.cell? ((blk w.heap.size).add 0) = some (.int .i64 bv) ∧
 bif bv == 1 then (
 Calls Try.prog 37 #[.agg #[.int .i64 a2, .int .i64 a6, .int .u64 ab, .int .i64 ap, .int .i64 aq, .int .i64 a5, .slice a3 a4 a7, .int .u64 ao], .bool true] aa fun dg c4 => ∃ (c0 : Bool), dg = .returned (.bool c0) ∧
 bif !c0 then (
 R (.bool false) c4) else (
 ∃ (a8 ah ax b7 bm al : Int) (ac : Option Addr) (ag ak : Nat) (bu : Int), cellsAt c4 ((blk w.heap.size).add 9) [.int .i64 a8, .int .i64 ah, .int .u64 ax, .int .i64 b7, .int .i64 bm, .int .i64 al, .slice ac ag ak, .int .u64 bu] 0 ∧
 ∃ (bd : Int), c4.cell? ((blk w.heap.size).add 0) = some (.int .i64 bd) ∧
 Calls Try.prog 37 #[.agg #[.int .i64 a8, .int .i64 ah, .int .u64 ax, .int .i64 b7, .int .i64 bm, .int .i64 al, .slice ac ag ak, .int .u64 bu], .bool (bd == 4)] c4 fun dh a0 => ∃ (bs : Bool), dh = .returned (.bool bs) ∧
 bif !bs then (
 R (.bool false) a0) else (
 ∃ (ba : Int), a0.cell? ((blk w.heap.size).add 0) = some (.int .i64 ba) ∧
 bif ba != 2 then (
 ∃ (bi : Int), a0.cell? ((blk w.heap.size).add 0) = some (.int .i64 bi) ∧
 bif bi != 3 then (
 ∃ (cn : Int), a0.cell? ((blk w.heap.size).add 17) = some (.int .i64 cn) ∧
 bif cn == 0 then (
 ∃ (dn : Option Addr) (db dd : Nat), a0.cell? ((blk w.heap.size).add 18) = some (.slice dn db dd) ∧
 bif (db : Int) == 0 then (
 ∃ (ch : Int), a0.cell? ((blk w.heap.size).add 19) = some (.int .u64 ch) ∧
 R (.bool (ch == 0)) a0) else (
 R (.bool false) a0)) else (
 R (.bool false) a0)) else (
 ∃ (ck : Int), a0.cell? ((blk w.heap.size).add 17) = some (.int .i64 ck) ∧
 bif decide (ck ≥ 0) then (
 ∃ (ci : Int), a0.cell? ((blk w.heap.size).add 17) = some (.int .i64 ci) ∧
 bif decide (ci < 8) then (
 ∃ (d3 : Option Addr) (d9 d0 : Nat), a0.cell? ((blk w.heap.size).add 18) = some (.slice d3 d9 d0) ∧
 Calls Try.prog 38 #[.slice d3 d9 d0] a0 fun dk bc => ∃ (aw : Bool), dk = .returned (.bool aw) ∧
 bif aw then (
 ∃ (bb : Int), bc.cell? ((blk w.heap.size).add 0) = some (.int .i64 bb) ∧
 bif bb == 3 then (
 R (.bool true) bc) else (
 ∃ (ca : Int), bc.cell? ((blk w.heap.size).add 19) = some (.int .u64 ca) ∧
 R (.bool (ca == 0)) bc)) else (
 R (.bool false) bc)) else (
 R (.bool false) a0)) else (
 R (.bool false) a0))) else (
 ∃ (cj : Int), a0.cell? ((blk w.heap.size).add 17) = some (.int .i64 cj) ∧
 bif decide (cj ≥ 0) then (
 ∃ (cr : Int), a0.cell? ((blk w.heap.size).add 17) = some (.int .i64 cr) ∧
 bif decide (cr < 8) then (
 ∃ (da : Option Addr) (d1 cz : Nat), a0.cell? ((blk w.heap.size).add 18) = some (.slice da d1 cz) ∧
 Calls Try.prog 38 #[.slice da d1 cz] a0 fun dl bq => ∃ (ay : Bool), dl = .returned (.bool ay) ∧
 bif ay then (
 ∃ (bw : Int), bq.cell? ((blk w.heap.size).add 0) = some (.int .i64 bw) ∧
 bif bw == 3 then (
 R (.bool true) bq) else (
 ∃ (cb : Int), bq.cell? ((blk w.heap.size).add 19) = some (.int .u64 cb) ∧
 R (.bool (cb == 0)) bq)) else (
 R (.bool false) bq)) else (
 R (.bool false) a0)) else (
 R (.bool false) a0))))) else (
 ∃ (bg : Int), aa.cell? ((blk w.heap.size).add 0) = some (.int .i64 bg) ∧
 Calls Try.prog 37 #[.agg #[.int .i64 a2, .int .i64 a6, .int .u64 ab, .int .i64 ap, .int .i64 aq, .int .i64 a5, .slice a3 a4 a7, .int .u64 ao], .bool (bg == 4)] aa fun de c7 => ∃ (c1 : Bool), de = .returned (.bool c1) ∧
 bif !c1 then (
 R (.bool false) c7) else (
 ∃ (a9 ad av bo b6 ai : Int) (ae : Option Addr) (af an : Nat) (bf : Int), cellsAt c7 ((blk w.heap.size).add 9) [.int .i64 a9, .int .i64 ad, .int .u64 av, .int .i64 bo, .int .i64 b6, .int .i64 ai, .slice ae af an, .int .u64 bf] 0 ∧
 ∃ (b8 : Int), c7.cell? ((blk w.heap.size).add 0) = some (.int .i64 b8) ∧
 Calls Try.prog 37 #[.agg #[.int .i64 a9, .int .i64 ad, .int .u64 av, .int .i64 bo, .int .i64 b6, .int .i64 ai, .slice ae af an, .int .u64 bf], .bool (b8 == 4)] c7 fun dj a1 => ∃ (bz : Bool), dj = .returned (.bool bz) ∧
 bif !bz then (
 R (.bool false) a1) else (
 ∃ (bt : Int), a1.cell? ((blk w.heap.size).add 0) = some (.int .i64 bt) ∧
 bif bt != 2 then (
 ∃ (br : Int), a1.cell? ((blk w.heap.size).add 0) = some (.int .i64 br) ∧
 bif br != 3 then (
 ∃ (cm : Int), a1.cell? ((blk w.heap.size).add 17) = some (.int .i64 cm) ∧
 bif cm == 0 then (
 ∃ (df : Option Addr) (d4 dm : Nat), a1.cell? ((blk w.heap.size).add 18) = some (.slice df d4 dm) ∧
 bif (d4 : Int) == 0 then (
 ∃ (cp : Int), a1.cell? ((blk w.heap.size).add 19) = some (.int .u64 cp) ∧
 R (.bool (cp == 0)) a1) else (
 R (.bool false) a1)) else (
 R (.bool false) a1)) else (
 ∃ (cq : Int), a1.cell? ((blk w.heap.size).add 17) = some (.int .i64 cq) ∧
 bif decide (cq ≥ 0) then (
 ∃ (cl : Int), a1.cell? ((blk w.heap.size).add 17) = some (.int .i64 cl) ∧
 bif decide (cl < 8) then (
 ∃ (d2 : Option Addr) (d8 d6 : Nat), a1.cell? ((blk w.heap.size).add 18) = some (.slice d2 d8 d6) ∧
 Calls Try.prog 38 #[.slice d2 d8 d6] a1 fun di bh => ∃ (az : Bool), di = .returned (.bool az) ∧
 bif az then (
 ∃ (bj : Int), bh.cell? ((blk w.heap.size).add 0) = some (.int .i64 bj) ∧
 bif bj == 3 then (
 R (.bool true) bh) else (
 ∃ (cc : Int), bh.cell? ((blk w.heap.size).add 19) = some (.int .u64 cc) ∧
 R (.bool (cc == 0)) bh)) else (
 R (.bool false) bh)) else (
 R (.bool false) a1)) else (
 R (.bool false) a1))) else (
 ∃ (cg : Int), a1.cell? ((blk w.heap.size).add 17) = some (.int .i64 cg) ∧
 bif decide (cg ≥ 0) then (
 ∃ (cd : Int), a1.cell? ((blk w.heap.size).add 17) = some (.int .i64 cd) ∧
 bif decide (cd < 8) then (
 ∃ (co : Option Addr) (cf ce : Nat), a1.cell? ((blk w.heap.size).add 18) = some (.slice co cf ce) ∧
 Calls Try.prog 38 #[.slice co cf ce] a1 fun dc am => ∃ (aj : Bool), dc = .returned (.bool aj) ∧
 bif aj then (
 ∃ (au : Int), am.cell? ((blk w.heap.size).add 0) = some (.int .i64 au) ∧
 bif au == 3 then (
 R (.bool true) am) else (
 ∃ (bp : Int), am.cell? ((blk w.heap.size).add 19) = some (.int .u64 bp) ∧
 R (.bool (bp == 0)) am)) else (
 R (.bool false) am)) else (
 R (.bool false) a1)) else (
 R (.bool false) a1)))))))

theorem Q0q.ok (ah a4 a9 af ai am a8 : Int) (aa : Option Addr) (ab a7 : Nat) (aj a0 a5 ac ag ae a2 : Int) (a6 : Option Addr) (a3 a1 : Nat) (ad al : Int) (an : Option Addr) (ao ap : Nat) (ak : Int) {R : RW} {w : World} (h : Q0q.M ah a4 a9 af ai am a8 aa ab a7 aj a0 a5 ac ag ae a2 a6 a3 a1 ad al an ao ap ak R w) : Calls Try.prog 16 #[.agg #[.int .i64 ah, .int .i64 a4, .int .i64 a9, .int .u64 af, .int .i64 ai, .int .i64 am, .int .i64 a8, .slice aa ab a7, .int .u64 aj, .int .i64 a0, .int .i64 a5, .int .u64 ac, .int .i64 ag, .int .i64 ae, .int .i64 a2, .slice a6 a3 a1, .int .u64 ad, .int .i64 al, .slice an ao ap, .int .u64 ak]] w fun e w' => ∃ v, e = .returned v ∧ R v w' :=
  Q0b follows (H := []) (args := [.agg #[.int .i64 ah, .int .i64 a4, .int .i64 a9, .int .u64 af, .int .i64 ai, .int .i64 am, .int .i64 a8, .slice aa ab a7, .int .u64 aj, .int .i64 a0, .int .i64 a5, .int .u64 ac, .int .i64 ag, .int .i64 ae, .int .i64 a2, .slice a6 a3 a1, .int .u64 ad, .int .i64 al, .slice an ao ap, .int .u64 ak]]) (cast (by kernel_rfl) h)

def Q0q.N (a0 a7 ah aq aw ax ag : Int) (ai : Option Addr) (aj af : Nat) (ay a4 a9 ae au ap a5 : Int) (aa : Option Addr) (a6 ab : Nat) (ar a1 : Int) (b1 : Option Addr) (a8 b2 : Nat) (al : Int) (R : RW) (w : World) : Prop :=
 (a0 < 1 →
 ∀ (a2 : World), Ext no w a2 →
 R (.bool false) a2) ∧
 ((1 : Int) ≤ a0 →
 (a0 > 4 →
 ∀ (a2 : World), Ext no w a2 →
 R (.bool false) a2) ∧
 (a0 ≤ 4 →
 (a0 = 1 →
 ∀ (a2 : World) (b6 : Nat), Ext no w a2 → Priv w a2 [b6] →
 Calls Try.prog 37 #[.agg #[.int .i64 a7, .int .i64 ah, .int .u64 aq, .int .i64 aw, .int .i64 ax, .int .i64 ag, .slice ai aj af, .int .u64 ay], .bool true] a2 fun b8 az => ∃ (am : Bool), b8 = .returned (.bool am) ∧
 Keep [b6] a2 az ∧
 (am = false →
 R (.bool false) az) ∧
 (am = true →
 Calls Try.prog 37 #[.agg #[.int .i64 a4, .int .i64 a9, .int .u64 ae, .int .i64 au, .int .i64 ap, .int .i64 a5, .slice aa a6 ab, .int .u64 ar], .bool (a0 == 4)] az fun ba av => ∃ (ak : Bool), ba = .returned (.bool ak) ∧
 Keep [b6] az av ∧
 (ak = false →
 R (.bool false) av) ∧
 (ak = true →
 (a1 = 0 →
 ((a8 : Int) = 0 →
 R (.bool (al == 0)) av) ∧
 ((a8 : Int) ≠ 0 →
 R (.bool false) av)) ∧
 (a1 ≠ 0 →
 R (.bool false) av)))) ∧
 (a0 ≠ 1 →
 ∀ (a2 : World) (b5 : Nat), Ext no w a2 → Priv w a2 [b5] →
 Calls Try.prog 37 #[.agg #[.int .i64 a7, .int .i64 ah, .int .u64 aq, .int .i64 aw, .int .i64 ax, .int .i64 ag, .slice ai aj af, .int .u64 ay], .bool (a0 == 4)] a2 fun bc b0 => ∃ (ao : Bool), bc = .returned (.bool ao) ∧
 Keep [b5] a2 b0 ∧
 (ao = false →
 R (.bool false) b0) ∧
 (ao = true →
 Calls Try.prog 37 #[.agg #[.int .i64 a4, .int .i64 a9, .int .u64 ae, .int .i64 au, .int .i64 ap, .int .i64 a5, .slice aa a6 ab, .int .u64 ar], .bool (a0 == 4)] b0 fun b7 a3 => ∃ (an : Bool), b7 = .returned (.bool an) ∧
 Keep [b5] b0 a3 ∧
 (an = false →
 R (.bool false) a3) ∧
 (an = true →
 (a0 ≠ 2 →
 (a0 ≠ 3 →
 (a1 = 0 →
 ((a8 : Int) = 0 →
 R (.bool (al == 0)) a3) ∧
 ((a8 : Int) ≠ 0 →
 R (.bool false) a3)) ∧
 (a1 ≠ 0 →
 R (.bool false) a3)) ∧
 (a0 = 3 →
 (a1 ≥ 0 →
 (a1 < 8 →
 Calls Try.prog 38 #[.slice b1 a8 b2] a3 fun b9 b3 => ∃ (ad : Bool), b9 = .returned (.bool ad) ∧
 Keep [b5] a3 b3 ∧
 (ad = true →
 R (.bool true) b3) ∧
 (ad = false →
 R (.bool false) b3)) ∧
 ((8 : Int) ≤ a1 →
 R (.bool false) a3)) ∧
 (a1 < 0 →
 R (.bool false) a3))) ∧
 (a0 = 2 →
 (a1 ≥ 0 →
 (a1 < 8 →
 Calls Try.prog 38 #[.slice b1 a8 b2] a3 fun bb b4 => ∃ (ac : Bool), bb = .returned (.bool ac) ∧
 Keep [b5] a3 b4 ∧
 (ac = true →
 R (.bool (al == 0)) b4) ∧
 (ac = false →
 R (.bool false) b4)) ∧
 ((8 : Int) ≤ a1 →
 R (.bool false) a3)) ∧
 (a1 < 0 →
 R (.bool false) a3)))))))

theorem Q0q.up (a1 aa ah an ao ap ag : Int) (aj : Option Addr) (ae af : Nat) (aq a2 a7 a9 ab ac a5 : Int) (a8 : Option Addr) (a6 a4 : Nat) (ad a3 : Int) (ak : Option Addr) (al am : Nat) (ai : Int) {R : RW} {w : World} (h : Q0q.N a1 aa ah an ao ap ag aj ae af aq a2 a7 a9 ab ac a5 a8 a6 a4 ad a3 ak al am ai R w) : Q0q.M a1 aa ah an ao ap ag aj ae af aq a2 a7 a9 ab ac a5 a8 a6 a4 ad a3 ak al am ai R w := by
  unfold Q0q.M
  unfold Q0q.N at h
  refine Q00 fun ar bk => ?_
  have a0 := Blk.of_new bk
  have bl := ((Ext.refl no w)).size
  have av := (Ext.refl no w).x_alloc bk
  refine ⟨a1, a0.celli 0 rfl rfl, ?_⟩
  refine bif_of (fun bc => ?_) (fun bc => ?_)
  ·have h := h.1 (of_decide_eq_true bc)
   have h := h ar av
   exact h
  have h := h.2 (Int.not_lt.1 (of_decide_eq_false bc))
  refine ⟨a1, a0.celli 0 rfl rfl, ?_⟩
  refine bif_of (fun b7 => ?_) (fun b7 => ?_)
  ·have h := h.1 (of_decide_eq_true b7)
   have h := h ar av
   exact h
  have h := h.2 (Int.not_lt.1 (of_decide_eq_false b7))
  refine ⟨aa, ah, an, ao, ap, ag, aj, ae, af, aq, ⟨a0.celli 1 rfl rfl, a0.celli 2 rfl rfl, a0.celli 3 rfl rfl, a0.celli 4 rfl rfl, a0.celli 5 rfl rfl, a0.celli 6 rfl rfl, a0.celli 7 rfl rfl, a0.celli 8 rfl rfl, trivial⟩, ?_⟩
  refine ⟨a1, a0.celli 0 rfl rfl, ?_⟩
  refine bif_of (fun b1 => ?_) (fun b1 => ?_)
  ·have h := h.1 (beq_t b1)
   have h := h ar (w.heap.size) av (Priv.cons bl a0.lt Priv.nil)
   refine h.mono fun bs bn h => ?_
   obtain ⟨ay, he, hk, h⟩ := h
   refine ⟨ay, he, ?_⟩
   have a0 := hk.blk a0 (by simp)
   refine bif_of (fun bg => ?_) (fun bg => ?_)
   ·have h := h.1 (not_t bg)
    exact h
   have h := h.2 (not_f bg)
   refine ⟨a2, a7, a9, ab, ac, a5, a8, a6, a4, ad, ⟨a0.celli 9 rfl rfl, a0.celli 10 rfl rfl, a0.celli 11 rfl rfl, a0.celli 12 rfl rfl, a0.celli 13 rfl rfl, a0.celli 14 rfl rfl, a0.celli 15 rfl rfl, a0.celli 16 rfl rfl, trivial⟩, ?_⟩
   refine ⟨a1, a0.celli 0 rfl rfl, ?_⟩
   refine h.mono fun bu bm h => ?_
   obtain ⟨ax, he, hk, h⟩ := h
   refine ⟨ax, he, ?_⟩
   have a0 := hk.blk a0 (by simp)
   refine bif_of (fun bd => ?_) (fun bd => ?_)
   ·have h := h.1 (not_t bd)
    exact h
   have h := h.2 (not_f bd)
   refine ⟨a1, a0.celli 0 rfl rfl, ?_⟩
   refine bif_tt (cong1 (r := true) (fun z => z != 2) (beq_t b1) (by decide)) ?_
   refine ⟨a1, a0.celli 0 rfl rfl, ?_⟩
   refine bif_tt (cong1 (r := true) (fun z => z != 3) (beq_t b1) (by decide)) ?_
   refine ⟨a3, a0.celli 17 rfl rfl, ?_⟩
   refine bif_fo (fun bj => ?_) (fun bj => ?_)
   ·have h := h.2 (beq_f bj)
    exact h
   have h := h.1 (beq_t bj)
   refine ⟨ak, al, am, a0.celli 18 rfl rfl, ?_⟩
   refine bif_fo (fun b5 => ?_) (fun b5 => ?_)
   ·have h := h.2 (beq_f b5)
    exact h
   have h := h.1 (beq_t b5)
   refine ⟨ai, a0.celli 19 rfl rfl, ?_⟩
   exact h
  have h := h.2 (beq_f b1)
  refine ⟨a1, a0.celli 0 rfl rfl, ?_⟩
  have h := h ar (w.heap.size) av (Priv.cons bl a0.lt Priv.nil)
  refine h.mono fun bw bx h => ?_
  obtain ⟨b0, he, hk, h⟩ := h
  refine ⟨b0, he, ?_⟩
  have a0 := hk.blk a0 (by simp)
  refine bif_of (fun be => ?_) (fun be => ?_)
  ·have h := h.1 (not_t be)
   exact h
  have h := h.2 (not_f be)
  refine ⟨a2, a7, a9, ab, ac, a5, a8, a6, a4, ad, ⟨a0.celli 9 rfl rfl, a0.celli 10 rfl rfl, a0.celli 11 rfl rfl, a0.celli 12 rfl rfl, a0.celli 13 rfl rfl, a0.celli 14 rfl rfl, a0.celli 15 rfl rfl, a0.celli 16 rfl rfl, trivial⟩, ?_⟩
  refine ⟨a1, a0.celli 0 rfl rfl, ?_⟩
  refine h.mono fun br bq h => ?_
  obtain ⟨az, he, hk, h⟩ := h
  refine ⟨az, he, ?_⟩
  have a0 := hk.blk a0 (by simp)
  refine bif_of (fun b8 => ?_) (fun b8 => ?_)
  ·have h := h.1 (not_t b8)
   exact h
  have h := h.2 (not_f b8)
  refine ⟨a1, a0.celli 0 rfl rfl, ?_⟩
  refine bif_fo (fun b2 => ?_) (fun b2 => ?_)
  ·have h := h.2 (bne_f b2)
   refine ⟨a3, a0.celli 17 rfl rfl, ?_⟩
   refine bif_fo (fun bb => ?_) (fun bb => ?_)
   ·have h := h.2 (Int.not_le.1 (of_decide_eq_false bb))
    exact h
   have h := h.1 (of_decide_eq_true bb)
   refine ⟨a3, a0.celli 17 rfl rfl, ?_⟩
   refine bif_fo (fun bh => ?_) (fun bh => ?_)
   ·have h := h.2 (Int.not_lt.1 (of_decide_eq_false bh))
    exact h
   have h := h.1 (of_decide_eq_true bh)
   refine ⟨ak, al, am, a0.celli 18 rfl rfl, ?_⟩
   refine h.mono fun bv bo h => ?_
   obtain ⟨au, he, hk, h⟩ := h
   refine ⟨au, he, ?_⟩
   have a0 := hk.blk a0 (by simp)
   refine bif_fo (fun b9 => ?_) (fun b9 => ?_)
   ·have h := h.2 b9
    exact h
   have h := h.1 b9
   refine ⟨a1, a0.celli 0 rfl rfl, ?_⟩
   refine bif_ff (cong1 (r := false) (fun z => z == 3) (bne_f b2) (by decide)) ?_
   refine ⟨ai, a0.celli 19 rfl rfl, ?_⟩
   exact h
  have h := h.1 (bne_t b2)
  refine ⟨a1, a0.celli 0 rfl rfl, ?_⟩
  refine bif_of (fun b3 => ?_) (fun b3 => ?_)
  ·have h := h.1 (bne_t b3)
   refine ⟨a3, a0.celli 17 rfl rfl, ?_⟩
   refine bif_fo (fun b6 => ?_) (fun b6 => ?_)
   ·have h := h.2 (beq_f b6)
    exact h
   have h := h.1 (beq_t b6)
   refine ⟨ak, al, am, a0.celli 18 rfl rfl, ?_⟩
   refine bif_fo (fun b4 => ?_) (fun b4 => ?_)
   ·have h := h.2 (beq_f b4)
    exact h
   have h := h.1 (beq_t b4)
   refine ⟨ai, a0.celli 19 rfl rfl, ?_⟩
   exact h
  have h := h.2 (bne_f b3)
  refine ⟨a3, a0.celli 17 rfl rfl, ?_⟩
  refine bif_fo (fun bi => ?_) (fun bi => ?_)
  ·have h := h.2 (Int.not_le.1 (of_decide_eq_false bi))
   exact h
  have h := h.1 (of_decide_eq_true bi)
  refine ⟨a3, a0.celli 17 rfl rfl, ?_⟩
  refine bif_fo (fun ba => ?_) (fun ba => ?_)
  ·have h := h.2 (Int.not_lt.1 (of_decide_eq_false ba))
   exact h
  have h := h.1 (of_decide_eq_true ba)
  refine ⟨ak, al, am, a0.celli 18 rfl rfl, ?_⟩
  refine h.mono fun bt bp h => ?_
  obtain ⟨aw, he, hk, h⟩ := h
  refine ⟨aw, he, ?_⟩
  have a0 := hk.blk a0 (by simp)
  refine bif_fo (fun bf => ?_) (fun bf => ?_)
  ·have h := h.2 bf
   exact h
  have h := h.1 bf
  refine ⟨a1, a0.celli 0 rfl rfl, ?_⟩
  refine bif_tt (cong1 (r := true) (fun z => z == 3) (bne_f b3) (by decide)) ?_
  exact h

theorem Q0q.go (ah a4 a9 af ai am a8 : Int) (aa : Option Addr) (ab a7 : Nat) (aj a0 a5 ac ag ae a2 : Int) (a6 : Option Addr) (a3 a1 : Nat) (ad al : Int) (an : Option Addr) (ao ap : Nat) (ak : Int) {R : RW} {w : World} (h : Q0q.N ah a4 a9 af ai am a8 aa ab a7 aj a0 a5 ac ag ae a2 a6 a3 a1 ad al an ao ap ak R w) : Calls Try.prog 16 #[.agg #[.int .i64 ah, .int .i64 a4, .int .i64 a9, .int .u64 af, .int .i64 ai, .int .i64 am, .int .i64 a8, .slice aa ab a7, .int .u64 aj, .int .i64 a0, .int .i64 a5, .int .u64 ac, .int .i64 ag, .int .i64 ae, .int .i64 a2, .slice a6 a3 a1, .int .u64 ad, .int .i64 al, .slice an ao ap, .int .u64 ak]] w fun e w' => ∃ v, e = .returned v ∧ R v w' := Q0q.ok ah a4 a9 af ai am a8 aa ab a7 aj a0 a5 ac ag ae a2 a6 a3 a1 ad al an ao ap ak (Q0q.up ah a4 a9 af ai am a8 aa ab a7 aj a0 a5 ac ag ae a2 a6 a3 a1 ad al an ao ap ak h)
theorem Q0q.run (ah a4 a9 af ai am a8 : Int) (aa : Option Addr) (ab a7 : Nat) (aj a0 a5 ac ag ae a2 : Int) (a6 : Option Addr) (a3 a1 : Nat) (ad al : Int) (an : Option Addr) (ao ap : Nat) (ak : Int) {V : Value} {Q : World → Prop} {w : World} (h : Q0q.N ah a4 a9 af ai am a8 aa ab a7 aj a0 a5 ac ag ae a2 a6 a3 a1 ad al an ao ap ak (fun v w' => v = V ∧ Q w') w) : Calls Try.prog 16 #[.agg #[.int .i64 ah, .int .i64 a4, .int .i64 a9, .int .u64 af, .int .i64 ai, .int .i64 am, .int .i64 a8, .slice aa ab a7, .int .u64 aj, .int .i64 a0, .int .i64 a5, .int .u64 ac, .int .i64 ag, .int .i64 ae, .int .i64 a2, .slice a6 a3 a1, .int .u64 ad, .int .i64 al, .slice an ao ap, .int .u64 ak]] w (Ret V Q) := (Q0q.go ah a4 a9 af ai am a8 aa ab a7 aj a0 a5 ac ag ae a2 a6 a3 a1 ad al an ao ap ak h).mono fun e w' ⟨v, he, hv, hq⟩ => ⟨by rw [he, hv], hq⟩

structure Fr where
  kd : Int
  e : Ent
  f : Ent
  who : Int
  v : List Hd
  sg : Int
deriving DecidableEq
def Fr.zero : Fr := ⟨0, Ent.zero, Ent.zero, 0, [], 0⟩
structure FP where
  r : Fr
  ea : Option Addr
  ec : Nat
  fa : Option Addr
  fc : Nat
  va : Option Addr
  vc : Nat
def FP.C (x : FP) : List Value := [.int .i64 x.r.kd, .int .i64 x.r.e.w, .int .i64 x.r.e.i, .int .u64 x.r.e.pv, .int .i64 x.r.e.t, .int .i64 x.r.e.tw, .int .i64 x.r.e.ep, .slice x.ea x.r.e.body.length x.ec, .int .u64 x.r.e.sg,
  .int .i64 x.r.f.w, .int .i64 x.r.f.i, .int .u64 x.r.f.pv, .int .i64 x.r.f.t, .int .i64 x.r.f.tw, .int .i64 x.r.f.ep, .slice x.fa x.r.f.body.length x.fc, .int .u64 x.r.f.sg, .int .i64 x.r.who, .slice x.va x.r.v.length x.vc, .int .u64 x.r.sg]
def FP.V (x : FP) : Value := .agg #[.int .i64 x.r.kd, .int .i64 x.r.e.w, .int .i64 x.r.e.i, .int .u64 x.r.e.pv, .int .i64 x.r.e.t, .int .i64 x.r.e.tw, .int .i64 x.r.e.ep, .slice x.ea x.r.e.body.length x.ec, .int .u64 x.r.e.sg,
  .int .i64 x.r.f.w, .int .i64 x.r.f.i, .int .u64 x.r.f.pv, .int .i64 x.r.f.t, .int .i64 x.r.f.tw, .int .i64 x.r.f.ep, .slice x.fa x.r.f.body.length x.fc, .int .u64 x.r.f.sg, .int .i64 x.r.who, .slice x.va x.r.v.length x.vc, .int .u64 x.r.sg]
structure FP.at (w : World) (x : FP) : Prop where
  e : RowAt w x.ea (bytesV x.r.e.body)
  f : RowAt w x.fa (bytesV x.r.f.body)
  v : RowAt w x.va (hsC x.r.v)
def frOK (x : Fr) : Bool :=
  if x.kd = 1 then Q0w x.e && (decide (x.f = Ent.zero) && (decide (x.who = 0) && (decide (x.v.length = 0) && decide (x.sg = 0))))
  else if x.kd = 2 then decide (x.e = Ent.zero) && (decide (x.f = Ent.zero) && (decide (0 ≤ x.who) && (decide (x.who < 8) && (rightV x.v && decide (x.sg = 0)))))
  else if x.kd = 3 then decide (x.e = Ent.zero) && (decide (x.f = Ent.zero) && (decide (0 ≤ x.who) && (decide (x.who < 8) && rightV x.v)))
  else if x.kd = 4 then Q0w x.e && (Q0w x.f && (decide (x.who = 0) && (decide (x.v.length = 0) && decide (x.sg = 0))))
  else false
def frSame (x y : Fr) : Bool := decide (x = y)
section
variable {w w' : World} {o o' : Own} {K : Nat → Prop} {x y : FP} {e f : Ent} {a : Option Addr} {c : Nat}
theorem FP.at.no (h : x.at w) (X : Ext no w w') : x.at w' := ⟨h.e.no X, h.f.no X, h.v.no X⟩
theorem beq_dz (s : Int) : (s == 0) = decide (s = 0) := by rw [Bool.eq_iff_iff]; simp
theorem Q1E (ha : RowAt w a (bytesV e.body)) (b : Bool) :
    Calls Try.prog 37 #[entV e a c, .bool b] w (Ret (.bool (if b then Q0w e else decide (e = Ent.zero))) fun w' => Ext no w w') := by
  refine Q0B.run e.w e.i e.pv e.t e.tw e.ep a e.body.length c e.sg b ?_
  unfold Q0B.N
  rw [Q1H]
  refine ⟨fun h w2 X => ⟨by rw [h]; rfl, X⟩, fun h w2 X => ?_⟩
  refine (Q1I (e := e) (f := Ent.zero) (b := none) (d := 0) (ha.no X) (RowAt.nil _ _)).mono fun v w3 ⟨hx, X3⟩ => ⟨_, hx, by rw [h]; rfl, X.trans X3⟩
theorem Q2e (h : x.at w) (hl : x.r.v.length < 1000000) : Calls Try.prog 16 #[x.V] w (Ret (.bool (frOK x.r)) fun w' => Ext no w w') := by
  obtain ⟨⟨kd, e, f, who, v, sg⟩, ea, ec, fa, fc, va, vc⟩ := x
  obtain ⟨he, hf, hv⟩ := h
  refine Q0q.run kd e.w e.i e.pv e.t e.tw e.ep ea e.body.length ec e.sg f.w f.i f.pv f.t f.tw f.ep fa f.body.length fc f.sg who va v.length vc sg ?_
  unfold Q0q.N
  have leaf : ∀ {b : Bool} {w2 : World}, b = frOK ⟨kd, e, f, who, v, sg⟩ → Ext no w w2 → Value.bool b = Value.bool (frOK ⟨kd, e, f, who, v, sg⟩) ∧ Ext no w w2 := fun h X => ⟨by rw [h], X⟩
  refine ⟨fun h1 w2 X => leaf ?_ X, fun h1 => ⟨fun h4 w2 X => leaf ?_ X, fun h4 => ⟨fun k1 w2 p X hp => ?_, fun k1 w2 p X hp => ?_⟩⟩⟩
  · unfold frOK; simp only []; rw [if_neg (by omega), if_neg (by omega), if_neg (by omega), if_neg (by omega)]
  · unfold frOK; simp only []; rw [if_neg (by omega), if_neg (by omega), if_neg (by omega), if_neg (by omega)]
  · subst k1
    refine (Q1E (he.no X) true).mono fun u w3 ⟨hx, X3⟩ => ⟨_, hx, X3.kept, fun h => leaf ?_ (X.trans X3), fun h => ?_⟩
    · have h' : Q0w e = false := h
      simp [frOK, h']
    have h' : Q0w e = true := h
    have X3 := X.trans X3
    refine (Q1E (hf.no X3) _).mono fun u w4 ⟨hx, X4⟩ => ⟨_, hx, X4.kept, fun hh => leaf ?_ (X3.trans X4), fun hh => ?_⟩
    all_goals simp at hh
    · simp [frOK, hh]
    have X4 := X3.trans X4
    refine ⟨fun hw => ⟨fun hn => leaf ?_ X4, fun hn => leaf ?_ X4⟩, fun hw => leaf ?_ X4⟩
    · have hn' : v.length = 0 := by omega
      simp [frOK, h', hh, hw, List.length_eq_zero_iff.1 hn', beq_dz]
    · have hn' : v ≠ [] := fun h => hn (by rw [h]; rfl)
      simp [frOK, hn']
    · simp [frOK, hw]
  · refine (Q1E (he.no X) _).mono fun u w3 ⟨hx, X3⟩ => ⟨_, hx, X3.kept, fun h => leaf ?_ (X.trans X3), fun h => ?_⟩
    · by_cases k4 : kd = 4
      · subst k4; simp at h; simp [frOK, h]
      · rw [beq_false_of_ne k4] at h; simp at h; simp [frOK, h, k1, k4]
    have X3 := X.trans X3
    refine (Q1E (hf.no X3) _).mono fun u w4 ⟨hx, X4⟩ => ⟨_, hx, X4.kept, fun hh => leaf ?_ (X3.trans X4), fun hh => ?_⟩
    · by_cases k4 : kd = 4
      · subst k4; simp at hh; simp [frOK, hh]
      · rw [beq_false_of_ne k4] at hh; simp at hh; simp [frOK, hh, k1, k4]
    have X4 := X3.trans X4
    refine ⟨fun k2 => ⟨fun k3 => ?_, fun k3 => ?_⟩, fun k2 => ?_⟩
    · obtain rfl : kd = 4 := by omega
      simp at h hh
      refine ⟨fun hw => ⟨fun hn => leaf ?_ X4, fun hn => leaf ?_ X4⟩, fun hw => leaf ?_ X4⟩
      · have hn' : v.length = 0 := by omega
        simp [frOK, h, hh, hw, List.length_eq_zero_iff.1 hn', beq_dz]
      · have hn' : v ≠ [] := fun h => hn (by rw [h]; rfl)
        simp [frOK, hn']
      · simp [frOK, hw]
    · subst k3
      simp at h hh
      refine ⟨fun hw => ⟨fun hn => ?_, fun hn => leaf ?_ X4⟩, fun hw => leaf ?_ X4⟩
      · refine (Q1l (hv.no X4) hl).mono fun u w5 ⟨hx, X5⟩ => ⟨_, hx, X5.kept, fun hv => leaf ?_ (X4.trans X5), fun hv => leaf ?_ (X4.trans X5)⟩
        · have hv' : rightV v = true := hv
          have hw' : 0 ≤ who := hw
          simp [frOK, h, hh, hw', hn, hv']
        · have hv' : rightV v = false := hv
          simp [frOK, hv']
      · have : ¬ who < 8 := by omega
        simp [frOK, this]
      · have : ¬ 0 ≤ who := by omega
        simp [frOK, this]
    · subst k2
      simp at h hh
      refine ⟨fun hw => ⟨fun hn => ?_, fun hn => leaf ?_ X4⟩, fun hw => leaf ?_ X4⟩
      · refine (Q1l (hv.no X4) hl).mono fun u w5 ⟨hx, X5⟩ => ⟨_, hx, X5.kept, fun hv => leaf ?_ (X4.trans X5), fun hv => leaf ?_ (X4.trans X5)⟩
        · have hv' : rightV v = true := hv
          have hw' : 0 ≤ who := hw
          simp [frOK, h, hh, hw', hn, hv', beq_dz]
        · have hv' : rightV v = false := hv
          simp [frOK, hv']
      · have : ¬ who < 8 := by omega
        simp [frOK, this]
      · have : ¬ 0 ≤ who := by omega
        simp [frOK, this]
end
end Go.Proofs.Ytoempemllkebkaa