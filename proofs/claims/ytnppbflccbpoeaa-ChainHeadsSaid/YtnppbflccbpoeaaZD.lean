/- Rows that grow: of an owner, also cut off; and of a function's own. -/
import Derived.Test.YtnppbflccbpoeaaZC
import Derived.ArgAppend
import Derived.Test.YtnppbflccbpoeaaZB
set_option linter.unusedSimpArgs false
set_option linter.unusedVariables false
set_option linter.unusedSectionVars false
namespace Go.Mx
section
variable {K K1 : Nat → Prop} {w w1 w' w0 : World} {o o1 o' o0 : Own} {p q j k N : Nat} {e : TypeId} {size n c : Nat} {a : Option Addr} {cs : List Value}
theorem Row.forget (h : Row w1 o1 a cs) (s : Step K w0 o0 w1 o1) : Row w1 (grow w0 o0) a cs := ⟨h.1, fun h0 ad ha => by
  by_cases hb : ad.block < w0.heap.size
  · rw [grow_lt hb, ← s.same _ hb]; exact h.2 h0 ad ha
  · exact grow_ge (by omega)⟩
/-- the row of an owner, or what was cut off of it. -/
def GrowsF (e size : Nat) (w : World) (o : Own) (k : Nat) (a : Option Addr) (n c : Nat) (cs : List Value) : Prop :=
  Grows e size w o k a n c cs ∨ (n = c ∧ RowAt w a cs ∧ cs.length = n * size ∧ ∃ ad, a = some ad ∧ o ad.block = some k ∧ ad.block < w.heap.size)
theorem GrowsF.row (h : GrowsF e size w o k a n c cs) : RowAt w a cs := h.elim Grows.row fun h => h.2.1
theorem GrowsF.len (h : GrowsF e size w o k a n c cs) : cs.length = n * size := h.elim (fun h => h.own.1) fun h => h.2.2.1
theorem GrowsF.le (h : GrowsF e size w o k a n c cs) : n ≤ c := h.elim (fun h => (own_fresh h.own).1) fun h => Nat.le_of_eq h.1
theorem GrowsF.tg (h : GrowsF e size w o k a n c cs) : ∀ ad, a = some ad → o ad.block = some k ∧ ad.block < w.heap.size := h.elim (fun h => h.tg) fun ⟨_, _, _, ad, ha, h⟩ ad' ha' => by rw [ha] at ha'; cases ha'; exact h
theorem GrowsF.step (h : GrowsF e size w o k a n c cs) (s : Step K w o w' o') (hk : ¬ K k) : GrowsF e size w' o' k a n c cs := by
  rcases h with h | ⟨h1, h2, h3, ad, ha, h4, h5⟩
  · exact .inl (h.step s hk)
  · exact .inr ⟨h1, h2.ext s.ext fun ad' ha' ⟨i, hi, hK⟩ => by rw [ha] at ha'; cases ha'; rw [h4] at hi; cases hi; exact hk hK, h3, ad, ha, (s.own h5).trans h4, Nat.lt_of_lt_of_le h5 s.size⟩
theorem GrowsF.keep (h : GrowsF e size w o k a n c cs) {m : Nat → Prop} (x : Ext m w w') (hm : ∀ ad, a = some ad → ¬ m ad.block) (ho : ∀ b, b < w.heap.size → o' b = o b) : GrowsF e size w' o' k a n c cs := by
  rcases h with h | ⟨h1, h2, h3, ad, ha, h4, h5⟩
  · exact .inl (h.keep x hm ho)
  · exact .inr ⟨h1, h2.ext x hm, h3, ad, ha, (ho _ h5).trans h4, Nat.lt_of_lt_of_le h5 x.size⟩
/-- what is cut off behind some. -/
theorem GrowsF.cut (h : GrowsF e size w o k a n c cs) {i : Nat} (hi : i ≤ n) (ha : a ≠ none) : GrowsF e size w o k a i i (cs.take (i * size)) := by
  obtain ⟨ad, ha⟩ := Option.ne_none_iff_exists'.1 ha
  refine .inr ⟨rfl, h.row.take _, ?_, ad, ha, h.tg ad ha⟩
  rw [List.length_take, h.len]
  have := Nat.mul_le_mul_right size hi
  omega
theorem GrowsF.push {P : Program} {t ty : TypeId} {i : TypeInfo} {z : Value} {bytes : Nat} (ht : P.underlying t = some (.slice e)) (hi : P.info? e = some i) (hz : i.zero = some z)
    (hsize : i.size = size) (hby : i.bytes = bytes) (hzs : z.cells.size = size) (hsz : 0 < size) (h : GrowsF e size w o k a n c cs) (ok : Tags w o) (hk : k < w.heap.size)
    {xa : Option Addr} {m xc : Nat} {news : List Value} (hl : news.length = m * size) (hnews : RowAt w xa news) (h1 : ∀ u ∈ news, u.oneCell' = true) (hm : 0 < m) (hb : (n + m) * bytes ≤ 140737488355328) (h63 : n + m ≤ 1000000000) :
    ∃ a' c' w' o', (Builtin.append_ #[t, t] ty #[.slice a n c, .slice xa m xc]).run P w = .ok (.slice a' (n + m) c') w' ∧ Step (fun j => j = k) w o w' o' ∧ GrowsF e size w' o' k a' (n + m) c' (cs ++ news) ∧
      (∀ b, b < w.heap.size → (∀ ad, a = some ad → b ≠ ad.block) → w'.heap[b]? = w.heap[b]?) ∧ (∀ ad, a' = some ad → (∃ b, a = some b ∧ ad.block = b.block) ∨ ad.block = w.heap.size) := by
  rcases h with h | ⟨h1', h2, h3, ad, ha, h4, h5⟩
  · obtain ⟨a', c', w', o', q1, q2, q3, q4, q5⟩ := h.push (ty := ty) ht hi hz hsize hby hzs hsz ok hk hl hnews h1 hb (by omega)
    exact ⟨a', c', w', o', q1, q2, .inl q3, q4, q5⟩
  · subst h1'
    subst ha
    obtain ⟨xd, rfl⟩ := hnews.addr fun e => by
      have : 0 < m * size := Nat.mul_pos hm hsz
      rw [e] at hl
      have : ([] : List Value).length = 0 := rfl
      omega
    obtain ⟨v', w', hr, ho, hg⟩ := run_append_arg_grows (P := P) w t ty e i z size bytes ht hi hz hsize hby hzs hsz ad n n cs h3 (fun j u hu => h2.at_ hu) xd m xc news hl (fun j u hu => hnews.at_ hu) (by omega) (by unfold maxLen; omega) hb
    obtain ⟨a', c', hv, hrow⟩ := RowAt.of_owns ho
    subst hv
    have X : Ext no w w' := Ext.of_grown hg fun q hq => by cases hq
    have hfr := (own_fresh ho).2
    have s := (Step.of_no X ok)
    rcases ho.2 with ⟨hv, h0⟩ | ⟨g, cap, cur, hv, hb1, hg1, _⟩
    · omega
    · cases hv
      have hgs := hfr _ rfl
      refine ⟨_, _, w', tag (grow w o) g k, hr, (s.tag hb1 (Nat.lt_of_lt_of_le hk X.size)).none, .inl ⟨⟨ho.1, ?_⟩, fun ad' ha' => ?_⟩, fun b hb _ => X.block b hb id, fun ad' ha' => ?_⟩
      · rcases ho.2 with h | ⟨g, cap, cur, hv, hb1, h⟩
        · exact .inl h
        · exact .inr ⟨g, cap, cur, hv, Nat.zero_le _, h⟩
      · cases ha'; exact ⟨tag_self, hgs⟩
      · cases ha'
        refine .inr ?_
        -- the block is the next one: of no more than one new block
        have hr' := run_append_grow (P := P) w t ty e i z ht hi hz ad n n cs (by rw [hsize]; exact h3) (fun j u hu => h2.at_ hu) xd m xc news (by rw [hsize]; exact hl) (fun j u hu => hnews.at_ hu) (by omega) (by omega) (growslice_fits (by omega) (by rw [hby]; exact hb))
        rw [hr] at hr'
        injection hr' with hr' _
        injection hr' with hr' _ _
        injection hr' with hr'
        injection hr'
/-- .. nothing of which is asked for later. -/
theorem Step.joins {L : List Nat} (X : Ext (fun b => b ∈ L) w w') (ok : Tags w o) (M : Mine L w o) : Step (fun j => j ∈ L) w o w' (grow w o) := Step.stores X ok M fun _ h => h
/-- a row of a function's own: nothing yet, or in a block that came behind N. -/
def LRow (e size N : Nat) (w : World) (o : Own) (a : Option Addr) (n c : Nat) (cs : List Value) : Prop :=
  (a = none ∧ n = 0 ∧ c = 0 ∧ cs = []) ∨ ∃ k, N ≤ k ∧ k < w.heap.size ∧ Grows e size w o k a n c cs
theorem LRow.nil (e size N : Nat) (w : World) (o : Own) : LRow e size N w o none 0 0 [] := .inl ⟨rfl, rfl, rfl, rfl⟩
theorem LRow.row (h : LRow e size N w o a n c cs) : RowAt w a cs := by
  rcases h with ⟨rfl, rfl, rfl, rfl⟩ | ⟨k, _, _, h⟩
  · exact RowAt.nil _ _
  · exact h.row
theorem LRow.len (h : LRow e size N w o a n c cs) : cs.length = n * size := by
  rcases h with ⟨rfl, rfl, rfl, rfl⟩ | ⟨k, _, _, h⟩
  · simp
  · exact h.own.1
theorem LRow.le (h : LRow e size N w o a n c cs) : n ≤ c := by
  rcases h with ⟨rfl, rfl, rfl, rfl⟩ | ⟨k, _, _, h⟩
  · exact Nat.le_refl _
  · exact (own_fresh h.own).1
theorem LRow.step (h : LRow e size N w o a n c cs) (s : Step K w o w' o') (hk : ∀ k, K k → k < N ∨ w.heap.size ≤ k) : LRow e size N w' o' a n c cs := by
  rcases h with h | ⟨k, h1, h2, h⟩
  · exact .inl h
  · exact .inr ⟨k, h1, Nat.lt_of_lt_of_le h2 s.size, h.step s fun hK => by rcases hk k hK with h | h <;> omega⟩
theorem LRow.push {P : Program} {t ty : TypeId} {i : TypeInfo} {z : Value} {bytes : Nat} (ht : P.underlying t = some (.slice e)) (hi : P.info? e = some i) (hz : i.zero = some z)
    (hsize : i.size = size) (hby : i.bytes = bytes) (hzs : z.cells.size = size) (hsz : 0 < size) (h : LRow e size N w o a n c cs) (ok : Tags w o) (hp : N ≤ p) (hp' : p < w.heap.size)
    {xa : Option Addr} {m xc : Nat} {news : List Value} (hl : news.length = m * size) (hnews : RowAt w xa news) (h1 : ∀ u ∈ news, u.oneCell' = true) (hb : (n + m) * bytes ≤ 140737488355328) (h63 : n + m ≤ 9223372036854775807) :
    ∃ a' c' w' o', (Builtin.append_ #[t, t] ty #[.slice a n c, .slice xa m xc]).run P w = .ok (.slice a' (n + m) c') w' ∧ Step (fun j => N ≤ j) w o w' o' ∧ LRow e size N w' o' a' (n + m) c' (cs ++ news) ∧ Ext (fun b => ∃ ad, a = some ad ∧ b = ad.block) w w' := by
  have key : ∀ k, N ≤ k → k < w.heap.size → Grows e size w o k a n c cs → _ := fun k hk hk' hg => hg.push (ty := ty) ht hi hz hsize hby hzs hsz ok hk' (xc := xc) hl hnews h1 hb h63
  have fin : ∀ k, N ≤ k → k < w.heap.size → Grows e size w o k a n c cs → ∃ a' c' w' o', (Builtin.append_ #[t, t] ty #[.slice a n c, .slice xa m xc]).run P w = .ok (.slice a' (n + m) c') w' ∧ Step (fun j => N ≤ j) w o w' o' ∧ LRow e size N w' o' a' (n + m) c' (cs ++ news) ∧ Ext (fun b => ∃ ad, a = some ad ∧ b = ad.block) w w' := fun k hk hk' hg => by
    obtain ⟨a', c', w', o', r1, r2, r3, r4, _⟩ := key k hk hk' hg
    refine ⟨a', c', w', o', r1, r2.mono fun j hj _ => by omega, .inr ⟨k, hk, Nat.lt_of_lt_of_le hk' r2.size, r3⟩, ⟨r2.ext.os, r2.ext.tape, r2.ext.output, r2.ext.size, fun b hb hn => r4 b hb fun ad ha hb' => hn ⟨ad, ha, hb'⟩⟩⟩
  rcases h with ⟨rfl, rfl, rfl, rfl⟩ | ⟨k, h1, h2, h⟩
  · exact fin p hp hp' (Grows.nil _ _ _ _ _)
  · exact fin k h1 h2 h
/-- at the end: nobody's. -/
theorem LRow.give (h : LRow e size N w1 o1 a n c cs) (s : Step K w0 o0 w1 o1) (hN : w0.heap.size ≤ N) : Row w1 (grow w0 o0) a cs := ⟨h.row, fun h0 ad ha => by
  rcases h with ⟨rfl, _⟩ | ⟨k, h1, h2, h⟩
  · cases ha
  · refine grow_ge ?_
    have ht := h.tg ad ha
    by_cases hb : ad.block < w0.heap.size
    · rw [s.same _ hb] at ht
      have := s.ok0 _ _ hb ht.1
      omega
    · omega⟩
end
end Go.Mx

/- Chain: a log, and what its calls do (the program's). -/
set_option linter.unusedVariables false
set_option linter.unusedSimpArgs false
set_option maxRecDepth 20000
set_option maxHeartbeats 2000000
namespace Go.Proofs.Ytnppbflccbpoeaa
open Go Go.Mx Go.Proofs
open W (OwnB GivesW numR countR doneR zig unzig intR)
theorem inf39 : (Try.prog.info? 39).map (fun i => (i.zero, i.size, i.bytes)) = some (some (.agg #[.int .i64 0, .int .i64 0, .int .u64 0, .int .i64 0, .int .i64 0, .int .i64 0, .slice none 0 0, .int .u64 0]), 8, 80) := by kernel_rfl
/-- a log, as lists. -/
structure CL where
  wr : Int
  pb : Int
  es : List Ent
  sum : Int
structure PLog (w : World) (o : Own) (q k : Nat) (L : CL) : Prop where
  own : o q = some q
  few : L.es.length ≤ 200
  st : ∃ la lc, ∃ l : List PE, l.map PE.e = L.es ∧ Blk w q 90 [.pointer (some (blk k)), .int .i64 L.wr, .int .u64 L.pb, .slice la l.length lc, .int .u64 L.sum] ∧
    GrowsF 39 8 w o q la l.length lc (PE.Cs l) ∧ (∀ ad, la = some ad → ad.block ≠ q) ∧ ∀ x ∈ l, x.ok w o
def rightC (S : OS) (L : CL) (e : Ent) : Int := if entRight e = true then (if e.w = L.wr then (if holdsE S L.pb e = true then 0 else 6) else 20) else 1
def placeC (L : CL) (e : Ent) : Int := if e.i > L.es.length then 7 else if e.i = L.es.length then 0 else if L.es[e.i.toNat]? = some e then 8 else 9
def behindC (L : CL) (e : Ent) : Int := if e.pv = L.sum then (match L.es.getLast? with | none => 0 | some x => if lessS x.t x.tw e.t e.tw = true then 0 else 2) else 5
def checkC (S : OS) (L : CL) (e : Ent) : Int := if rightC S L e ≠ 0 then rightC S L e else if placeC L e ≠ 0 then placeC L e else behindC L e
def putC (S : OS) (L : CL) (e : Ent) : CL × OS := ({ L with es := L.es ++ [e], sum := (sumE S e).1.1 }, (sumE S e).2)
def acceptC (S : OS) (L : CL) (e : Ent) : Int × CL × OS := if checkC S L e = 0 then (0, putC S L e) else (checkC S L e, L, S)
def nextE (L : CL) (t tw ep : Int) (body : List UInt8) : Ent := ⟨L.wr, L.es.length, L.sum, t, tw, ep, body, 0⟩
def issueC (S : OS) (L : CL) (sec t tw ep : Int) (body : List UInt8) : (Ent × Int) × CL × OS :=
  if L.es.length ≥ 200 then ((Ent.zero, 3), L, S)
  else if entRight (nextE L t tw ep body) = true then
    (if behindC L (nextE L t tw ep body) ≠ 0 then ((Ent.zero, behindC L (nextE L t tw ep body)), L, S)
     else if (signE S sec (nextE L t tw ep body)).1.2 ≠ 0 then ((Ent.zero, (signE S sec (nextE L t tw ep body)).1.2), L, (signE S sec (nextE L t tw ep body)).2)
     else (((signE S sec (nextE L t tw ep body)).1.1, 0), putC (signE S sec (nextE L t tw ep body)).2 L (signE S sec (nextE L t tw ep body)).1.1))
  else ((Ent.zero, 1), L, S)
section
variable {w w' w1 : World} {o o' o1 : Own} {q k n : Nat} {K : Nat → Prop} {S : OS} {L : CL} {e : Ent} {a : Option Addr} {c : Nat}
theorem PLog.lt (h : PLog w o q k L) : q < w.heap.size := by obtain ⟨_, _, _, _, hb, _⟩ := h.st; exact hb.lt
theorem PLog.step (h : PLog w o q k L) (s : Step K w o w' o') (hq : ¬ K q) : PLog w' o' q k L := by
  have hlt := h.lt
  obtain ⟨la, lc, l, h0, h1, h2, h3, h4⟩ := h.st
  exact ⟨(s.own hlt).trans h.own, h.few, la, lc, l, h0, s.blk h1 h.own hq, h2.step s hq, h3, fun x hx => (h4 x hx).step s⟩
theorem PLog.new {w w' : World} {o : Own} {q k : Nat} {wr pb : Int} (X : Ext no w w') (hb : Blk w' q 90 [.pointer (some (blk k)), .int .i64 wr, .int .u64 pb, .slice none 0 0, .int .u64 0]) (h1 : w.heap.size ≤ q) (h2 : q < w'.heap.size) (ok : Tags w o) :
    ∃ o', Step no w o w' o' ∧ PLog w' o' q k ⟨wr, pb, [], 0⟩ :=
  ⟨_, (Step.of_no X ok).tag h1 h2, tag_self, Nat.zero_le _, none, 0, [], rfl, hb, .inl (Grows.nil _ _ _ _ _), fun ad h => (by cases h), fun x h => (by cases h)⟩
theorem getElem_map_e {l : List PE} {es : List Ent} (h : l.map PE.e = es) (i : Nat) : es[i]? = (l[i]?).map PE.e := by rw [← h, List.getElem?_map]
theorem len_map_e {l : List PE} {es : List Ent} (h : l.map PE.e = es) : l.length = es.length := by rw [← h, List.length_map]
theorem cNew_spec {w : World} {o : Own} {k : Nat} (ok : Tags w o) (wr pb : Int) :
    Calls Try.prog 13 #[.pointer (some (blk k)), .int .i64 wr, .int .u64 pb] w (fun x w' => (¬ (0 ≤ wr ∧ wr < 8) ∧ x = .returned (.tuple #[.pointer none, .int .i64 1]) ∧ w' = w) ∨ ((0 ≤ wr ∧ wr < 8) ∧ ∃ q o', x = .returned (.tuple #[.pointer (some (blk q)), .int .i64 0]) ∧ w.heap.size ≤ q ∧ Step no w o w' o' ∧ PLog w' o' q k ⟨wr, pb, [], 0⟩)) := by
  refine (chain_New.go _ _ _ (R := fun v w' => (¬ (0 ≤ wr ∧ wr < 8) ∧ v = (.tuple #[.pointer none, .int .i64 1]) ∧ w' = w) ∨ ((0 ≤ wr ∧ wr < 8) ∧ ∃ q o', v = (.tuple #[.pointer (some (blk q)), .int .i64 0]) ∧ w.heap.size ≤ q ∧ Step no w o w' o' ∧ PLog w' o' q k ⟨wr, pb, [], 0⟩)) ?_).mono fun x w' ⟨v, he, h⟩ => by
    rcases h with ⟨h1, h2, h3⟩ | ⟨h0, q, o', h1, h2⟩
    · exact .inl ⟨h1, by rw [he, h2], h3⟩
    · exact .inr ⟨h0, q, o', by rw [he, h1], h2⟩
  unfold chain_New.N
  refine ⟨fun h => .inl ⟨by omega, rfl, rfl⟩, fun h1 => ⟨fun h => .inl ⟨by omega, rfl, rfl⟩, fun h2 => ⟨fun h => (by cases h), fun _ w7 q X hb hq hq' => ?_⟩⟩⟩
  obtain ⟨o', s, p⟩ := PLog.new X hb hq hq' ok
  exact .inr ⟨⟨h1, h2⟩, q, o', rfl, hq, s, p⟩
theorem cClone_spec {w : World} {a : Option Addr} {c : Nat} {bs : List UInt8} (h : RowAt w a (bytesV bs)) (hl : bs.length ≤ 1000000) :
    Calls Try.prog 60 #[.slice a bs.length c] w (fun e w' => ∃ a' c', e = .returned (.slice a' bs.length c') ∧ OwnB w.heap.size w' a' c' bs ∧ Ext no w w') := by
  refine (slices_Clone_byte_byte.go _ _ _ (R := fun v w' => ∃ a' c', v = (.slice a' bs.length c') ∧ OwnB w.heap.size w' a' c' bs ∧ Ext no w w') ?_).mono fun e w' ⟨v, he, a, c, hv, hw⟩ => ⟨a, c, by rw [he, hv], hw⟩
  unfold slices_Clone_byte_byte.N
  refine ⟨fun hn => ?_, fun hn w2 q X hb hq hq' => ?_⟩
  · subst hn
    have : bs = [] := by simpa [bytesV] using h.none_nil
    subst this
    exact ⟨none, 0, rfl, OwnB.nil _ _, Ext.refl _ _⟩
  · have hO : OwnB w.heap.size w2 (some (blk q)) 0 [] := ⟨owns_of_blk hb rfl (Nat.zero_le _), fun ad ha => by cases ha; exact ⟨hq, hq'⟩⟩
    obtain ⟨a', c', w', hr, hO', hx⟩ := hO.append (t := 24) (ty := 24) Try.underlying24 X.size (xc := c) (h.no X) (by simp; omega)
    rw [List.nil_append] at hr hO'
    exact ⟨a', _, c', w', hr, a', c', rfl, hO', X.then hx fun b hb => .inr hb⟩
theorem cOwn_spec (ok : Tags w o) (h : Row w o a (bytesV e.body)) (hl : e.body.length ≤ 1000000) :
    Calls Try.prog 42 #[entV e a c] w (fun x w' => ∃ o' a' c', x = .returned (entV e a' c') ∧ Step no w o w' o' ∧ Row w' o' a' (bytesV e.body) ∧ e.body.length ≤ c') := by
  refine (chain_own.go e.w e.i e.pv e.t e.tw e.ep a e.body.length c e.sg (R := fun v w' => ∃ o' a' c', v = (entV e a' c') ∧ Step no w o w' o' ∧ Row w' o' a' (bytesV e.body) ∧ e.body.length ≤ c') ?_).mono fun x w' ⟨v, he, o', a, c, hv, hw⟩ => ⟨o', a, c, by rw [he, hv], hw⟩
  unfold chain_own.N
  intro w10 p11 p12 X10 hp
  obtain ⟨s10, M10⟩ := Step.priv X10 hp ok
  have g11 := hp p11 (by simp)
  have g12 := hp p12 (by simp)
  refine (cClone_spec (h.step s10).1 hl).mono fun x w15 ⟨ca, cc, he, hO, X15⟩ => ⟨_, _, _, he, X15.kept, fun w24 X24 => ?_⟩
  have s15 := Step.of_no X15 s10.ok
  have s24 := Step.stores X24 s15.ok (M10.step s15) (by simp [or_comm])
  exact ⟨_, ca, cc, rfl, (s10.trans s15).trans' s24 (fun i hi => .inr (by simp at hi; omega)), (OwnB.tight hO (Nat.le_refl _)).step s24, hO.le⟩
theorem cright_spec (P : PLog w o q k L) (h : POrc w o k S) (ok : Tags w o) (hf : entRight e = true → e.fit) (hb : RowAt w a (bytesV e.body)) :
    Calls Try.prog 48 #[.pointer (some (blk q)), entV e a c] w (Ret (.int .i64 (rightC S L e)) fun w' => Ext no w w') := by
  refine chain_Log_right.run (some (blk q)) e.w e.i e.pv e.t e.tw e.ep a e.body.length c e.sg ?_
  unfold chain_Log_right.N
  rw [entRight_F]
  obtain ⟨la, lc, l, h0, h1, h2, h3, h4⟩ := P.st
  refine ⟨fun hr w11 X => ⟨by unfold rightC; rw [if_neg (by rw [hr]; decide)], X⟩, fun hr => ⟨_, rfl, _, h1.cella (i := 1) rfl, fun hw w14 X => ⟨by unfold rightC; rw [if_pos hr, if_neg hw], X⟩, fun hw => ⟨_, h1.cella (i := 0) rfl, _, h1.cella (i := 2) rfl, fun w20 X20 => ?_⟩⟩⟩
  have s20 := Step.of_no X20 ok
  refine (HoldsO (h.step s20 id) s20.ok L.pb (e := e) hf (hb.no X20)).mono fun x w28 ⟨he, X28⟩ => ⟨_, he, fun hh => ⟨?_, X20.trans X28⟩, fun hh => ⟨?_, X20.trans X28⟩⟩
  · unfold rightC; rw [if_pos hr, if_pos hw, if_neg (by rw [hh]; decide)]
  · unfold rightC; rw [if_pos hr, if_pos hw, if_pos hh]
theorem cplace_spec (P : PLog w o q k L) (h0 : 0 ≤ e.i) (hb : RowAt w a (bytesV e.body)) :
    Calls Try.prog 49 #[.pointer (some (blk q)), entV e a c] w (Ret (.int .i64 (placeC L e)) fun w' => Ext no w w') := by
  refine chain_Log_place.run (some (blk q)) e.w e.i e.pv e.t e.tw e.ep a e.body.length c e.sg ?_
  unfold chain_Log_place.N
  obtain ⟨la, lc, l, g0, h1, h2, h3, h4⟩ := P.st
  have hl := len_map_e g0
  unfold placeC
  rw [← hl]
  refine ⟨_, rfl, la, l.length, lc, h1.cella (i := 3) rfl, fun hg w10 X => ⟨by rw [if_pos hg], X⟩, fun hg => ⟨fun he w10 X => ⟨by rw [if_neg (by omega), if_pos he], X⟩, fun hne => ?_⟩⟩
  have hi : e.i.toNat < l.length := by omega
  have hgx : l[e.i.toNat]? = some l[e.i.toNat] := List.getElem?_eq_getElem hi
  have hpk := h4 _ (List.getElem_mem hi)
  generalize l[e.i.toNat] = x at *
  obtain ⟨ad, rfl⟩ := h2.row.faddr PE.len (by decide) hi
  refine ⟨some ad, l.length, lc, h1.cella (i := 3) rfl, ad, rfl, h0, by omega, x.e.w, x.e.i, x.e.pv, x.e.t, x.e.tw, x.e.ep, x.a, x.e.body.length, x.c, x.e.sg, PE.loads h2.row rfl hgx, fun w18 X18 => ?_⟩
  refine (ESame_spec (e := x.e) (f := e) (hpk.1.1.no X18) (hb.no X18)).mono fun z w34 ⟨he, X34⟩ => ⟨_, he, fun hs => ⟨?_, X18.trans X34⟩, fun hs => ⟨?_, X18.trans X34⟩⟩
  · rw [if_neg (by omega), if_neg hne, getElem_map_e g0, hgx, if_pos (by rw [Option.map_some, of_decide_eq_true hs])]
  · rw [if_neg (by omega), if_neg hne, getElem_map_e g0, hgx, if_neg (by rw [Option.map_some]; intro h; injection h with h; exact of_decide_eq_false hs h)]
theorem cbehind_spec (P : PLog w o q k L) :
    Calls Try.prog 39 #[.pointer (some (blk q)), entV e a c] w (Ret (.int .i64 (behindC L e)) fun w' => Ext no w w') := by
  refine chain_Log_behind.run (some (blk q)) e.w e.i e.pv e.t e.tw e.ep a e.body.length c e.sg ?_
  unfold chain_Log_behind.N
  obtain ⟨la, lc, l, g0, h1, h2, h3, h4⟩ := P.st
  have hl := len_map_e g0
  have hfew := P.few
  refine ⟨_, rfl, la, l.length, lc, h1.cella (i := 3) rfl, _, h1.cella (i := 4) rfl, fun hp w14 X => ⟨by unfold behindC; rw [if_neg hp], X⟩, fun hp => ⟨fun hn => ?_, fun hn w19 X => ⟨?_, X⟩⟩⟩
  · have hi : l.length - 1 < l.length := by omega
    have hgx : l[l.length - 1]? = some l[l.length - 1] := List.getElem?_eq_getElem hi
    generalize l[l.length - 1] = x at *
    obtain ⟨ad, rfl⟩ := h2.row.faddr PE.len (by decide) hi
    have hlast : L.es.getLast? = some x.e := by rw [List.getLast?_eq_getElem?, getElem_map_e g0, ← hl, hgx]; rfl
    have e1 : ((l.length : Int) - 1).toNat = l.length - 1 := by omega
    have c3 := PE.cell h2.row rfl hgx (j := 3) (v := .int .i64 x.e.t) rfl
    have c4 := PE.cell h2.row rfl hgx (j := 4) (v := .int .i64 x.e.tw) rfl
    refine ⟨some ad, l.length, lc, h1.cella (i := 3) rfl, by omega, by omega, ad, rfl, by omega, by omega, x.e.t, x.e.tw, ⟨by rw [e1, add_add]; exact c3, by rw [e1, add_add]; exact c4, trivial⟩, fun w19 X19 => ?_⟩
    refine (Less_spec w19 x.e.t x.e.tw e.t e.tw).mono fun z w30 ⟨he, X30⟩ => ⟨_, he, fun hs => ⟨?_, X19.trans X30⟩, fun hs => ⟨?_, X19.trans X30⟩⟩
    · unfold behindC; rw [if_pos hp, hlast]; simp only []; rw [if_neg (by rw [hs]; decide)]
    · unfold behindC; rw [if_pos hp, hlast]; simp only []; rw [if_pos hs]
  · have : L.es = [] := List.eq_nil_of_length_eq_zero (by omega)
    unfold behindC; rw [if_pos hp, this]; rfl
theorem rightC_right (h : rightC S L e = 0) : entRight e = true := by
  unfold rightC at h
  by_cases hr : entRight e = true
  · exact hr
  · rw [if_neg hr] at h; cases h
theorem cCheck_spec (P : PLog w o q k L) (h : POrc w o k S) (ok : Tags w o) (hf : entRight e = true → e.fit) (hb : RowAt w a (bytesV e.body)) :
    Calls Try.prog 26 #[.pointer (some (blk q)), entV e a c] w (Ret (.int .i64 (checkC S L e)) fun w' => Ext no w w') := by
  refine chain_Log_Check.run (some (blk q)) e.w e.i e.pv e.t e.tw e.ep a e.body.length c e.sg ?_
  unfold chain_Log_Check.N
  refine ⟨fun h => (by cases h), fun _ w10 p13 X10 hp => ?_⟩
  refine ⟨fun m vs w1 => ∃ t : Nat, vs = [.int .i64 t] ∧ m + t = 3 ∧ Ext no w w1 ∧ (0 < t → rightC S L e = 0) ∧ (1 < t → placeC L e = 0) ∧ (2 < t → behindC L e = 0), 3, ⟨0, rfl, rfl, X10, fun h => absurd h (by decide), fun h => absurd h (by decide), fun h => absurd h (by decide)⟩, ?_⟩
  rintro m w1 i ⟨t, hi, hm, X1, c0, c1, c2⟩
  simp only [List.cons.injEq, Value.int.injEq, true_and, and_true] at hi
  subst hi
  have s1 := Step.of_no X1 ok
  refine ⟨fun ht => ⟨by omega, by omega, fun h0 => ?_, fun h0 => ?_, fun h0 => ?_⟩, fun ht => ?_⟩
  · obtain rfl : t = 0 := by omega
    refine (cright_spec (P.step s1 id) (h.step s1 id) s1.ok hf (hb.no X1)).mono fun x w21 ⟨he, X21⟩ => ⟨_, he, X21.kept, fun hr => ⟨by unfold checkC; rw [if_pos hr], X1.trans X21⟩, fun hr => ⟨by omega, by omega, m - 1, by omega, 1, rfl, by omega, X1.trans X21, fun _ => hr, fun h => absurd h (by decide), fun h => absurd h (by decide)⟩⟩
  · obtain rfl : t = 1 := by omega
    have hr := c0 (by decide)
    refine (cplace_spec (P.step s1 id) ((entRight_iff _).1 (rightC_right hr)).2.2.1 (hb.no X1)).mono fun x w21 ⟨he, X21⟩ => ⟨_, he, X21.kept, fun hq => ⟨by unfold checkC; rw [if_neg (not_not_intro hr), if_pos hq], X1.trans X21⟩, fun hq => ⟨by omega, by omega, m - 1, by omega, 2, rfl, by omega, X1.trans X21, fun _ => hr, fun _ => hq, fun h => absurd h (by decide)⟩⟩
  · obtain rfl : t = 2 := by omega
    have hr := c0 (by decide)
    have hq := c1 (by decide)
    refine (cbehind_spec (P.step s1 id)).mono fun x w21 ⟨he, X21⟩ => ⟨_, he, X21.kept, fun hz => ⟨by unfold checkC; rw [if_neg (not_not_intro hr), if_neg (not_not_intro hq)], X1.trans X21⟩, fun hz => ⟨by omega, by omega, m - 1, by omega, 3, rfl, by omega, X1.trans X21, fun _ => hr, fun _ => hq, fun _ => hz⟩⟩
  · obtain rfl : t = 3 := by omega
    refine ⟨?_, X1⟩
    unfold checkC; rw [if_neg (not_not_intro (c0 (by decide))), if_neg (not_not_intro (c1 (by decide))), c2 (by decide)]
end
end Go.Proofs.Ytnppbflccbpoeaa

/- Chain: what turns a log; what it tells (the program's). -/
set_option linter.unusedVariables false
set_option linter.unusedSimpArgs false
set_option maxRecDepth 20000
set_option maxHeartbeats 2000000
namespace Go.Proofs.Ytnppbflccbpoeaa
open Go Go.Mx Go.Proofs
open W (OwnB GivesW numR countR doneR zig unzig intR)
section
variable {w w' w1 : World} {o o' o1 : Own} {q k n : Nat} {K : Nat → Prop} {S : OS} {L : CL} {e : Ent} {a : Option Addr} {c : Nat}
theorem PLog.cell {la : Option Addr} {n lc : Nat} {x0 x1 x2 x3 x4 : Value} (hb : Blk w q 90 [x0, x1, x2, x3, x4]) : w.cell? ((blk q).add 0) = some x0 ∧ w.cell? ((blk q).add 1) = some x1 ∧ w.cell? ((blk q).add 3) = some x3 ∧ w.cell? ((blk q).add 4) = some x4 :=
  ⟨hb.cella (i := 0) rfl, hb.cella (i := 1) rfl, hb.cella (i := 3) rfl, hb.cella (i := 4) rfl⟩
theorem cput_spec (P : PLog w o q k L) (h : POrc w o k S) (ok : Tags w o) (hqk : q ≠ k) (hok : S.ok) (hlen : S.used.length < 1000000) (hf : e.fit) (hb : Row w o a (bytesV e.body)) (hbl : e.body.length ≤ 1000000) (hes : L.es.length < 200) :
    Calls Try.prog 41 #[.pointer (some (blk q)), entV e a c] w (Gs (fun i => i = q ∨ i = k) w o (.tuple #[]) fun w' o' => PLog w' o' q k (putC S L e).1 ∧ POrc w' o' k (putC S L e).2) := by
  refine (chain_Log_put.go (some (blk q)) e.w e.i e.pv e.t e.tw e.ep a e.body.length c e.sg (R := fun v w' => ∃ o', v = .tuple #[] ∧ Step (fun i => i = q ∨ i = k) w o w' o' ∧ PLog w' o' q k (putC S L e).1 ∧ POrc w' o' k (putC S L e).2) ?_).mono fun x w' ⟨v, he, o', hv, hw⟩ => ⟨o', by rw [he, hv], hw⟩
  unfold chain_Log_put.N
  obtain ⟨la, lc, l, g0, b1, b2, b3, b4⟩ := P.st
  have hl := len_map_e g0
  have hlt := P.lt
  refine ⟨_, rfl, la, l.length, lc, b1.cella (i := 3) rfl, fun w11 p15 X11 hp => ?_⟩
  obtain ⟨s11, M11⟩ := Step.priv X11 hp ok
  have g15 := hp p15 (by simp)
  refine (cOwn_spec s11.ok (hb.step s11) hbl).mono fun x w25 ⟨o25, ba, bc, he, s25', rb, lb⟩ => ⟨e.w, e.i, e.pv, e.t, e.tw, e.ep, ba, e.body.length, bc, e.sg, he, M11.keep s25' (fun _ _ => id), ?_⟩
  have s25 := s11.trans s25'
  have P25 := P.step s25 id
  refine ⟨(s25.blk b1 P.own id).cella (i := 3) rfl, fun w27 q28 X27 hb28 hq28 hq28' => ?_⟩
  have s27' := Step.of_no X27 s25.ok
  have s27 := s25.trans s27'
  have b27 := s27.blk b1 P.own id
  have M27 := (M11.step s25').step s27'
  obtain ⟨i, hi, hz, hsz, hby⟩ := info_of inf39
  have hnews : RowAt w27 (some (blk q28)) (PE.C ⟨e, ba, bc⟩) := RowAt.of_blk hb28
  have l27 := s27.size
  obtain ⟨a', c', w31, o31, hr, s31', g31, hkeep, hblk⟩ := (b2.step s27 id).push (ty := 49) Try.underlying49 hi hz hsz hby rfl (by decide) s27.ok (Nat.lt_of_lt_of_le hlt l27) (xa := some (blk q28)) (m := 1) (xc := 1) (news := PE.C ⟨e, ba, bc⟩) rfl hnews (PE.one _) (by decide) (by omega) (by omega)
  have oq27 : grow w25 o25 q = some q := (s27.own hlt).trans P.own
  have b31 : Blk w31 q 90 [.pointer (some (blk k)), .int .i64 L.wr, .int .u64 L.pb, .slice la l.length lc, .int .u64 L.sum] := by
    unfold Blk at b27 ⊢
    rw [hkeep q (Nat.lt_of_lt_of_le hlt l27) fun ad hd e => b3 ad hd e.symm]; exact b27
  refine ⟨b27.cella (i := 3) rfl, a', _, c', w31, hr, M27.keep s31' (fun p hp e => by simp at hp; omega), b31.cana (i := 3) rfl, fun p hp => ?_, thenW_in fun w32 e32 => ?_⟩
  · simp at hp; subst hp; have : Addr.block ((blk q).add 3) = q := rfl; omega
  have hq31 : q < w31.heap.size := Nat.lt_of_lt_of_le hlt (Nat.le_trans l27 s31'.size)
  have tq31 : o31 q = some q := (s31'.own (Nat.lt_of_lt_of_le hlt l27)).trans oq27
  have hne : ∀ ad, a' = some ad → ad.block ≠ q := fun ad hd e => by
    rcases hblk ad hd with ⟨b, hb1, hb2⟩ | hq
    · exact b3 b hb1 (by omega)
    · omega
  have X32 : Ext (fun b => b = q) w31 w32 := (Ext.refl (fun b => b = q) w31).x_set (q := q) (i := 3) rfl (.inl rfl) e32
  obtain ⟨o32, s32'⟩ := Step.store1 X32 s31'.ok tq31
  have b32 := b31.seti 3 rfl e32
  have s2732 := s31'.trans s32'
  have h32 := (h.step s27 id).step s2732 (fun e => hqk e.symm)
  refine ⟨_, b32.cella (i := 0) rfl, fun w33 X33 => ?_⟩
  have s33' := Step.of_no X33 s32'.ok
  refine (SumO (h32.step s33' id) s33'.ok hok hlen (e := e) (fun _ => hf) ((((hb.step s27).step s2732).step s33').1)).mono fun x w39 ⟨o39, he, s39', p39⟩ => ⟨_, _, he, ?_⟩
  have b39 := s39'.blk (s33'.blk b32 ((s32'.own hq31).trans tq31) id) (((s33'.own (Nat.lt_of_lt_of_le hq31 s32'.size)).trans ((s32'.own hq31).trans tq31))) hqk
  refine ⟨b39.cana (i := 4) rfl, thenW_in fun w40 e40 => ?_⟩
  have X40 : Ext (fun b => b = q) w39 w40 := (Ext.refl (fun b => b = q) w39).x_set (q := q) (i := 4) rfl (.inl rfl) e40
  have l33 := s33'.size
  have l32 := s32'.size
  have tq39 : o39 q = some q := (s39'.own (by omega)).trans ((s33'.own (by omega)).trans ((s32'.own hq31).trans tq31))
  have hq39 : q < w39.heap.size := b39.lt
  obtain ⟨o40, s40'⟩ := Step.store1 X40 s39'.ok tq39
  have b40 := b39.seti 4 rfl e40
  have s2740 : Step (fun i => i = q ∨ i = k) w27 _ w40 o40 := (((s2732.mono fun _ h _ => .inl h).trans (s33'.none.trans (s39'.mono fun _ h _ => .inr h)))).trans (s40'.mono fun _ h _ => .inl h)
  refine ⟨o40, rfl, s27.none.trans s2740, ⟨(s40'.own hq39).trans tq39, ?_, a', c', l ++ [⟨e, ba, bc⟩], ?_, ?_, ?_, hne, fun x hx => ?_⟩, p39.step s40' (fun e => hqk e.symm)⟩
  · show (L.es ++ [e]).length ≤ 200; simp; omega
  · rw [List.map_append, g0]; rfl
  · rw [List.length_append]; exact b40
  · rw [List.length_append]
    have : PE.Cs (l ++ [⟨e, ba, bc⟩]) = PE.Cs l ++ PE.C ⟨e, ba, bc⟩ := by simp [PE.Cs]
    rw [this]
    exact (((g31.keep X32 (fun ad hd => hne ad hd) fun b hb => s32'.own hb).step s33' id).step s39' hqk).keep X40 (fun ad hd => hne ad hd) fun b hb => s40'.own hb
  · rcases List.mem_append.1 hx with hx | hx
    · exact ((b4 x hx).step s27).step s2740
    · simp at hx; subst hx
      exact ⟨((rb.step s27').step s2740), lb, hf⟩
theorem accept_out (hes : L.es.length ≤ 200) (h : checkC S L e = 0) : L.es.length < 200 ∧ entRight e = true ∧ e.w = L.wr ∧ holdsE S L.pb e = true ∧ e.i = L.es.length ∧ e.pv = L.sum := by
  unfold checkC at h
  by_cases h1 : rightC S L e = 0
  · rw [if_neg (not_not_intro h1)] at h
    by_cases h2 : placeC L e = 0
    · rw [if_neg (not_not_intro h2)] at h
      have hr := rightC_right h1
      have hi := ((entRight_iff _).1 hr).2.2.2.1
      have e1 : e.w = L.wr ∧ holdsE S L.pb e = true := by
        unfold rightC at h1
        rw [if_pos hr] at h1
        by_cases hw : e.w = L.wr
        · rw [if_pos hw] at h1
          by_cases hh : holdsE S L.pb e = true
          · exact ⟨hw, hh⟩
          · rw [if_neg hh] at h1; cases h1
        · rw [if_neg hw] at h1; cases h1
      have e2 : e.i = L.es.length := by
        unfold placeC at h2
        by_cases hg : e.i > L.es.length
        · rw [if_pos hg] at h2; cases h2
        · rw [if_neg hg] at h2
          by_cases he : e.i = L.es.length
          · exact he
          · rw [if_neg he] at h2; split at h2 <;> cases h2
      have e3 : e.pv = L.sum := by
        unfold behindC at h
        by_cases hp : e.pv = L.sum
        · exact hp
        · rw [if_neg hp] at h; cases h
      exact ⟨by omega, hr, e1.1, e1.2, e2, e3⟩
    · rw [if_pos h2] at h; exact absurd h h2
  · rw [if_pos h1] at h; exact absurd h h1
theorem cAccept_spec (P : PLog w o q k L) (h : POrc w o k S) (ok : Tags w o) (hqk : q ≠ k) (hok : S.ok) (hlen : S.used.length < 1000000) (hf : entRight e = true → e.fit) (hb : Row w o a (bytesV e.body)) :
    Calls Try.prog 15 #[.pointer (some (blk q)), entV e a c] w (Gs (fun i => i = q ∨ i = k) w o (.int .i64 (acceptC S L e).1) fun w' o' => PLog w' o' q k (acceptC S L e).2.1 ∧ POrc w' o' k (acceptC S L e).2.2) := by
  refine (chain_Log_Accept.go (some (blk q)) e.w e.i e.pv e.t e.tw e.ep a e.body.length c e.sg (R := fun v w' => ∃ o', v = .int .i64 (acceptC S L e).1 ∧ Step (fun i => i = q ∨ i = k) w o w' o' ∧ PLog w' o' q k (acceptC S L e).2.1 ∧ POrc w' o' k (acceptC S L e).2.2) ?_).mono fun x w' ⟨v, he, o', hv, hw⟩ => ⟨o', by rw [he, hv], hw⟩
  unfold chain_Log_Accept.N
  intro w10 p11 X10 hp
  have s10 := Step.of_no X10 ok
  refine (cCheck_spec (P.step s10 id) (h.step s10 id) s10.ok hf (hb.step s10).1).mono fun x w14 ⟨he, X14⟩ => ⟨_, he, X14.kept, fun h0 => ?_, fun h0 => ?_⟩
  · have s14 := s10.trans (Step.of_no X14 s10.ok)
    obtain ⟨q1, q2, _⟩ := accept_out P.few h0
    have hbl := ((entRight_iff _).1 q2).2.2.2.2.2.2.2.2.2.1
    refine (cput_spec (P.step s14 id) (h.step s14 id) s14.ok hqk hok hlen (hf q2) (hb.step s14) (by omega) q1).mono fun x w17 ⟨o17, he, s17, p17, h17⟩ => ⟨he, o17, ?_, s14.none.trans s17, ?_, ?_⟩
    · rw [h0]; unfold acceptC; rw [if_pos h0]
    · unfold acceptC; rw [if_pos h0]; exact p17
    · unfold acceptC; rw [if_pos h0]; exact h17
  · have s14 := s10.trans (Step.of_no X14 s10.ok)
    unfold acceptC
    rw [if_neg h0]
    exact ⟨_, rfl, s14.none, P.step s14 id, h.step s14 id⟩
theorem signE_body {s : Int} (h : entRight e = true) : (signE S s e).1.1.body.length ≤ 1100 := by
  unfold signE
  rw [if_pos h]
  split
  · exact ((entRight_iff _).1 h).2.2.2.2.2.2.2.2.2.1
  · exact Nat.zero_le _
theorem signE_e {s : Int} (h : (signE S s e).1.2 = 0) : entRight e = true ∧ (signE S s e).1.1 = { e with sg := (signOf S s (textL e)).1.1 } ∧ (signE S s e).2 = (signOf S s (textL e)).2 ∧ (signOf S s (textL e)).1.2 = true := by
  unfold signE at h ⊢
  by_cases hr : entRight e = true
  · rw [if_pos hr] at h ⊢
    by_cases hs : (signOf S s (textL e)).1.2 = true
    · rw [if_pos hs]; exact ⟨hr, rfl, rfl, hs⟩
    · rw [if_neg hs] at h; cases h
  · rw [if_neg hr] at h; cases h
theorem cIssue_spec (P : PLog w o q k L) (h : POrc w o k S) (ok : Tags w o) (hqk : q ≠ k) (hok : S.ok) (hlen : S.used.length + 1 < 1000000) (hsum : 0 ≤ L.sum ∧ L.sum < 18446744073709551616) (sec t tw ep : Int) {body : List UInt8} (hsg : 0 ≤ (signOf S sec (textL (nextE L t tw ep body))).1.1 ∧ (signOf S sec (textL (nextE L t tw ep body))).1.1 < 18446744073709551616) (hb : Row w o a (bytesV body)) :
    Calls Try.prog 14 #[.pointer (some (blk q)), .int .u64 sec, .agg #[.int .i64 t, .int .i64 tw], .int .i64 ep, .slice a body.length c] w (fun x w' => ∃ o' a' c', x = .returned (.tuple #[entV (issueC S L sec t tw ep body).1.1 a' c', .int .i64 (issueC S L sec t tw ep body).1.2]) ∧ Step (fun i => i = q ∨ i = k) w o w' o' ∧
      PLog w' o' q k (issueC S L sec t tw ep body).2.1 ∧ POrc w' o' k (issueC S L sec t tw ep body).2.2 ∧ Row w' o' a' (bytesV (issueC S L sec t tw ep body).1.1.body) ∧ (issueC S L sec t tw ep body).1.1.body.length ≤ c') := by
  refine (chain_Log_Issue.go (some (blk q)) sec t tw ep a body.length c (R := fun v w' => ∃ o' a' c', v = (.tuple #[entV (issueC S L sec t tw ep body).1.1 a' c', .int .i64 (issueC S L sec t tw ep body).1.2]) ∧ Step (fun i => i = q ∨ i = k) w o w' o' ∧
      PLog w' o' q k (issueC S L sec t tw ep body).2.1 ∧ POrc w' o' k (issueC S L sec t tw ep body).2.2 ∧ Row w' o' a' (bytesV (issueC S L sec t tw ep body).1.1.body) ∧ (issueC S L sec t tw ep body).1.1.body.length ≤ c') ?_).mono fun x w' ⟨v, he, o', a', c', hv, hw⟩ => ⟨o', a', c', by rw [he, hv], hw⟩
  unfold chain_Log_Issue.N
  obtain ⟨la, lc, l, g0, b1, b2, b3, b4⟩ := P.st
  have hl := len_map_e g0
  have hlt := P.lt
  have hF : entry_Right.F L.wr (l.length : Int) L.sum t tw ep a body.length c 0 = entRight (nextE L t tw ep body) := by
    rw [hl]; exact entRight_F (nextE L t tw ep body) a c
  refine ⟨fun h => (by cases h), fun _ => ⟨_, rfl, la, l.length, lc, b1.cella (i := 3) rfl, fun hge w31 X31 => ?_, fun hlt2 => ⟨_, b1.cella (i := 1) rfl, la, l.length, lc, b1.cella (i := 3) rfl, _, b1.cella (i := 4) rfl, ?_⟩⟩⟩
  · have s := Step.of_no X31 ok
    unfold issueC; rw [if_pos (show L.es.length ≥ 200 by omega)]
    exact ⟨_, none, 0, rfl, s.none, P.step s id, h.step s id, Row.nil _ _ _, Nat.le_refl _⟩
  rw [hF]
  have hn : ¬ (L.es.length ≥ 200) := by omega
  refine ⟨fun hr w59 X59 => ?_, fun hr w50 p64 p65 X50 hp => ?_⟩
  · have s := Step.of_no X59 ok
    unfold issueC; rw [if_neg hn, if_neg (by rw [hr]; decide)]
    exact ⟨_, none, 0, rfl, s.none, P.step s id, h.step s id, Row.nil _ _ _, Nat.le_refl _⟩
  obtain ⟨s50, M50⟩ := Step.priv X50 hp ok
  have g64 := hp p64 (by simp)
  have g65 := hp p65 (by simp)
  have hkl := h.lt
  have hE : ∀ (v : Value), v = entV (nextE L t tw ep body) a c → v = .agg #[.int .i64 L.wr, .int .i64 (l.length : Int), .int .u64 L.sum, .int .i64 t, .int .i64 tw, .int .i64 ep, .slice a body.length c, .int .u64 0] := fun v hv => by rw [hv, hl]; rfl
  have hf : (nextE L t tw ep body).fit := ⟨hsum.1, hsum.2, by show (0 : Int) ≤ 0; decide, by show (0 : Int) < _; decide⟩
  rw [← hE _ rfl]
  refine (cbehind_spec (P.step s50 id)).mono fun x w68 ⟨he, X68⟩ => ⟨_, he, X68.kept, fun hbe w77 X77 => ?_, fun hbe => ?_⟩
  · have s68' := Step.of_no X68 s50.ok
    have s77' := Step.stores X77 s68'.ok (M50.step s68') (by simp [or_comm])
    have s77 := (s50.trans s68').trans' s77' fun i hi => .inr (by simp at hi; omega)
    unfold issueC; rw [if_neg hn, if_pos hr, if_pos hbe]
    exact ⟨_, none, 0, rfl, s77.none, P.step s77 id, h.step s77 id, Row.nil _ _ _, Nat.le_refl _⟩
  have s68' := Step.of_no X68 s50.ok
  have s68 := s50.trans s68'
  have M68 := M50.step s68'
  refine ⟨_, (s68.blk b1 P.own id).cella (i := 0) rfl, fun w78 X78 => ?_⟩
  have s78' := Step.of_no X78 s68.ok
  have s78 := s68.trans s78'
  have M78 := M68.step s78'
  have l78 := s78.size
  refine (SignE (h.step s78 id) s78.ok hok (by omega) sec (e := nextE L t tw ep body) (fun _ => hf) (hb.step s78)).mono fun x w91 ⟨o91, sa, sc, he, s91', p91, rs, ls⟩ => ⟨_, _, _, _, _, _, _, _, _, _, _, he, M78.keep s91' (by simp; omega), ?_⟩
  have s91 : Step (fun i => i = q ∨ i = k) w o w91 o91 := s78.none.trans (s91'.mono fun i h _ => .inr h)
  have M91 := M78.step s91'
  have l91 := s91.size
  have P91 := (P.step s78 id).step s91' hqk
  refine ⟨fun hsi w108 X108 => ?_, fun hsi w99 X99 => ?_⟩
  · have s108' := Step.stores X108 s91.ok M91 (by simp [or_comm])
    have s108 := s91.trans' s108' fun i hi => .inr (by simp at hi; omega)
    unfold issueC; rw [if_neg hn, if_pos hr, if_neg (not_not_intro hbe), if_pos hsi]
    exact ⟨_, none, 0, rfl, s108, P91.step s108' (by simp; omega), p91.step s108' (by simp; omega), Row.nil _ _ _, Nat.le_refl _⟩
  · have s99' := Step.stores X99 s91.ok (M91.sub (M := [p65]) (by simp)) (by simp)
    have s99 := s91.trans' s99' fun i hi => .inr (by simp at hi; omega)
    have M99 := M91.step s99'
    obtain ⟨z1, z2, z3, z4⟩ := signE_e hsi
    have hfit : (signE S sec (nextE L t tw ep body)).1.1.fit := by rw [z2]; exact ⟨hf.1, hf.2, hsg.1, hsg.2⟩
    have hbl := signE_body (S := S) (s := sec) hr
    have hok9 : (signE S sec (nextE L t tw ep body)).2.ok ∧ (signE S sec (nextE L t tw ep body)).2.used.length ≤ S.used.length + 1 := by rw [z3]; exact signOf_ok hok sec _
    refine (cput_spec (P91.step s99' (by simp; omega)) (p91.step s99' (by simp; omega)) s99.ok hqk hok9.1 (by omega) hfit (rs.step s99') (by omega) (by omega)).mono fun x w110 ⟨o110, he, s110', p110, h110⟩ => ⟨he, (M99.sub (M := [p64, p65]) (by simp)).keep s110' (by simp; omega), fun w118 X118 => ?_⟩
    have s118' := Step.stores X118 s110'.ok ((M99.step s110').sub (M := [p64]) (by simp)) (by simp)
    have s118 : Step (fun i => i = q ∨ i = k) w o w118 _ := (s99.trans s110').trans' s118' fun i hi => .inr (by simp at hi; omega)
    unfold issueC; rw [if_neg hn, if_pos hr, if_neg (not_not_intro hbe), if_neg (not_not_intro hsi)]
    exact ⟨_, sa, sc, rfl, s118, p110.step s118' (by simp; omega), h110.step s118' (by simp; omega), ((rs.step s99').step s110').step s118', ls⟩
end
end Go.Proofs.Ytnppbflccbpoeaa

/- Chain: what a log tells (the program's). -/
set_option linter.unusedVariables false
set_option linter.unusedSimpArgs false
set_option maxRecDepth 20000
set_option maxHeartbeats 2000000
namespace Go.Proofs.Ytnppbflccbpoeaa
open Go Go.Mx Go.Proofs
open W (OwnB GivesW numR countR doneR zig unzig intR)
section
variable {w w' w1 : World} {o o' o1 : Own} {q k n : Nat} {K : Nat → Prop} {S : OS} {L : CL} {e : Ent} {a : Option Addr} {c : Nat}
theorem cHead_spec (P : PLog w o q k L) : Calls Try.prog 16 #[.pointer (some (blk q))] w (Ret (.agg #[.int .i64 L.wr, .int .i64 L.es.length, .int .u64 L.sum]) fun w' => Ext no w w') := by
  refine chain_Log_Head.run _ ?_
  unfold chain_Log_Head.N
  obtain ⟨la, lc, l, g0, b1, b2, b3, b4⟩ := P.st
  refine ⟨fun h => (by cases h), fun _ => ⟨_, rfl, _, b1.cella (i := 1) rfl, la, l.length, lc, b1.cella (i := 3) rfl, _, b1.cella (i := 4) rfl, fun w' X => ⟨by rw [len_map_e g0], X⟩⟩⟩
theorem cAll_spec (P : PLog w o q k L) (ok : Tags w o) (hbl : ∀ e ∈ L.es, e.body.length ≤ 1000000) :
    Calls Try.prog 18 #[.pointer (some (blk q))] w (fun x w' => ∃ o' a' c', ∃ l' : List PE, x = .returned (.slice a' l'.length c') ∧ Step no w o w' o' ∧ l'.map PE.e = L.es ∧ Row w' o' a' (PE.Cs l') ∧ l'.length ≤ c' ∧ ∀ x ∈ l', x.ok w' o') := by
  refine (chain_Log_All.go (some (blk q)) (R := fun v w' => ∃ o' a' c', ∃ l' : List PE, v = (.slice a' l'.length c') ∧ Step no w o w' o' ∧ l'.map PE.e = L.es ∧ Row w' o' a' (PE.Cs l') ∧ l'.length ≤ c' ∧ ∀ x ∈ l', x.ok w' o') ?_).mono fun x w' ⟨v, he, o', a', c', l', hv, hw⟩ => ⟨o', a', c', l', by rw [he, hv], hw⟩
  unfold chain_Log_All.N
  obtain ⟨la, lc, l, g0, b1, b2, b3, b4⟩ := P.st
  have hl := len_map_e g0
  have hfew := P.few
  refine ⟨fun h => (by cases h), fun _ => ⟨_, rfl, la, l.length, lc, b1.cella (i := 3) rfl, ?_⟩⟩
  refine ⟨fun m vs w1 => ∃ (t : Nat) (a1 : Option Addr) (c1 : Nat) (l1 : List PE) (o1 : Own), vs = [.slice a1 l1.length c1, .int .i64 t] ∧ m + t = l.length ∧ l1.map PE.e = L.es.take t ∧ Step no w o w1 o1 ∧ LRow 39 8 w.heap.size w1 o1 a1 l1.length c1 (PE.Cs l1) ∧ ∀ x ∈ l1, x.ok w1 o1, l.length,
    ⟨0, none, 0, [], o, rfl, rfl, rfl, Step.refl _ ok, LRow.nil _ _ _ _ _, fun x h => by cases h⟩, ?_⟩
  rintro m w1 ra rn rc i ⟨t, a1, c1, l1, o1, hi, hm, hmap, s1, hL, hok⟩
  simp only [List.cons.injEq, Value.slice.injEq, Value.int.injEq, true_and, and_true] at hi
  obtain ⟨⟨rfl, rfl, rfl⟩, rfl⟩ := hi
  have hlen1 : l1.length = min t L.es.length := by have := congrArg List.length hmap; simpa using this
  refine ⟨fun ht => ?_, fun ht => ?_⟩
  · have hi : t < l.length := by omega
    have hgx : l[t]? = some l[t] := List.getElem?_eq_getElem hi
    have hxm := List.getElem_mem hi
    generalize l[t] = x at *
    have b2' := b2.step s1 id
    obtain ⟨ad, rfl⟩ := b2.row.faddr PE.len (by decide) hi
    have hld := PE.loads b2'.row rfl hgx
    refine ⟨ad, rfl, by omega, by omega, x.e.w, x.e.i, x.e.pv, x.e.t, x.e.tw, x.e.ep, x.a, x.e.body.length, x.c, x.e.sg, by rw [Int.toNat_natCast]; exact hld, fun w30 X30 => ?_⟩
    have s30 := Step.of_no X30 s1.ok
    refine (cOwn_spec s30.ok (((b4 x hxm).1.step s1).step s30) (hbl _ (by rw [← g0]; exact List.mem_map_of_mem hxm))).mono fun z w41 ⟨o41, ba, bc, he, s41, rb, lb⟩ => ⟨_, _, _, _, _, _, _, _, _, _, he, fun w42 q43 X42 hb43 hq43 hq43' => ?_⟩
    have s42 := Step.of_no X42 s41.ok
    have s142 : Step no w1 o1 w42 _ := (s30.trans s41).trans s42
    have hL42 := hL.step s142 fun k h => h.elim
    obtain ⟨i, hi, hz, hsz, hby⟩ := info_of inf39
    have hnews : RowAt w42 (some (blk q43)) (PE.C ⟨x.e, ba, bc⟩) := RowAt.of_blk hb43
    have l1le := s1.size
    have l42 := s142.size
    have l41 := (s30.trans s41).size
    obtain ⟨a', c', w45, o45, hr, s45, hL45, _⟩ := hL42.push (ty := 49) Try.underlying49 hi hz hsz hby rfl (by decide) s42.ok (p := q43) (by omega) hq43' (xa := some (blk q43)) (m := 1) (xc := 1) (news := PE.C ⟨x.e, ba, bc⟩) rfl hnews (PE.one _) (by omega) (by omega)
    refine ⟨a', _, c', w45, hr, by omega, by omega, m - 1, by omega, t + 1, a', c', l1 ++ [⟨x.e, ba, bc⟩], o45, by simp, by omega, ?_, (s1.trans s142).trans' s45 fun j hj => .inr hj, ?_, fun y hy => ?_⟩
    · rw [List.map_append, hmap, List.take_add_one, getElem_map_e g0, hgx]; rfl
    · have : PE.Cs (l1 ++ [⟨x.e, ba, bc⟩]) = PE.Cs l1 ++ PE.C ⟨x.e, ba, bc⟩ := by simp [PE.Cs]
      rw [List.length_append, this]; exact hL45
    · rcases List.mem_append.1 hy with hy | hy
      · exact ((hok y hy).step s142).step s45
      · simp at hy; subst hy
        exact ⟨((rb.step s42).step s45), lb, (b4 x hxm).2.2⟩
  · have : t = l.length := by omega
    subst this
    rw [hl, List.take_length] at hmap
    refine ⟨_, _, _, l1, rfl, Step.of_no (s1.ext.mono fun b ⟨_, _, h⟩ _ => h) ok, hmap, hL.give s1 (Nat.le_refl _), hL.le, fun x hx => ?_⟩
    obtain ⟨r1, r2, r3⟩ := hok x hx
    exact ⟨r1.forget s1, r2, r3⟩
end
end Go.Proofs.Ytnppbflccbpoeaa

/- The oracle's tables, plainly: what stays true through all calls. -/
set_option linter.unusedVariables false
set_option linter.unusedSimpArgs false
namespace Go.Proofs.Ytnppbflccbpoeaa
open Go Go.Mx Go.Proofs
structure OInv (S : OS) : Prop where
  ok : S.ok
  rng : ∀ x ∈ S.used, 0 < x ∧ (x < 18446744073709551616 ∨ x ≤ 2 * S.used.length)
  hu : ∀ b h, alook S.hashes b = some h → h ∈ S.used
  hi : ∀ b c h, alook S.hashes b = some h → alook S.hashes c = some h → b = c
  sg : ∀ q x, alook S.signs q = some x → alook S.signed x = some q
  gs : ∀ x q, alook S.signed x = some q → alook S.signs q = some x
  su : ∀ x q, alook S.signed x = some q → x ∈ S.used
  pu : ∀ p s, alook S.publics p = some s → p ∈ S.used
  ps : ∀ p s, alook S.publics p = some s → s ∈ S.secrets
  eu : ∀ s ∈ S.secrets, s ∈ S.used
theorem OInv.nz {S : OS} (h : OInv S) : ∀ x ∈ S.used, x ≠ 0 := fun x hx => by have := (h.rng x hx).1; omega
theorem OInv.fit {S : OS} (h : OInv S) (hl : S.used.length < 1000000000) {x : Int} (hx : x ∈ S.used) : 0 ≤ x ∧ x < 18446744073709551616 := by
  have := h.rng x hx
  omega
theorem fresh_rng {S : OS} (h : S.ok) : 0 < (freshOf S).1 ∧ ((freshOf S).1 < 18446744073709551616 ∨ (freshOf S).1 ≤ 2 * ((S.used.length : Int) + 1)) := by
  obtain ⟨h1, h2, h3, h4⟩ := h
  unfold freshOf
  cases hp : pickD S.draws S.used with
  | some q =>
    obtain ⟨x, r⟩ := q
    obtain ⟨a, b, c⟩ := pickD_spec hp
    have := h4 x c
    exact ⟨by show 0 < x; omega, .inl this.2⟩
  | none =>
    obtain ⟨a, b, c, d, e⟩ := pickN_spec S.used (S.used.length + 1) S.next h1 (gap S.used _ _ (by omega))
    exact ⟨by show 0 < pickN _ _ _; omega, .inr (by show pickN _ _ _ ≤ _; omega)⟩
/-- nothing is lost. -/
structure OS.le (S S' : OS) : Prop where
  hashes : ∀ b h, alook S.hashes b = some h → alook S'.hashes b = some h
  signs : ∀ q x, alook S.signs q = some x → alook S'.signs q = some x
  signed : ∀ x q, alook S.signed x = some q → alook S'.signed x = some q
  publics : ∀ p s, alook S.publics p = some s → alook S'.publics p = some s
  secrets : ∀ s ∈ S.secrets, s ∈ S'.secrets
  used : ∀ x ∈ S.used, x ∈ S'.used
theorem OS.le.refl (S : OS) : OS.le S S := ⟨fun _ _ h => h, fun _ _ h => h, fun _ _ h => h, fun _ _ h => h, fun _ h => h, fun _ h => h⟩
theorem OS.le.trans {S T U : OS} (a : OS.le S T) (b : OS.le T U) : OS.le S U :=
  ⟨fun x y h => b.hashes x y (a.hashes x y h), fun x y h => b.signs x y (a.signs x y h), fun x y h => b.signed x y (a.signed x y h), fun x y h => b.publics x y (a.publics x y h), fun x h => b.secrets x (a.secrets x h), fun x h => b.used x (a.used x h)⟩
theorem OInv.init {l : List Int} (hl : ∀ d ∈ l, 0 ≤ d ∧ d < 18446744073709551616) : OInv (OS.init l) :=
  ⟨OS.init_ok l hl, fun x h => by simp [OS.init] at h, fun b h e => by simp [OS.init, alook] at e, fun b c h e => by simp [OS.init, alook] at e, fun q x e => by simp [OS.init, alook] at e, fun x q e => by simp [OS.init, alook] at e,
    fun x q e => by simp [OS.init, alook] at e, fun p s e => by simp [OS.init, alook] at e, fun p s e => by simp [OS.init, alook] at e, fun s h => by simp [OS.init] at h⟩
/-- after a fresh handle, the tables as they were. -/
theorem fresh_inv {S : OS} (h : OInv S) : OInv (freshOf S).2 ∧ OS.le S (freshOf S).2 ∧ (freshOf S).1 ∉ S.used ∧ (freshOf S).1 ∈ (freshOf S).2.used ∧ (freshOf S).1 ≠ 0 := by
  obtain ⟨a1, a2, a3, a4⟩ := freshOf_spec h.ok
  obtain ⟨c1, c2, c3, c4, c5, c6, c7, c8⟩ := freshOf_frame S
  have hsub : ∀ x ∈ S.used, x ∈ (freshOf S).2.used := fun x hx => by rw [a3]; simp [hx]
  refine ⟨⟨a4, fun x hx => ?_, fun b k e => hsub _ (h.hu b k (by rw [← c1]; exact e)), fun b c k e1 e2 => h.hi b c k (by rw [← c1]; exact e1) (by rw [← c1]; exact e2), fun q x e => ?_, fun x q e => ?_, fun x q e => ?_, fun p s e => ?_, fun p s e => ?_, fun s hs => ?_⟩,
    ⟨fun b k e => by rw [c1]; exact e, fun q x e => by rw [c5]; exact e, fun x q e => by rw [c6]; exact e, fun p s e => by rw [c4]; exact e, fun s hs => by rw [c3]; exact hs, hsub⟩, a2, by rw [a3]; simp, a1⟩
  · have hl : (freshOf S).2.used.length = S.used.length + 1 := by rw [a3]; simp
    rw [hl]
    rw [a3] at hx
    rcases List.mem_append.1 hx with hx | hx
    · have := h.rng x hx; omega
    · simp at hx; rw [hx]; have := fresh_rng h.ok; omega
  · rw [c5] at e; rw [c6]; exact h.sg q x e
  · rw [c6] at e; rw [c5]; exact h.gs x q e
  · rw [c6] at e; exact hsub _ (h.su x q e)
  · rw [c4] at e; exact hsub _ (h.pu p s e)
  · rw [c4] at e; rw [c3]; exact h.ps p s e
  · rw [c3] at hs; exact hsub _ (h.eu s hs)
theorem hash_inv {S : OS} (h : OInv S) (b : List UInt8) : OInv (hashOf S b).2 ∧ OS.le S (hashOf S b).2 ∧ alook (hashOf S b).2.hashes b = some (hashOf S b).1 ∧ (hashOf S b).1 ≠ 0 ∧
    (hashOf S b).2.signs = S.signs ∧ (hashOf S b).2.signed = S.signed ∧ (hashOf S b).2.publics = S.publics ∧ (hashOf S b).2.secrets = S.secrets := by
  obtain ⟨c1, c2, c3, c4, c5, c6, c7, c8⟩ := freshOf_frame S
  obtain ⟨f1, f2, f3, f4, f5⟩ := fresh_inv h
  unfold hashOf
  cases hk : alook S.hashes b with
  | some x => exact ⟨h, OS.le.refl _, hk, h.nz _ (h.hu b x hk), rfl, rfl, rfl, rfl⟩
  | none =>
    have hl : ∀ c k, alook (aput S.hashes b (freshOf S).1) c = some k → (b = c ∧ k = (freshOf S).1) ∨ alook S.hashes c = some k := fun c k e => by
      rw [alook_put] at e
      split at e
      · rename_i hbc; cases e; exact .inl ⟨hbc, rfl⟩
      · exact .inr e
    refine ⟨⟨f1.ok, f1.rng, fun c k e => ?_, fun c d k e1 e2 => ?_, f1.sg, f1.gs, f1.su, f1.pu, f1.ps, f1.eu⟩, ⟨fun c k e => ?_, f2.signs, f2.signed, f2.publics, f2.secrets, f2.used⟩, ?_, f5, c5, c6, c4, c3⟩
    · rcases hl c k e with ⟨_, rfl⟩ | e
      · exact f4
      · exact f2.used _ (h.hu c k e)
    · rcases hl c k e1 with ⟨rfl, rfl⟩ | e1 <;> rcases hl d _ e2 with ⟨rfl, _⟩ | e2
      · rfl
      · exact absurd (h.hu d _ e2) f3
      · rename_i hk2; subst hk2; exact absurd (h.hu c _ e1) f3
      · exact h.hi c d k e1 e2
    · show alook (aput S.hashes b (freshOf S).1) c = some k
      rw [alook_put, if_neg (fun e' => by subst e'; rw [hk] at e; cases e)]; exact e
    · show alook (aput S.hashes b (freshOf S).1) b = _
      rw [alook_put, if_pos rfl]
theorem hash_eq {S : OS} {b : List UInt8} {x : Int} (h : alook S.hashes b = some x) : hashOf S b = (x, S) := by unfold hashOf; rw [h]
theorem badd_mem {l : List Int} {x y : Int} : y ∈ badd l x ↔ y ∈ l ∨ y = x := by
  unfold badd
  split
  · constructor
    · exact .inl
    · rintro (h | rfl)
      · exact h
      · assumption
  · simp
theorem pair_inv {S : OS} (h : OInv S) : OInv (pairOf S).2 ∧ OS.le S (pairOf S).2 ∧ alook (pairOf S).2.publics (pairOf S).1.2 = some (pairOf S).1.1 ∧ (pairOf S).1.1 ∈ (pairOf S).2.secrets ∧ (pairOf S).1.2 ∉ (pairOf S).2.secrets ∧ (pairOf S).1.1 ∉ S.secrets ∧
    (pairOf S).2.hashes = S.hashes ∧ (pairOf S).2.signs = S.signs ∧ (pairOf S).2.signed = S.signed := by
  obtain ⟨a1, a2, a3, a4, a5, a6, a7, a8, a9, a10, a11, a12, a13, a14⟩ := pairOf_spec h.ok
  obtain ⟨k1, _⟩ := pairOf_ok h.ok
  have hsub : ∀ x ∈ S.used, x ∈ (pairOf S).2.used := fun x hx => by rw [a6]; simp [hx]
  have hl : ∀ c k, alook (pairOf S).2.publics c = some k → ((pairOf S).1.2 = c ∧ k = (pairOf S).1.1) ∨ alook S.publics c = some k := fun c k e => by
    rw [a8, alook_put] at e
    split at e
    · rename_i hbc; cases e; exact .inl ⟨hbc, rfl⟩
    · exact .inr e
  have hall : ∀ x ∈ (pairOf S).2.used, 0 < x ∧ (x < 18446744073709551616 ∨ x ≤ 2 * ((pairOf S).2.used.length : Int)) := fun x hx => by
    have h5 : OS.ok { (freshOf S).2 with secrets := badd S.secrets (freshOf S).1 } := (freshOf_spec h.ok).2.2.2
    have r1 := fresh_rng h.ok
    have r2 : 0 < (pairOf S).1.2 ∧ ((pairOf S).1.2 < 18446744073709551616 ∨ (pairOf S).1.2 ≤ 2 * (((freshOf S).2.used.length : Int) + 1)) := fresh_rng h5
    have r3 : (freshOf S).2.used.length = S.used.length + 1 := by rw [(freshOf_spec h.ok).2.2.1]; simp
    have r4 : (pairOf S).2.used.length = S.used.length + 2 := by rw [a6]; simp
    rw [r4]
    rw [a6] at hx
    rcases List.mem_append.1 hx with hx | hx
    · rcases List.mem_append.1 hx with hx | hx
      · have := h.rng x hx; omega
      · simp at hx; rw [hx]; show 0 < (freshOf S).1 ∧ ((freshOf S).1 < _ ∨ (freshOf S).1 ≤ _); omega
    · simp at hx; rw [hx]; omega
  refine ⟨⟨k1, hall, fun b k e => hsub _ (h.hu b k (by rw [← a9]; exact e)), fun b c k e1 e2 => h.hi b c k (by rw [← a9]; exact e1) (by rw [← a9]; exact e2), fun q x e => by rw [a11] at e; rw [a12]; exact h.sg q x e, fun x q e => by rw [a12] at e; rw [a11]; exact h.gs x q e,
    fun x q e => by rw [a12] at e; exact hsub _ (h.su x q e), fun p s e => ?_, fun p s e => ?_, fun s hs => ?_⟩, ⟨fun b k e => by rw [a9]; exact e, fun q x e => by rw [a11]; exact e, fun x q e => by rw [a12]; exact e, fun p s e => ?_, fun s hs => by rw [a7, badd_mem]; exact .inl hs, hsub⟩, ?_, by rw [a7, badd_mem]; exact .inr rfl, fun hs => ?_, fun hs => a3 (h.eu _ hs), a9, a11, a12⟩
  · rcases hl p s e with ⟨rfl, _⟩ | e
    · rw [a6]; simp
    · exact hsub _ (h.pu p s e)
  · rw [a7, badd_mem]
    rcases hl p s e with ⟨_, rfl⟩ | e
    · exact .inr rfl
    · exact .inl (h.ps p s e)
  · rw [a7, badd_mem] at hs
    rcases hs with hs | rfl
    · exact hsub _ (h.eu s hs)
    · rw [a6]; simp
  · rw [a8, alook_put, if_neg (fun e' => a4 (by rw [e']; exact h.pu p s e))]; exact e
  · rw [a8, alook_put, if_pos rfl]
  · rw [a7, badd_mem] at hs
    rcases hs with hs | hs
    · exact a4 (h.eu _ hs)
    · exact a5 hs.symm
theorem sign_inv {S : OS} (h : OInv S) {k : Int} (hk : k ∈ S.secrets) (b : List UInt8) : OInv (signOf S k b).2 ∧ OS.le S (signOf S k b).2 ∧ (signOf S k b).1.2 = true ∧ alook (signOf S k b).2.signed (signOf S k b).1.1 = some (k, b) ∧ alook (signOf S k b).2.signs (k, b) = some (signOf S k b).1.1 ∧
    (signOf S k b).2.hashes = S.hashes ∧ (signOf S k b).2.publics = S.publics ∧ (signOf S k b).2.secrets = S.secrets := by
  obtain ⟨c1, c2, c3, c4, c5, c6, c7, c8⟩ := freshOf_frame S
  obtain ⟨f1, f2, f3, f4, f5⟩ := fresh_inv h
  unfold signOf
  rw [if_pos hk]
  cases hs : alook S.signs (k, b) with
  | some x => exact ⟨h, OS.le.refl _, rfl, h.sg _ _ hs, hs, rfl, rfl, rfl⟩
  | none =>
    have hl : ∀ c z, alook (aput S.signs (k, b) (freshOf S).1) c = some z → ((k, b) = c ∧ z = (freshOf S).1) ∨ alook S.signs c = some z := fun c z e => by
      rw [alook_put] at e
      split at e
      · rename_i hbc; cases e; exact .inl ⟨hbc, rfl⟩
      · exact .inr e
    have hg : ∀ c z, alook (aput S.signed (freshOf S).1 (k, b)) c = some z → ((freshOf S).1 = c ∧ z = (k, b)) ∨ alook S.signed c = some z := fun c z e => by
      rw [alook_put] at e
      split at e
      · rename_i hbc; cases e; exact .inl ⟨hbc, rfl⟩
      · exact .inr e
    have hn : ∀ x q, alook S.signed x = some q → (freshOf S).1 ≠ x := fun x q e e' => f3 (by rw [e']; exact h.su x q e)
    refine ⟨⟨f1.ok, f1.rng, f1.hu, f1.hi, fun q x e => ?_, fun x q e => ?_, fun x q e => ?_, f1.pu, f1.ps, f1.eu⟩, ⟨f2.hashes, fun q x e => ?_, fun x q e => ?_, f2.publics, f2.secrets, f2.used⟩, rfl, ?_, ?_, c1, c4, c3⟩
    · show alook (aput S.signed (freshOf S).1 (k, b)) x = some q
      rcases hl q x e with ⟨rfl, rfl⟩ | e
      · rw [alook_put, if_pos rfl]
      · rw [alook_put, if_neg (hn x q (h.sg q x e))]; exact h.sg q x e
    · show alook (aput S.signs (k, b) (freshOf S).1) q = some x
      rcases hg x q e with ⟨rfl, rfl⟩ | e
      · rw [alook_put, if_pos rfl]
      · rw [alook_put, if_neg (fun e' => by subst e'; have := h.gs x _ e; rw [hs] at this; cases this)]; exact h.gs x q e
    · rcases hg x q e with ⟨rfl, rfl⟩ | e
      · exact f4
      · exact f2.used _ (h.su x q e)
    · show alook (aput S.signs (k, b) (freshOf S).1) q = some x
      rw [alook_put, if_neg (fun e' => by subst e'; rw [hs] at e; cases e)]; exact e
    · show alook (aput S.signed (freshOf S).1 (k, b)) x = some q
      rw [alook_put, if_neg (hn x q e)]; exact e
    · show alook (aput S.signed (freshOf S).1 (k, b)) (freshOf S).1 = _
      rw [alook_put, if_pos rfl]
    · show alook (aput S.signs (k, b) (freshOf S).1) (k, b) = _
      rw [alook_put, if_pos rfl]
theorem verify_at {S : OS} {p s : Int} (hp : alook S.publics p = some s) (b : List UInt8) (x : Int) : verifyOf S p b x = decide (alook S.signed x = some (s, b)) := by
  unfold verifyOf
  rw [hp]
  cases alook S.signed x with
  | none => simp
  | some q => simp
end Go.Proofs.Ytnppbflccbpoeaa

/- Logs, plainly: what stays true. -/
set_option linter.unusedVariables false
set_option linter.unusedSimpArgs false
set_option maxRecDepth 20000
namespace Go.Proofs.Ytnppbflccbpoeaa
open Go Go.Mx Go.Proofs
def hv (S : OS) (e : Ent) : Int := (alook S.hashes (bytesL e)).getD 0
def sumS (S : OS) (es : List Ent) : Int := match es.getLast? with | none => 0 | some e => hv S e
structure OkAt (S : OS) (wr s : Int) (pre : List Ent) (e : Ent) : Prop where
  right : entRight e = true
  fit : e.fit
  w : e.w = wr
  sg : alook S.signed e.sg = some (s, textL e)
  i : e.i = pre.length
  pv : e.pv = sumS S pre
  late : ∀ x, pre.getLast? = some x → lessS x.t x.tw e.t e.tw = true
def Good (S : OS) (wr s : Int) (es : List Ent) : Prop := ∀ (i : Nat) (e : Ent), es[i]? = some e → OkAt S wr s (es.take i) e ∧ ∃ h, alook S.hashes (bytesL e) = some h
/-- a secret, and its public. -/
structure Keyed (S : OS) (s p : Int) : Prop where
  sec : s ∈ S.secrets
  pub : alook S.publics p = some s
theorem Keyed.le {S S' : OS} {s p : Int} (h : Keyed S s p) (l : OS.le S S') : Keyed S' s p := ⟨l.secrets _ h.sec, l.publics _ _ h.pub⟩
structure LOk (S : OS) (s p : Int) (L : CL) : Prop where
  good : Good S L.wr s L.es
  sum : L.sum = sumS S L.es
  pb : L.pb = p
  few : L.es.length ≤ 200
section
variable {S S' : OS} {s p wr : Int} {L : CL} {e : Ent} {es : List Ent}
theorem hv_le (l : OS.le S S') {h : Int} (hh : alook S.hashes (bytesL e) = some h) : hv S' e = hv S e := by unfold hv; rw [hh, l.hashes _ _ hh]
theorem last_get {es : List Ent} {x : Ent} (h : es.getLast? = some x) : es[es.length - 1]? = some x := by rw [← List.getLast?_eq_getElem?]; exact h
theorem sumS_le (l : OS.le S S') (h : ∀ e ∈ es, ∃ h, alook S.hashes (bytesL e) = some h) : sumS S' es = sumS S es := by
  unfold sumS
  cases hl : es.getLast? with
  | none => rfl
  | some x =>
    obtain ⟨y, hy⟩ := h x (List.mem_of_getElem? (last_get hl))
    exact hv_le l hy
theorem Good.hashed (g : Good S wr s es) : ∀ e ∈ es, ∃ h, alook S.hashes (bytesL e) = some h := fun e he => by
  obtain ⟨i, hi⟩ := List.getElem?_of_mem he
  exact (g i e hi).2
theorem Good.nil : Good S wr s [] := fun i e h => by simp at h
theorem Good.take (g : Good S wr s es) (n : Nat) : Good S wr s (es.take n) := fun i e h => by
  rw [List.getElem?_take] at h
  split at h
  · have := g i e h
    rw [List.take_take, Nat.min_eq_left (by omega)]; exact this
  · cases h
theorem OkAt.le {pre : List Ent} (h : OkAt S wr s pre e) (l : OS.le S S') (hp : ∀ e ∈ pre, ∃ h, alook S.hashes (bytesL e) = some h) : OkAt S' wr s pre e :=
  ⟨h.right, h.fit, h.w, l.signed _ _ h.sg, h.i, by rw [sumS_le l hp]; exact h.pv, h.late⟩
theorem Good.le (g : Good S wr s es) (l : OS.le S S') : Good S' wr s es := fun i e h => by
  obtain ⟨h1, x, hx⟩ := g i e h
  exact ⟨h1.le l (g.take i).hashed, x, l.hashes _ _ hx⟩
theorem Good.add (g : Good S wr s es) (h : OkAt S wr s es e) (hh : ∃ h, alook S.hashes (bytesL e) = some h) : Good S wr s (es ++ [e]) := fun i x hx => by
  by_cases hi : i < es.length
  · rw [List.getElem?_append_left hi] at hx
    have := g i x hx
    rwa [List.take_append_of_le_length (by omega)]
  · have hi2 : i = es.length := by
      have := (List.getElem?_eq_some_iff.1 hx).1
      simp at this; omega
    subst hi2
    rw [List.getElem?_append_right (Nat.le_refl _), Nat.sub_self] at hx
    simp at hx
    subst hx
    rw [List.take_append_of_le_length (Nat.le_refl _), List.take_length]
    exact ⟨h, hh⟩
theorem LOk.nil (wr : Int) : LOk S s p ⟨wr, p, [], 0⟩ := ⟨Good.nil, rfl, rfl, Nat.zero_le _⟩
theorem LOk.le (h : LOk S s p L) (l : OS.le S S') : LOk S' s p L := ⟨h.good.le l, by rw [sumS_le l h.good.hashed]; exact h.sum, h.pb, h.few⟩
theorem sumE_right (hr : entRight e = true) : sumE S e = (((hashOf S (bytesL e)).1, 0), (hashOf S (bytesL e)).2) := by unfold sumE; rw [if_pos hr]
theorem LOk.put (h : LOk S s p L) (inv : OInv S) (he : OkAt S L.wr s L.es e) (hl : L.es.length < 200) : LOk (putC S L e).2 s p (putC S L e).1 ∧ OInv (putC S L e).2 ∧ OS.le S (putC S L e).2 ∧ (putC S L e).2.used.length ≤ S.used.length + 1 := by
  obtain ⟨a1, a2, a3, a4, _⟩ := hash_inv inv (bytesL e)
  have hu := (hashOf_ok inv.ok (bytesL e)).2
  unfold putC
  rw [sumE_right he.right]
  have h' := h.le a2
  refine ⟨⟨h'.good.add (he.le a2 h.good.hashed) ⟨_, a3⟩, ?_, h.pb, by simp; omega⟩, a1, a2, hu⟩
  show (hashOf S (bytesL e)).1 = sumS _ (L.es ++ [e])
  unfold sumS
  rw [List.getLast?_append]
  simp [hv, a3]
theorem LOk.fit (h : LOk S s p L) (inv : OInv S) (hl : S.used.length < 1000000) : 0 ≤ L.sum ∧ L.sum < 18446744073709551616 := by
  rw [h.sum]
  unfold sumS
  cases hl' : L.es.getLast? with
  | none => exact ⟨by show (0 : Int) ≤ 0; decide, by show (0 : Int) < _; decide⟩
  | some x =>
    obtain ⟨y, hy⟩ := h.good.hashed x (List.mem_of_getElem? (last_get hl'))
    show 0 ≤ hv S x ∧ hv S x < _
    unfold hv; rw [hy]
    exact inv.fit (by omega) (inv.hu _ _ hy)
theorem holdsE_iff (hk : Keyed S s p) : holdsE S p e = true ↔ entRight e = true ∧ alook S.signed e.sg = some (s, textL e) := by
  unfold holdsE
  rw [Bool.and_eq_true, verify_at hk.pub, decide_eq_true_eq]
theorem behind_zero (h : behindC L e = 0) : e.pv = L.sum ∧ ∀ x, L.es.getLast? = some x → lessS x.t x.tw e.t e.tw = true := by
  unfold behindC at h
  by_cases hp : e.pv = L.sum
  · rw [if_pos hp] at h
    refine ⟨hp, fun x hx => ?_⟩
    rw [hx] at h
    simp only [] at h
    by_cases hl : lessS x.t x.tw e.t e.tw = true
    · exact hl
    · rw [if_neg hl] at h; cases h
  · rw [if_neg hp] at h; cases h
theorem behind_ok (h1 : e.pv = L.sum) (h2 : ∀ x, L.es.getLast? = some x → lessS x.t x.tw e.t e.tw = true) : behindC L e = 0 := by
  unfold behindC
  rw [if_pos h1]
  cases hl : L.es.getLast? with
  | none => rfl
  | some x => simp only []; rw [if_pos (h2 x hl)]
theorem check_behind (hes : L.es.length ≤ 200) (h : checkC S L e = 0) : behindC L e = 0 := by
  unfold checkC at h
  split at h
  · rename_i h1; exact absurd h h1
  · split at h
    · rename_i h1; exact absurd h h1
    · exact h
theorem LOk.accepted (h : LOk S s p L) (hk : Keyed S s p) (hf : entRight e = true → e.fit) (hc : checkC S L e = 0) : OkAt S L.wr s L.es e ∧ L.es.length < 200 := by
  obtain ⟨q1, q2, q3, q4, q5, q6⟩ := accept_out h.few hc
  rw [h.pb] at q4
  exact ⟨⟨q2, hf q2, q3, ((holdsE_iff hk).1 q4).2, q5, by rw [q6, h.sum], (behind_zero (check_behind h.few hc)).2⟩, q1⟩
theorem LOk.accept (h : LOk S s p L) (inv : OInv S) (hk : Keyed S s p) (hf : entRight e = true → e.fit) : LOk (acceptC S L e).2.2 s p (acceptC S L e).2.1 ∧ OInv (acceptC S L e).2.2 ∧ OS.le S (acceptC S L e).2.2 ∧ (acceptC S L e).2.2.used.length ≤ S.used.length + 1 ∧
    (acceptC S L e).2.1.wr = L.wr ∧ (acceptC S L e).2.1.es = (if (acceptC S L e).1 = 0 then L.es ++ [e] else L.es) := by
  unfold acceptC
  by_cases hc : checkC S L e = 0
  · rw [if_pos hc]
    obtain ⟨h1, h2⟩ := h.accepted hk hf hc
    obtain ⟨a1, a2, a3, a4⟩ := h.put inv h1 h2
    exact ⟨a1, a2, a3, a4, rfl, rfl⟩
  · rw [if_neg hc]
    exact ⟨h, inv, OS.le.refl _, Nat.le_succ _, rfl, by simp only [if_neg hc]⟩
/-- what comes next is accepted. -/
theorem LOk.accepts (h : LOk S s p L) (hk : Keyed S s p) (he : OkAt S L.wr s L.es e) : checkC S L e = 0 := by
  have h1 : rightC S L e = 0 := by
    unfold rightC
    rw [if_pos he.right, if_pos he.w, h.pb, if_pos ((holdsE_iff hk).2 ⟨he.right, he.sg⟩)]
  have h2 : placeC L e = 0 := by
    unfold placeC
    rw [if_neg (by rw [he.i]; omega), if_pos he.i]
  have h3 : behindC L e = 0 := behind_ok (by rw [he.pv, h.sum]) he.late
  unfold checkC
  rw [if_neg (not_not_intro h1), if_neg (not_not_intro h2), h3]
/-- what an issue leaves. -/
theorem LOk.issue (h : LOk S s p L) (inv : OInv S) (hk : Keyed S s p) (hl : S.used.length < 1000000) (t tw ep : Int) (body : List UInt8) :
    LOk (issueC S L s t tw ep body).2.2 s p (issueC S L s t tw ep body).2.1 ∧ OInv (issueC S L s t tw ep body).2.2 ∧ OS.le S (issueC S L s t tw ep body).2.2 ∧ (issueC S L s t tw ep body).2.2.used.length ≤ S.used.length + 2 ∧
    (issueC S L s t tw ep body).2.1.wr = L.wr ∧ (issueC S L s t tw ep body).2.1.es = (if (issueC S L s t tw ep body).1.2 = 0 then L.es ++ [(issueC S L s t tw ep body).1.1] else L.es) ∧
    ((issueC S L s t tw ep body).1.2 = 0 → OkAt (issueC S L s t tw ep body).2.2 L.wr s L.es (issueC S L s t tw ep body).1.1 ∧ L.es.length < 200) ∧ (issueC S L s t tw ep body).1.1.body.length ≤ 1100 ∧ (issueC S L s t tw ep body).1.1.fit := by
  have z0 : Ent.zero.body.length ≤ 1100 := by decide
  have z1 : Ent.zero.fit := ⟨by decide, by decide, by decide, by decide⟩
  unfold issueC
  by_cases h1 : L.es.length ≥ 200
  · rw [if_pos h1]; exact ⟨h, inv, OS.le.refl _, by show S.used.length ≤ _; omega, rfl, rfl, fun h => (by cases h), z0, z1⟩
  rw [if_neg h1]
  by_cases h2 : entRight (nextE L t tw ep body) = true
  · rw [if_pos h2]
    by_cases h3 : behindC L (nextE L t tw ep body) ≠ 0
    · rw [if_pos h3]; exact ⟨h, inv, OS.le.refl _, by show S.used.length ≤ _; omega, rfl, by simp only [if_neg h3], fun h => absurd h h3, z0, z1⟩
    rw [if_neg h3]
    obtain ⟨a1, a2, a3, a4, a5, a6, a7, a8⟩ := sign_inv inv hk.sec (textL (nextE L t tw ep body))
    have hu := (signOf_ok inv.ok s (textL (nextE L t tw ep body))).2
    have hs : signE S s (nextE L t tw ep body) = (({ nextE L t tw ep body with sg := (signOf S s (textL (nextE L t tw ep body))).1.1 }, 0), (signOf S s (textL (nextE L t tw ep body))).2) := by
      unfold signE; rw [if_pos h2, if_pos a3]
    rw [hs]
    rw [if_neg (by simp)]
    have hb3 := behind_zero (Decidable.not_not.1 h3)
    have hsgfit := a1.fit (by omega) (a1.su _ _ a4)
    have hsum := h.fit inv hl
    have hok : OkAt (signOf S s (textL (nextE L t tw ep body))).2 L.wr s L.es { nextE L t tw ep body with sg := (signOf S s (textL (nextE L t tw ep body))).1.1 } :=
      ⟨h2, ⟨hsum.1, hsum.2, hsgfit.1, hsgfit.2⟩, rfl, a4, rfl, by rw [sumS_le a2 h.good.hashed]; exact h.sum, hb3.2⟩
    obtain ⟨b1, b2, b3, b4⟩ := (h.le a2).put a1 hok (by omega)
    refine ⟨b1, b2, a2.trans b3, Nat.le_trans b4 (by omega), rfl, rfl, fun _ => ⟨hok.le b3 ((h.le a2).good.hashed), by omega⟩, ((entRight_iff _).1 h2).2.2.2.2.2.2.2.2.2.1, hok.fit⟩
  · rw [if_neg h2]; exact ⟨h, inv, OS.le.refl _, by show S.used.length ≤ _; omega, rfl, rfl, fun h => (by cases h), z0, z1⟩
theorem issue_sg (inv : OInv S) (hl : S.used.length < 1000000) (b : List UInt8) (hk : Keyed S s p) : 0 ≤ (signOf S s b).1.1 ∧ (signOf S s b).1.1 < 18446744073709551616 := by
  obtain ⟨a1, a2, a3, a4, a5, a6, a7, a8⟩ := sign_inv inv hk.sec b
  have hu := (signOf_ok inv.ok s b).2
  exact a1.fit (by omega) (a1.su _ _ a4)
end
end Go.Proofs.Ytnppbflccbpoeaa

/- The reference's oracle: one list of all that was handed out. -/
set_option linter.unusedVariables false
set_option linter.unusedSimpArgs false
set_option maxRecDepth 20000
namespace Go.Proofs.Ytnppbflccbpoeaa
open Go Go.Mx Go.Proofs
/-- a row. -/
structure RRow where
  h : Int
  kind : Int
  A : List UInt8
  B : List UInt8
  n : Int
  m : Int
/-- a row, and where its bytes lie. -/
structure PR where
  r : RRow
  aA : Option Addr
  cA : Nat
  aB : Option Addr
  cB : Nat
def PR.C (x : PR) : List Value := [.int .u64 x.r.h, .int .i64 x.r.kind, .slice x.aA x.r.A.length x.cA, .slice x.aB x.r.B.length x.cB, .int .u64 x.r.n, .int .u64 x.r.m]
def PR.ok (w : World) (o : Own) (x : PR) : Prop := Row w o x.aA (bytesV x.r.A) ∧ Row w o x.aB (bytesV x.r.B) ∧ x.r.A.length ≤ x.cA ∧ x.r.B.length ≤ x.cB
def PR.Cs (R : List PR) : List Value := R.flatMap PR.C
structure ROrcP (w : World) (o : Own) (k : Nat) (d : List Int) (R : List PR) : Prop where
  tk : o k = some k
  at_ : ∃ da dc la lc, Blk w k 56 [.slice da d.length dc, .slice la R.length lc] ∧ d.length ≤ dc ∧ Row w o da (d.map u64V) ∧ Grows 97 6 w o k la R.length lc (PR.Cs R) ∧ (∀ ad, la = some ad → ad.block ≠ k)
  rows : ∀ x ∈ R, x.ok w o
def ROrc (w : World) (o : Own) (k : Nat) (d : List Int) (L : List RRow) : Prop := ∃ R, L = R.map PR.r ∧ ROrcP w o k d R
theorem PR.Cs_get : ∀ {R : List PR} {i : Nat} {x : PR}, R[i]? = some x → ∀ j, j < 6 → (PR.Cs R)[i * 6 + j]? = x.C[j]?
  | [], i, x, hi, j, hj => by simp at hi
  | a :: r, 0, x, hi, j, hj => by
    simp only [List.getElem?_cons_zero, Option.some.injEq] at hi
    subst hi
    simp only [PR.Cs, List.flatMap_cons, Nat.zero_mul, Nat.zero_add]
    rw [List.getElem?_append_left (by simp [PR.C]; omega)]
  | a :: r, i + 1, x, hi, j, hj => by
    simp only [List.getElem?_cons_succ] at hi
    have := PR.Cs_get hi j hj
    simp only [PR.Cs, List.flatMap_cons] at this ⊢
    rw [List.getElem?_append_right (by simp [PR.C]; omega), show (i + 1) * 6 + j - a.C.length = i * 6 + j by simp [PR.C]; omega]
    exact this
theorem PR.one (x : PR) : ∀ u ∈ x.C, u.oneCell' = true := fun u hu => by
  simp only [PR.C, List.mem_cons, List.not_mem_nil, or_false] at hu
  rcases hu with rfl | rfl | rfl | rfl | rfl | rfl <;> rfl
section
variable {w w' : World} {o o' : Own} {k : Nat} {K : Nat → Prop} {d : List Int} {R : List PR} {L : List RRow}
theorem PR.ok.step {x : PR} (h : x.ok w o) (s : Step K w o w' o') : x.ok w' o' := ⟨h.1.step s, h.2.1.step s, h.2.2⟩
theorem ROrcP.lt (h : ROrcP w o k d R) : k < w.heap.size := by obtain ⟨da, dc, la, lc, hb, _⟩ := h.at_; exact hb.lt
theorem ROrcP.step (h : ROrcP w o k d R) (s : Step K w o w' o') (hk : ¬ K k) : ROrcP w' o' k d R := by
  obtain ⟨da, dc, la, lc, h1, h2, h3, h4, h5⟩ := h.at_
  exact ⟨by rw [s.own h.lt]; exact h.tk, ⟨da, dc, la, lc, s.blk h1 h.tk hk, h2, h3.step s, h4.step s hk, h5⟩, fun x hx => (h.rows x hx).step s⟩
theorem ROrc.step (h : ROrc w o k d L) (s : Step K w o w' o') (hk : ¬ K k) : ROrc w' o' k d L := by
  obtain ⟨R, h1, h2⟩ := h; exact ⟨R, h1, h2.step s hk⟩
theorem ROrc.lt (h : ROrc w o k d L) : k < w.heap.size := by obtain ⟨R, _, h⟩ := h; exact h.lt
theorem ROrc.own (h : ROrc w o k d L) : o k = some k := by obtain ⟨R, _, h⟩ := h; exact h.tk
/-- a fresh handle, and the draws that are left. -/
def freshR (d used : List Int) : Int × List Int := match pickD d used with | some q => q | none => (pickN used (used.length + 1) 1, [])
def putR (d : List Int) (L : List RRow) (r : RRow) : Int × List Int × List RRow :=
  ((freshR d (L.map RRow.h)).1, (freshR d (L.map RRow.h)).2, L ++ [{ r with h := (freshR d (L.map RRow.h)).1 }])
end
end Go.Proofs.Ytnppbflccbpoeaa

/- The reference's oracle: what its calls answer. -/
set_option linter.unusedVariables false
set_option linter.unusedSimpArgs false
set_option maxRecDepth 20000
namespace Go.Proofs.Ytnppbflccbpoeaa
open Go Go.Mx Go.Proofs
def isR (L : List RRow) (x kind : Int) : Option RRow := (L.find? fun r => r.h == x).bind fun r => if r.kind = kind then some r else none
def hashR (d : List Int) (L : List RRow) (b : List UInt8) : Int × List Int × List RRow :=
  match L.find? (fun r => r.kind == 1 && decide (r.A = b)) with
  | some r => (r.h, d, L)
  | none => putR d L ⟨0, 1, b, [], 0, 0⟩
def pairR (d : List Int) (L : List RRow) : (Int × Int) × List Int × List RRow :=
  let p := putR d L ⟨0, 3, [], [], 0, 0⟩
  let q := putR p.2.1 p.2.2 ⟨0, 4, [], [], p.1, 0⟩
  ((p.1, q.1), q.2)
def signR (d : List Int) (L : List RRow) (s : Int) (b : List UInt8) : (Int × Int) × List Int × List RRow :=
  match isR L s 3 with
  | none => ((0, 11), d, L)
  | some _ =>
    match L.find? (fun r => r.kind == 5 && (r.n == s && decide (r.A = b))) with
    | some r => ((r.h, 0), d, L)
    | none => let q := putR d L ⟨0, 5, b, [], s, 0⟩; ((q.1, 0), q.2)
def PR.V (x : PR) : Value := .agg #[.int .u64 x.r.h, .int .i64 x.r.kind, .slice x.aA x.r.A.length x.cA, .slice x.aB x.r.B.length x.cB, .int .u64 x.r.n, .int .u64 x.r.m]
section
variable {w w' : World} {o o' : Own} {k : Nat} {K : Nat → Prop} {d : List Int} {R : List PR} {L : List RRow}
theorem freshR_draws {d used : List Int} (hd : ∀ x ∈ d, 0 ≤ x ∧ x < 18446744073709551616) : ∀ x ∈ (freshR d used).2, 0 ≤ x ∧ x < 18446744073709551616 := fun x hx => by
  unfold freshR at hx
  cases hp : pickD d used with
  | none => rw [hp] at hx; simp at hx
  | some q => obtain ⟨a, b⟩ := q; rw [hp] at hx; exact hd x (pickD_rest hp x hx)
theorem putR_len (d : List Int) (L : List RRow) (r : RRow) : (putR d L r).2.2.length = L.length + 1 := by simp [putR]
end
end Go.Proofs.Ytnppbflccbpoeaa

/- The two oracles side by side: tables against rows. -/
set_option linter.unusedVariables false
set_option linter.unusedSimpArgs false
namespace Go.Proofs.Ytnppbflccbpoeaa
open Go Go.Mx Go.Proofs
structure Sim (S : OS) (d : List Int) (L : List RRow) : Prop where
  ok : S.ok
  dr : S.draws = d
  us : S.used = L.map RRow.h
  nd : (L.map RRow.h).Nodup
  nz : ∀ r ∈ L, r.h ≠ 0
  hs : ∀ b x, alook S.hashes b = some x ↔ ∃ r ∈ L, r.kind = 1 ∧ r.A = b ∧ r.h = x
  ky : ∀ k, k ∈ S.keys ↔ ∃ r ∈ L, r.kind = 2 ∧ r.h = k
  sc : ∀ s, s ∈ S.secrets ↔ ∃ r ∈ L, r.kind = 3 ∧ r.h = s
  pb : ∀ p s, alook S.publics p = some s ↔ ∃ r ∈ L, r.kind = 4 ∧ r.h = p ∧ r.n = s
  sg : ∀ q x, alook S.signs q = some x ↔ ∃ r ∈ L, r.kind = 5 ∧ (r.n, r.A) = q ∧ r.h = x
  sd : ∀ x q, alook S.signed x = some q ↔ ∃ r ∈ L, r.kind = 5 ∧ (r.n, r.A) = q ∧ r.h = x
  se : ∀ x q, alook S.sealed x = some q ↔ ∃ r ∈ L, r.kind = 6 ∧ r.h = x ∧ q = ⟨r.n, r.A, r.B⟩
  wr : ∀ x q, alook S.wrapped x = some q ↔ ∃ r ∈ L, r.kind = 7 ∧ r.h = x ∧ (r.n, r.m) = q
theorem Sim.init {l : List Int} (hl : ∀ d ∈ l, 0 ≤ d ∧ d < 18446744073709551616) : Sim (OS.init l) l [] := by
  refine ⟨OS.init_ok l hl, rfl, rfl, by simp, by simp, ?_, ?_, ?_, ?_, ?_, ?_, ?_, ?_⟩ <;> simp [OS.init, alook]
section
variable {S : OS} {d : List Int} {L : List RRow}
theorem Sim.mem_used (h : Sim S d L) {r : RRow} (hr : r ∈ L) : r.h ∈ S.used := by rw [h.us]; exact List.mem_map_of_mem hr
/-- the same handle. -/
theorem Sim.fresh (h : Sim S d L) (r : RRow) : (putR d L r).1 = (freshOf S).1 ∧ (putR d L r).2.1 = (freshOf S).2.draws := by
  obtain ⟨h1, h2, h3, h4⟩ := h.ok
  unfold putR freshOf freshR
  rw [← h.us, ← h.dr]
  cases hp : pickD S.draws S.used with
  | some q => exact ⟨rfl, rfl⟩
  | none =>
    refine ⟨?_, rfl⟩
    obtain ⟨a1, a2, a3, a4, a5⟩ := pickN_spec S.used (S.used.length + 1) S.next h1 (gap S.used _ _ (by omega))
    obtain ⟨b1, b2, b3, b4, b5⟩ := pickN_spec S.used (S.used.length + 1) 1 (Int.le_refl _) (gap S.used _ _ (by omega))
    show pickN S.used (S.used.length + 1) 1 = pickN S.used (S.used.length + 1) S.next
    generalize pickN S.used (S.used.length + 1) 1 = x at *
    generalize pickN S.used (S.used.length + 1) S.next = y at *
    rcases Int.lt_trichotomy x y with c | c | c
    · exfalso
      by_cases hx : x < S.next
      · exact b3 (h2 x b1 hx)
      · exact b3 (a5 x (by omega) c)
    · exact c
    · exact absurd (b5 y (by omega) c) a3
/-- a row more: all but the tables. -/
theorem Sim.put (h : Sim S d L) (r : RRow) : (freshOf S).2.ok ∧ (freshOf S).2.draws = (putR d L r).2.1 ∧ (freshOf S).2.used = (putR d L r).2.2.map RRow.h ∧ ((putR d L r).2.2.map RRow.h).Nodup ∧ (∀ z ∈ (putR d L r).2.2, z.h ≠ 0) ∧
    (putR d L r).2.2 = L ++ [{ r with h := (freshOf S).1 }] ∧ (∀ z ∈ L, z.h ≠ (freshOf S).1) := by
  obtain ⟨a1, a2, a3, a4⟩ := freshOf_spec h.ok
  obtain ⟨b1, b2⟩ := h.fresh r
  have e : (putR d L r).2.2 = L ++ [{ r with h := (freshOf S).1 }] := by rw [← b1]; rfl
  have hne : ∀ z ∈ L, z.h ≠ (freshOf S).1 := fun z hz he => a2 (he ▸ h.mem_used hz)
  refine ⟨a4, b2.symm, by rw [a3, e, h.us]; simp, ?_, ?_, e, hne⟩
  · rw [e, List.map_append, List.nodup_append]
    refine ⟨h.nd, by simp, fun a ha b hb => ?_⟩
    obtain ⟨z, hz, rfl⟩ := List.mem_map.1 ha
    simp at hb; subst hb; exact hne z hz
  · rw [e]
    intro z hz
    rcases List.mem_append.1 hz with hz | hz
    · exact h.nz z hz
    · simp at hz; subst hz; exact a1
theorem Sim.find (h : Sim S d L) {p : RRow → Bool} {x : Int} (hx : ∃ r ∈ L, p r = true ∧ r.h = x) (hu : ∀ r ∈ L, p r = true → r.h = x) : ∃ r, L.find? p = some r ∧ r.h = x := by
  cases hf : L.find? p with
  | none => obtain ⟨r, a, b, _⟩ := hx; rw [List.find?_eq_none] at hf; exact absurd b (hf r a)
  | some r => exact ⟨r, rfl, hu r (List.mem_of_find?_eq_some hf) (List.find?_some hf)⟩
end
end Go.Proofs.Ytnppbflccbpoeaa

/- The reference's rows, few and short; both oracles. -/
set_option linter.unusedVariables false
set_option linter.unusedSimpArgs false
set_option maxRecDepth 20000
namespace Go.Proofs.Ytnppbflccbpoeaa
open Go Go.Mx Go.Proofs
/-- the rows are few, and short. -/
structure RFine (n : Nat) (d : List Int) (L : List RRow) : Prop where
  draws : ∀ x ∈ d, 0 ≤ x ∧ x < 18446744073709551616
  short : L.length ≤ n
  bytes : ∀ r ∈ L, r.A.length < 1000000 ∧ r.B.length < 1000000
section
variable {w w' : World} {o o' : Own} {k n : Nat} {K : Nat → Prop} {S : OS} {d : List Int} {L : List RRow}
theorem RFine.more (h : RFine n d L) : RFine (n + 1) d L := ⟨h.draws, Nat.le_succ_of_le h.short, h.bytes⟩
theorem RFine.put (h : RFine n d L) (r : RRow) (hr : r.A.length < 1000000 ∧ r.B.length < 1000000) : RFine (n + 1) (putR d L r).2.1 (putR d L r).2.2 := by
  refine ⟨freshR_draws h.draws, ?_, fun z hz => ?_⟩
  · have := h.short; rw [putR_len]; omega
  · rcases List.mem_append.1 hz with hz | hz
    · exact h.bytes z hz
    · simp at hz; subst hz; exact hr
theorem RFine.hash (h : RFine n d L) {b : List UInt8} (hb : b.length < 1000000) : RFine (n + 1) (hashR d L b).2.1 (hashR d L b).2.2 := by
  unfold hashR
  split
  · exact h.more
  · exact h.put _ ⟨hb, by show (0 : Nat) < _; decide⟩
theorem RFine.pair (h : RFine n d L) : RFine (n + 2) (pairR d L).2.1 (pairR d L).2.2 :=
  (h.put ⟨0, 3, [], [], 0, 0⟩ (by decide)).put _ ⟨by show (0 : Nat) < _; decide, by show (0 : Nat) < _; decide⟩
theorem RFine.sign (h : RFine n d L) (s : Int) {b : List UInt8} (hb : b.length < 1000000) : RFine (n + 1) (signR d L s b).2.1 (signR d L s b).2.2 := by
  unfold signR
  split
  · exact h.more
  · split
    · exact h.more
    · exact h.put _ ⟨hb, by show (0 : Nat) < _; decide⟩
/-- both oracles. -/
structure Two (w : World) (o : Own) (k j : Nat) (S : OS) (d : List Int) (L : List RRow) (n : Nat) : Prop where
  p : POrc w o k S
  r : ROrc w o j d L
  sim : Sim S d L
  inv : OInv S
  fine : RFine n d L
  ok : Tags w o
  ne : k ≠ j
variable {j : Nat}
theorem Two.step (h : Two w o k j S d L n) (s : Step no w o w' o') : Two w' o' k j S d L n := ⟨h.p.step s id, h.r.step s id, h.sim, h.inv, h.fine, s.ok, h.ne⟩
theorem Two.len (h : Two w o k j S d L n) : S.used.length ≤ n := by rw [h.sim.us, List.length_map]; exact h.fine.short
theorem Two.turn {w1 : World} {o1 : Own} {S' : OS} {d' : List Int} {L' : List RRow} {n' : Nat} (h : Two w o k j S d L n) (s1 : Step (fun i => i = k) w o w1 o1) (p1 : POrc w1 o1 k S') (s2 : Step (fun i => i = j) w1 o1 w' o') (r2 : ROrc w' o' j d' L')
    (sim : Sim S' d' L') (inv : OInv S') (fine : RFine n' d' L') : Two w' o' k j S' d' L' n' ∧ Step (fun i => i = k ∨ i = j) w o w' o' :=
  ⟨⟨p1.step s2 h.ne, r2, sim, inv, fine, s2.ok, h.ne⟩, (s1.mono fun _ h _ => .inl h).trans (s2.mono fun _ h _ => .inr h)⟩
end
/-- the reference's, as it is made. -/
theorem ROrc.init {w w' : World} {o : Own} {q : Nat} {da : Option Addr} {dc : Nat} {d : List Int} (X : Ext no w w') (hb : Blk w' q 56 [.slice da d.length dc, .slice none 0 0]) (h1 : w.heap.size ≤ q) (h2 : q < w'.heap.size) (ok : Tags w o) (hd : Row w o da (d.map u64V)) (hc : d.length ≤ dc) :
    ∃ o', Step no w o w' o' ∧ ROrc w' o' q d [] := by
  have s := (Step.of_no X ok).tag h1 h2
  refine ⟨_, s, [], rfl, tag_self, ⟨da, dc, none, 0, hb, hc, hd.step s, Grows.nil _ _ _ _ _, fun ad ha => by cases ha⟩, fun x hx => by cases hx⟩
end Go.Proofs.Ytnppbflccbpoeaa

/- The reference's entries with its oracle. -/
set_option linter.unusedVariables false
set_option linter.unusedSimpArgs false
set_option maxRecDepth 20000
namespace Go.Proofs.Ytnppbflccbpoeaa
open Go Go.Mx Go.Proofs
open W (OwnB GivesW numR countR doneR zig unzig intR)
section
variable {w w' : World} {o o' : Own} {k n : Nat} {K : Nat → Prop} {S : OS} {d : List Int} {L : List RRow}
theorem bytesL_le' {e : Ent} (hr : entRight e = true) : (bytesL e).length ≤ 1200 := by have := bytesK_le e; unfold bytesK at this; rw [if_pos hr] at this; exact this
def sumR (d : List Int) (L : List RRow) (e : Ent) : (Int × Int) × List Int × List RRow := if entRight e = true then (((hashR d L (bytesL e)).1, 0), (hashR d L (bytesL e)).2) else ((0, 1), d, L)
theorem RFine.sum (h : RFine n d L) (e : Ent) : RFine (n + 1) (sumR d L e).2.1 (sumR d L e).2.2 := by
  unfold sumR
  split
  · rename_i hr; exact h.hash (by have := bytesL_le' hr; omega)
  · exact h.more
end
end Go.Proofs.Ytnppbflccbpoeaa

/- Entries and a head that are handed in. -/
set_option linter.unusedVariables false
set_option linter.unusedSimpArgs false
set_option maxRecDepth 20000
namespace Go.Proofs.Ytnppbflccbpoeaa
open Go Go.Mx Go.Proofs
end Go.Proofs.Ytnppbflccbpoeaa

/- Chain's laws: what is handed in; the example; all entries held against each other. -/
set_option linter.unusedVariables false
set_option linter.unusedSimpArgs false
set_option maxRecDepth 20000
set_option maxHeartbeats 2000000
namespace Go.Proofs.Ytnppbflccbpoeaa
open Go Go.Mx Go.Proofs
open W (OwnB GivesW numR countR doneR zig unzig intR)
/-- cachettelaw07.light -/
def cachettelaw07_light.M (draws1a : Option Addr) (draws1n : Nat) (draws1c : Nat) (l2a : Option Addr) (l2n : Nat) (l2c : Nat) (R : Value → World → Prop) (w : World) : Prop :=
  bif decide ((draws1n : Int) > 50) then (
  R (.bool false) w) else (
  bif decide ((l2n : Int) > 40) then (
  R (.bool false) w) else (
  ∃ (I0 : Nat → List Value → World → Prop) (m4 : Nat), I0 m4 [.int .i64 0] w ∧ ∀ (m5 : Nat) (ww6 : World) (i3 : Int), I0 m5 [.int .i64 i3] ww6 →
  bif decide (i3 < (l2n : Int)) then (
  l2a.elim False fun a7 =>
  0 ≤ (i3 : Int) ∧ (i3 : Int) < (l2n : Int) ∧
  ∃ (Body8a : Option Addr) (Body8n : Nat) (Body8c : Nat), ww6.cell? ((a7.add (Int.toNat i3 * 14)).add 3) = some (.slice Body8a Body8n Body8c) ∧
  bif decide ((Body8n : Int) > 1200) then (
  R (.bool false) ww6) else (
  l2a.elim False fun a9 =>
  0 ≤ (i3 : Int) ∧ (i3 : Int) < (l2n : Int) ∧
  ∃ (Body10a : Option Addr) (Body10n : Nat) (Body10c : Nat), ww6.cell? (((a9.add (Int.toNat i3 * 14)).add 6).add 6) = some (.slice Body10a Body10n Body10c) ∧
  bif decide ((Body10n : Int) > 1200) then (
  R (.bool false) ww6) else (
  ∃ m11, m11 < m5 ∧ I0 m11 [.int .i64 (IntKind.i64.wrap (i3 + 1))] ww6))) else (
  R (.bool true) ww6)))

theorem cachettelaw07_light.eq (draws1a : Option Addr) (draws1n : Nat) (draws1c : Nat) (l2a : Option Addr) (l2n : Nat) (l2c : Nat) (R : Value → World → Prop) (w : World) : mfunc Try.prog [(0, [1], [(5, (.one (.int .i64)))])] 9 [.slice draws1a draws1n draws1c, .slice l2a l2n l2c] R w = cachettelaw07_light.M draws1a draws1n draws1c l2a l2n l2c R w := by kernel_rfl
theorem cachettelaw07_light.ok (draws1a : Option Addr) (draws1n : Nat) (draws1c : Nat) (l2a : Option Addr) (l2n : Nat) (l2c : Nat) {R : Value → World → Prop} {w : World} (h : cachettelaw07_light.M draws1a draws1n draws1c l2a l2n l2c R w) : Calls Try.prog 9 #[.slice draws1a draws1n draws1c, .slice l2a l2n l2c] w fun e w' => ∃ v, e = .returned v ∧ R v w' :=
  mfunc_ok follows (H := [(0, [1], [(5, (.one (.int .i64)))])]) (args := [.slice draws1a draws1n draws1c, .slice l2a l2n l2c]) (by rw [cachettelaw07_light.eq]; exact h)

def cachettelaw07_light.N (draws1a : Option Addr) (draws1n : Nat) (draws1c : Nat) (l2a : Option Addr) (l2n : Nat) (l2c : Nat) (R : Value → World → Prop) (w : World) : Prop :=
  ((draws1n : Int) > 50 →
    R (.bool false) w) ∧
  ((draws1n : Int) ≤ 50 →
    ((l2n : Int) > 40 →
      R (.bool false) w) ∧
    ((l2n : Int) ≤ 40 →
      ∃ (I0 : Nat → List Value → World → Prop) (m6 : Nat), I0 m6 [.int .i64 0] w ∧ ∀ (m7 : Nat) (ww8 : World) (i5 : Int), I0 m7 [.int .i64 i5] ww8 →
      (i5 < (l2n : Int) →
        ∃ a10 : Addr, l2a = some a10 ∧
        0 ≤ (i5 : Int) ∧ (i5 : Int) < (l2n : Int) ∧
        ∃ (Body12a : Option Addr) (Body12n : Nat) (Body12c : Nat), ww8.cell? ((a10.add (Int.toNat i5 * 14)).add 3) = some (.slice Body12a Body12n Body12c) ∧
        ((Body12n : Int) > 1200 →
          R (.bool false) ww8) ∧
        ((Body12n : Int) ≤ 1200 →
          0 ≤ (i5 : Int) ∧ (i5 : Int) < (l2n : Int) ∧
          ∃ (Body15a : Option Addr) (Body15n : Nat) (Body15c : Nat), ww8.cell? (((a10.add (Int.toNat i5 * 14)).add 6).add 6) = some (.slice Body15a Body15n Body15c) ∧
          ((Body15n : Int) > 1200 →
            R (.bool false) ww8) ∧
          ((Body15n : Int) ≤ 1200 →
            (-9223372036854775808 : Int) ≤ (i5 + 1) ∧ (i5 + 1) < 9223372036854775808 ∧
            ∃ m17, m17 < m7 ∧ I0 m17 [.int .i64 (i5 + 1)] ww8))) ∧
      ((l2n : Int) ≤ i5 →
        R (.bool true) ww8)))

theorem cachettelaw07_light.up (draws1a : Option Addr) (draws1n : Nat) (draws1c : Nat) (l2a : Option Addr) (l2n : Nat) (l2c : Nat) {R : Value → World → Prop} {w : World} (h : cachettelaw07_light.N draws1a draws1n draws1c l2a l2n l2c R w) : cachettelaw07_light.M draws1a draws1n draws1c l2a l2n l2c R w := by
  unfold cachettelaw07_light.M
  unfold cachettelaw07_light.N at h
  refine bif_of (fun c3 => ?_) (fun c3 => ?_)
  · have h := h.1 (of_decide_eq_true c3)
    exact h
  · have h := h.2 (Int.not_lt.1 (of_decide_eq_false c3))
    refine bif_of (fun c4 => ?_) (fun c4 => ?_)
    · have h := h.1 (of_decide_eq_true c4)
      exact h
    · have h := h.2 (Int.not_lt.1 (of_decide_eq_false c4))
      obtain ⟨I0, m6, h0, h⟩ := h
      refine ⟨I0, m6, h0, fun m7 ww8 i5 hI => ?_⟩
      have h := h m7 ww8 i5 hI
      refine bif_of (fun c9 => ?_) (fun c9 => ?_)
      · have h := h.1 (of_decide_eq_true c9)
        obtain ⟨a10, ha10, h⟩ := h
        refine elim_some ha10 ?_
        obtain ⟨hq1, hq2, h⟩ := h
        refine ⟨hq1, hq2, ?_⟩
        obtain ⟨Body12a, Body12n, Body12c, hc11, h⟩ := h
        refine ⟨Body12a, Body12n, Body12c, hc11, ?_⟩
        refine bif_of (fun c13 => ?_) (fun c13 => ?_)
        · have h := h.1 (of_decide_eq_true c13)
          exact h
        · have h := h.2 (Int.not_lt.1 (of_decide_eq_false c13))
          refine elim_some ha10 ?_
          obtain ⟨hq1, hq2, h⟩ := h
          refine ⟨hq1, hq2, ?_⟩
          obtain ⟨Body15a, Body15n, Body15c, hc14, h⟩ := h
          refine ⟨Body15a, Body15n, Body15c, hc14, ?_⟩
          refine bif_of (fun c16 => ?_) (fun c16 => ?_)
          · have h := h.1 (of_decide_eq_true c16)
            exact h
          · have h := h.2 (Int.not_lt.1 (of_decide_eq_false c16))
            obtain ⟨hw1, hw2, h⟩ := h
            try rw [w64 hw1 hw2]
            obtain ⟨m17, hk, h⟩ := h
            exact ⟨m17, hk, h⟩
      · have h := h.2 (Int.not_lt.1 (of_decide_eq_false c9))
        exact h

theorem cachettelaw07_light.go (draws1a : Option Addr) (draws1n : Nat) (draws1c : Nat) (l2a : Option Addr) (l2n : Nat) (l2c : Nat) {R : Value → World → Prop} {w : World} (h : cachettelaw07_light.N draws1a draws1n draws1c l2a l2n l2c R w) : Calls Try.prog 9 #[.slice draws1a draws1n draws1c, .slice l2a l2n l2c] w fun e w' => ∃ v, e = .returned v ∧ R v w' := cachettelaw07_light.ok draws1a draws1n draws1c l2a l2n l2c (cachettelaw07_light.up draws1a draws1n draws1c l2a l2n l2c h)
theorem cachettelaw07_light.run (draws1a : Option Addr) (draws1n : Nat) (draws1c : Nat) (l2a : Option Addr) (l2n : Nat) (l2c : Nat) {V : Value} {Q : World → Prop} {w : World} (h : cachettelaw07_light.N draws1a draws1n draws1c l2a l2n l2c (fun v w' => v = V ∧ Q w') w) : Calls Try.prog 9 #[.slice draws1a draws1n draws1c, .slice l2a l2n l2c] w (Ret V Q) := (cachettelaw07_light.go draws1a draws1n draws1c l2a l2n l2c h).mono fun e w' ⟨v, he, hv, hq⟩ => ⟨by rw [he, hv], hq⟩

/-- cachettelaw07.alive -/
def cachettelaw07_alive.M  (R : Value → World → Prop) (w : World) : Prop :=
  Calls Try.prog 11 #[.slice none 0 0] w fun ee2 ww3 => ∃ (new1 : Option Addr), ee2 = .returned (.pointer new1) ∧
  Calls Try.prog 12 #[.pointer new1] ww3 fun ee6 ww7 => ∃ (pair4 : Int) (pair5 : Int), ee6 = .returned (.tuple #[.int .u64 pair4, .int .u64 pair5]) ∧
  Calls Try.prog 13 #[.pointer new1, .int .i64 1, .int .u64 pair5] ww7 fun ee10 ww11 => ∃ (new8 : Option Addr) (new9 : Int), ee10 = .returned (.tuple #[.pointer new8, .int .i64 new9]) ∧
  thenW (ww11.alloc (.cells #[.int .u8 120] 5)) fun ww12 =>
  ∃ (c13a : Option Addr) (c13n : Nat) (c13c : Nat) (ww14 : World), (convert 24 24 (.slice (some (blk ww11.heap.size)) 1 1)).run Try.prog ww12 = .ok (.slice c13a c13n c13c) ww14 ∧
  Calls Try.prog 14 #[.pointer new8, .int .u64 pair4, .agg #[.int .i64 1, .int .i64 1], .int .i64 0, .slice c13a c13n c13c] ww14 fun ee24 ww25 => ∃ (Writer15 : Int) (Index16 : Int) (Prev17 : Int) (AtT18 : Int) (AtW19 : Int) (Epoch20 : Int) (Body21a : Option Addr) (Body21n : Nat) (Body21c : Nat) (Sig22 : Int) (issue23 : Int), ee24 = .returned (.tuple #[.agg #[.int .i64 Writer15, .int .i64 Index16, .int .u64 Prev17, .int .i64 AtT18, .int .i64 AtW19, .int .i64 Epoch20, .slice Body21a Body21n Body21c, .int .u64 Sig22], .int .i64 issue23]) ∧
  thenW (ww25.alloc (.cells #[.int .i64 0, .int .i64 0, .int .u64 0, .int .i64 0, .int .i64 0, .int .i64 0, .slice none 0 0, .int .u64 0] 39)) fun ww26 =>
  canStore ww26 ((blk ww25.heap.size).add 0) ∧
  thenW (ww26.setCell ((blk ww25.heap.size).add 0) (.int .i64 Writer15)) fun ww27 =>
  canStore ww27 ((blk ww25.heap.size).add 1) ∧
  thenW (ww27.setCell ((blk ww25.heap.size).add 1) (.int .i64 Index16)) fun ww28 =>
  canStore ww28 ((blk ww25.heap.size).add 2) ∧
  thenW (ww28.setCell ((blk ww25.heap.size).add 2) (.int .u64 Prev17)) fun ww29 =>
  canStore ww29 ((blk ww25.heap.size).add 3) ∧
  thenW (ww29.setCell ((blk ww25.heap.size).add 3) (.int .i64 AtT18)) fun ww30 =>
  canStore ww30 ((blk ww25.heap.size).add 4) ∧
  thenW (ww30.setCell ((blk ww25.heap.size).add 4) (.int .i64 AtW19)) fun ww31 =>
  canStore ww31 ((blk ww25.heap.size).add 5) ∧
  thenW (ww31.setCell ((blk ww25.heap.size).add 5) (.int .i64 Epoch20)) fun ww32 =>
  canStore ww32 ((blk ww25.heap.size).add 6) ∧
  thenW (ww32.setCell ((blk ww25.heap.size).add 6) (.slice Body21a Body21n Body21c)) fun ww33 =>
  canStore ww33 ((blk ww25.heap.size).add 7) ∧
  thenW (ww33.setCell ((blk ww25.heap.size).add 7) (.int .u64 Sig22)) fun ww34 =>
  Calls Try.prog 14 #[.pointer new8, .int .u64 pair4, .agg #[.int .i64 2, .int .i64 1], .int .i64 0, .slice none 0 0] ww34 fun ee44 ww45 => ∃ (Writer35 : Int) (Index36 : Int) (Prev37 : Int) (AtT38 : Int) (AtW39 : Int) (Epoch40 : Int) (Body41a : Option Addr) (Body41n : Nat) (Body41c : Nat) (Sig42 : Int) (issue43 : Int), ee44 = .returned (.tuple #[.agg #[.int .i64 Writer35, .int .i64 Index36, .int .u64 Prev37, .int .i64 AtT38, .int .i64 AtW39, .int .i64 Epoch40, .slice Body41a Body41n Body41c, .int .u64 Sig42], .int .i64 issue43]) ∧
  thenW (ww45.alloc (.cells #[.int .i64 0, .int .i64 0, .int .u64 0, .int .i64 0, .int .i64 0, .int .i64 0, .slice none 0 0, .int .u64 0] 39)) fun ww46 =>
  canStore ww46 ((blk ww45.heap.size).add 0) ∧
  thenW (ww46.setCell ((blk ww45.heap.size).add 0) (.int .i64 Writer35)) fun ww47 =>
  canStore ww47 ((blk ww45.heap.size).add 1) ∧
  thenW (ww47.setCell ((blk ww45.heap.size).add 1) (.int .i64 Index36)) fun ww48 =>
  canStore ww48 ((blk ww45.heap.size).add 2) ∧
  thenW (ww48.setCell ((blk ww45.heap.size).add 2) (.int .u64 Prev37)) fun ww49 =>
  canStore ww49 ((blk ww45.heap.size).add 3) ∧
  thenW (ww49.setCell ((blk ww45.heap.size).add 3) (.int .i64 AtT38)) fun ww50 =>
  canStore ww50 ((blk ww45.heap.size).add 4) ∧
  thenW (ww50.setCell ((blk ww45.heap.size).add 4) (.int .i64 AtW39)) fun ww51 =>
  canStore ww51 ((blk ww45.heap.size).add 5) ∧
  thenW (ww51.setCell ((blk ww45.heap.size).add 5) (.int .i64 Epoch40)) fun ww52 =>
  canStore ww52 ((blk ww45.heap.size).add 6) ∧
  thenW (ww52.setCell ((blk ww45.heap.size).add 6) (.slice Body41a Body41n Body41c)) fun ww53 =>
  canStore ww53 ((blk ww45.heap.size).add 7) ∧
  thenW (ww53.setCell ((blk ww45.heap.size).add 7) (.int .u64 Sig42)) fun ww54 =>
  Calls Try.prog 16 #[.pointer new8] ww54 fun ee58 ww59 => ∃ (Writer55 : Int) (Len56 : Int) (Sum57 : Int), ee58 = .returned (.agg #[.int .i64 Writer55, .int .i64 Len56, .int .u64 Sum57]) ∧
  thenW (ww59.alloc (.cells #[.int .i64 0, .int .i64 0, .int .u64 0] 46)) fun ww60 =>
  canStore ww60 ((blk ww59.heap.size).add 0) ∧
  thenW (ww60.setCell ((blk ww59.heap.size).add 0) (.int .i64 Writer55)) fun ww61 =>
  canStore ww61 ((blk ww59.heap.size).add 1) ∧
  thenW (ww61.setCell ((blk ww59.heap.size).add 1) (.int .i64 Len56)) fun ww62 =>
  canStore ww62 ((blk ww59.heap.size).add 2) ∧
  thenW (ww62.setCell ((blk ww59.heap.size).add 2) (.int .u64 Sum57)) fun ww63 =>
  bif new9 == 0 then (
  bif issue23 == 0 then (
  bif issue43 == 0 then (
  ∃ (Prev64 : Int), ww63.cell? ((blk ww25.heap.size).add 2) = some (.int .u64 Prev64) ∧
  bif Prev64 == 0 then (
  ∃ (Prev65 : Int), ww63.cell? ((blk ww45.heap.size).add 2) = some (.int .u64 Prev65) ∧
  bif Prev65 != 0 then (
  ∃ (Len66 : Int), ww63.cell? ((blk ww59.heap.size).add 1) = some (.int .i64 Len66) ∧
  bif Len66 == 2 then (
  ∃ (Sum67 : Int), ww63.cell? ((blk ww59.heap.size).add 2) = some (.int .u64 Sum67) ∧
  ∃ (Prev68 : Int), ww63.cell? ((blk ww45.heap.size).add 2) = some (.int .u64 Prev68) ∧
  bif Sum67 != Prev68 then (
  ∃ (xWriter69 : Int) (xIndex70 : Int) (xPrev71 : Int) (xAtT72 : Int) (xAtW73 : Int) (xEpoch74 : Int) (xBody75a : Option Addr) (xBody75n : Nat) (xBody75c : Nat) (xSig76 : Int), cellsAt ww63 (blk ww25.heap.size) [.int .i64 xWriter69, .int .i64 xIndex70, .int .u64 xPrev71, .int .i64 xAtT72, .int .i64 xAtW73, .int .i64 xEpoch74, .slice xBody75a xBody75n xBody75c, .int .u64 xSig76] 0 ∧
  Calls Try.prog 26 #[.pointer new8, .agg #[.int .i64 xWriter69, .int .i64 xIndex70, .int .u64 xPrev71, .int .i64 xAtT72, .int .i64 xAtW73, .int .i64 xEpoch74, .slice xBody75a xBody75n xBody75c, .int .u64 xSig76]] ww63 fun ee78 ww79 => ∃ (check77 : Int), ee78 = .returned (.int .i64 check77) ∧
  R (.bool (check77 == 8)) ww79) else (
  R (.bool false) ww63)) else (
  R (.bool false) ww63)) else (
  R (.bool false) ww63)) else (
  R (.bool false) ww63)) else (
  R (.bool false) ww63)) else (
  R (.bool false) ww63)) else (
  R (.bool false) ww63)

theorem cachettelaw07_alive.eq  (R : Value → World → Prop) (w : World) : mfunc Try.prog [] 10 [] R w = cachettelaw07_alive.M  R w := by kernel_rfl
theorem cachettelaw07_alive.ok  {R : Value → World → Prop} {w : World} (h : cachettelaw07_alive.M  R w) : Calls Try.prog 10 #[] w fun e w' => ∃ v, e = .returned v ∧ R v w' :=
  mfunc_ok follows (H := []) (args := []) (by rw [cachettelaw07_alive.eq]; exact h)

def cachettelaw07_alive.N  (R : Value → World → Prop) (w : World) : Prop :=
  Calls Try.prog 11 #[.slice none 0 0] w fun ee2 ww3 => ∃ (new1 : Option Addr), ee2 = .returned (.pointer new1) ∧
  Calls Try.prog 12 #[.pointer new1] ww3 fun ee6 ww7 => ∃ (pair4 : Int) (pair5 : Int), ee6 = .returned (.tuple #[.int .u64 pair4, .int .u64 pair5]) ∧
  Calls Try.prog 13 #[.pointer new1, .int .i64 1, .int .u64 pair5] ww7 fun ee10 ww11 => ∃ (new8 : Option Addr) (new9 : Int), ee10 = .returned (.tuple #[.pointer new8, .int .i64 new9]) ∧
  ∀ (ww12 : World) (q13 : Nat), Ext no ww11 ww12 → Blk ww12 q13 5 [.int .u8 120] → ww11.heap.size ≤ q13 → q13 < ww12.heap.size →
  ∃ (c14a : Option Addr) (c14n : Nat) (c14c : Nat) (ww15 : World), (convert 24 24 (.slice (some (blk q13)) 1 1)).run Try.prog ww12 = .ok (.slice c14a c14n c14c) ww15 ∧
  Calls Try.prog 14 #[.pointer new8, .int .u64 pair4, .agg #[.int .i64 1, .int .i64 1], .int .i64 0, .slice c14a c14n c14c] ww15 fun ee25 ww26 => ∃ (Writer16 : Int) (Index17 : Int) (Prev18 : Int) (AtT19 : Int) (AtW20 : Int) (Epoch21 : Int) (Body22a : Option Addr) (Body22n : Nat) (Body22c : Nat) (Sig23 : Int) (issue24 : Int), ee25 = .returned (.tuple #[.agg #[.int .i64 Writer16, .int .i64 Index17, .int .u64 Prev18, .int .i64 AtT19, .int .i64 AtW20, .int .i64 Epoch21, .slice Body22a Body22n Body22c, .int .u64 Sig23], .int .i64 issue24]) ∧
  ∀ (ww35 : World) (p36 : Nat), Ext no ww26 ww35 → Priv ww26 ww35 [p36] →
  Calls Try.prog 14 #[.pointer new8, .int .u64 pair4, .agg #[.int .i64 2, .int .i64 1], .int .i64 0, .slice none 0 0] ww35 fun ee46 ww47 => ∃ (Writer37 : Int) (Index38 : Int) (Prev39 : Int) (AtT40 : Int) (AtW41 : Int) (Epoch42 : Int) (Body43a : Option Addr) (Body43n : Nat) (Body43c : Nat) (Sig44 : Int) (issue45 : Int), ee46 = .returned (.tuple #[.agg #[.int .i64 Writer37, .int .i64 Index38, .int .u64 Prev39, .int .i64 AtT40, .int .i64 AtW41, .int .i64 Epoch42, .slice Body43a Body43n Body43c, .int .u64 Sig44], .int .i64 issue45]) ∧
  Keep [p36] ww35 ww47 ∧
  ∀ (ww56 : World) (p57 : Nat), Ext no ww47 ww56 → Priv ww47 ww56 [p57] →
  Calls Try.prog 16 #[.pointer new8] ww56 fun ee61 ww62 => ∃ (Writer58 : Int) (Len59 : Int) (Sum60 : Int), ee61 = .returned (.agg #[.int .i64 Writer58, .int .i64 Len59, .int .u64 Sum60]) ∧
  Keep [p36, p57] ww56 ww62 ∧
  (new9 = 0 →
    (issue24 = 0 →
      (issue45 = 0 →
        (Prev18 = 0 →
          (Prev39 ≠ 0 →
            (Len59 = 2 →
              (Sum60 ≠ Prev39 →
                ∀ (ww66 : World), Ext no ww62 ww66 →
                Calls Try.prog 26 #[.pointer new8, .agg #[.int .i64 Writer16, .int .i64 Index17, .int .u64 Prev18, .int .i64 AtT19, .int .i64 AtW20, .int .i64 Epoch21, .slice Body22a Body22n Body22c, .int .u64 Sig23]] ww66 fun ee76 ww77 => ∃ (check75 : Int), ee76 = .returned (.int .i64 check75) ∧
                R (.bool (check75 == 8)) ww77) ∧
              (Sum60 = Prev39 →
                ∀ (ww66 : World), Ext no ww62 ww66 →
                R (.bool false) ww66)) ∧
            (Len59 ≠ 2 →
              ∀ (ww66 : World), Ext no ww62 ww66 →
              R (.bool false) ww66)) ∧
          (Prev39 = 0 →
            ∀ (ww66 : World), Ext no ww62 ww66 →
            R (.bool false) ww66)) ∧
        (Prev18 ≠ 0 →
          ∀ (ww66 : World), Ext no ww62 ww66 →
          R (.bool false) ww66)) ∧
      (issue45 ≠ 0 →
        ∀ (ww66 : World), Ext no ww62 ww66 →
        R (.bool false) ww66)) ∧
    (issue24 ≠ 0 →
      ∀ (ww66 : World), Ext no ww62 ww66 →
      R (.bool false) ww66)) ∧
  (new9 ≠ 0 →
    ∀ (ww66 : World), Ext no ww62 ww66 →
    R (.bool false) ww66)

theorem cachettelaw07_alive.up  {R : Value → World → Prop} {w : World} (h : cachettelaw07_alive.N  R w) : cachettelaw07_alive.M  R w := by
  unfold cachettelaw07_alive.M
  unfold cachettelaw07_alive.N at h
  refine h.mono fun ee2 ww3 h => ?_
  obtain ⟨new1, he, h⟩ := h
  refine ⟨new1, he, ?_⟩
  refine h.mono fun ee6 ww7 h => ?_
  obtain ⟨pair4, pair5, he, h⟩ := h
  refine ⟨pair4, pair5, he, ?_⟩
  refine h.mono fun ee10 ww11 h => ?_
  obtain ⟨new8, new9, he, h⟩ := h
  refine ⟨new8, new9, he, ?_⟩
  refine thenW_in fun ww12 e12 => ?_
  have h := h ww12 ww11.heap.size ((Ext.refl no ww11).x_alloc e12) (Blk.of_new e12) ((Ext.refl no ww11)).size (size_lt_alloc e12)
  obtain ⟨c14a, c14n, c14c, ww15, hr, h⟩ := h
  refine ⟨c14a, c14n, c14c, ww15, hr, ?_⟩
  refine h.mono fun ee25 ww26 h => ?_
  obtain ⟨Writer16, Index17, Prev18, AtT19, AtW20, Epoch21, Body22a, Body22n, Body22c, Sig23, issue24, he, h⟩ := h
  refine ⟨Writer16, Index17, Prev18, AtT19, AtW20, Epoch21, Body22a, Body22n, Body22c, Sig23, issue24, he, ?_⟩
  refine thenW_in fun ww27 e27 => ?_
  have hb1 := Blk.of_new e27
  have hg1 := ((Ext.refl no ww26)).size
  have hx27 := (Ext.refl no ww26).x_alloc e27
  refine ⟨hb1.cani 0 rfl rfl, thenW_in fun ww28 e28 => ?_⟩
  have hx28 := hx27.x_set (q := ww26.heap.size) (i := 0) rfl (.inr hg1) e28
  have hb1 : Blk ww28 ww26.heap.size 39 [.int .i64 Writer16, .int .i64 0, .int .u64 0, .int .i64 0, .int .i64 0, .int .i64 0, .slice none 0 0, .int .u64 0] := hb1.seti 0 rfl e28
  refine ⟨hb1.cani 1 rfl rfl, thenW_in fun ww29 e29 => ?_⟩
  have hx29 := hx28.x_set (q := ww26.heap.size) (i := 1) rfl (.inr hg1) e29
  have hb1 : Blk ww29 ww26.heap.size 39 [.int .i64 Writer16, .int .i64 Index17, .int .u64 0, .int .i64 0, .int .i64 0, .int .i64 0, .slice none 0 0, .int .u64 0] := hb1.seti 1 rfl e29
  refine ⟨hb1.cani 2 rfl rfl, thenW_in fun ww30 e30 => ?_⟩
  have hx30 := hx29.x_set (q := ww26.heap.size) (i := 2) rfl (.inr hg1) e30
  have hb1 : Blk ww30 ww26.heap.size 39 [.int .i64 Writer16, .int .i64 Index17, .int .u64 Prev18, .int .i64 0, .int .i64 0, .int .i64 0, .slice none 0 0, .int .u64 0] := hb1.seti 2 rfl e30
  refine ⟨hb1.cani 3 rfl rfl, thenW_in fun ww31 e31 => ?_⟩
  have hx31 := hx30.x_set (q := ww26.heap.size) (i := 3) rfl (.inr hg1) e31
  have hb1 : Blk ww31 ww26.heap.size 39 [.int .i64 Writer16, .int .i64 Index17, .int .u64 Prev18, .int .i64 AtT19, .int .i64 0, .int .i64 0, .slice none 0 0, .int .u64 0] := hb1.seti 3 rfl e31
  refine ⟨hb1.cani 4 rfl rfl, thenW_in fun ww32 e32 => ?_⟩
  have hx32 := hx31.x_set (q := ww26.heap.size) (i := 4) rfl (.inr hg1) e32
  have hb1 : Blk ww32 ww26.heap.size 39 [.int .i64 Writer16, .int .i64 Index17, .int .u64 Prev18, .int .i64 AtT19, .int .i64 AtW20, .int .i64 0, .slice none 0 0, .int .u64 0] := hb1.seti 4 rfl e32
  refine ⟨hb1.cani 5 rfl rfl, thenW_in fun ww33 e33 => ?_⟩
  have hx33 := hx32.x_set (q := ww26.heap.size) (i := 5) rfl (.inr hg1) e33
  have hb1 : Blk ww33 ww26.heap.size 39 [.int .i64 Writer16, .int .i64 Index17, .int .u64 Prev18, .int .i64 AtT19, .int .i64 AtW20, .int .i64 Epoch21, .slice none 0 0, .int .u64 0] := hb1.seti 5 rfl e33
  refine ⟨hb1.cani 6 rfl rfl, thenW_in fun ww34 e34 => ?_⟩
  have hx34 := hx33.x_set (q := ww26.heap.size) (i := 6) rfl (.inr hg1) e34
  have hb1 : Blk ww34 ww26.heap.size 39 [.int .i64 Writer16, .int .i64 Index17, .int .u64 Prev18, .int .i64 AtT19, .int .i64 AtW20, .int .i64 Epoch21, .slice Body22a Body22n Body22c, .int .u64 0] := hb1.seti 6 rfl e34
  refine ⟨hb1.cani 7 rfl rfl, thenW_in fun ww35 e35 => ?_⟩
  have hx35 := hx34.x_set (q := ww26.heap.size) (i := 7) rfl (.inr hg1) e35
  have hb1 : Blk ww35 ww26.heap.size 39 [.int .i64 Writer16, .int .i64 Index17, .int .u64 Prev18, .int .i64 AtT19, .int .i64 AtW20, .int .i64 Epoch21, .slice Body22a Body22n Body22c, .int .u64 Sig23] := hb1.seti 7 rfl e35
  have h := h ww35 (ww26.heap.size) hx35 (Priv.cons hg1 hb1.lt Priv.nil)
  refine h.mono fun ee46 ww47 h => ?_
  obtain ⟨Writer37, Index38, Prev39, AtT40, AtW41, Epoch42, Body43a, Body43n, Body43c, Sig44, issue45, he, hk, h⟩ := h
  refine ⟨Writer37, Index38, Prev39, AtT40, AtW41, Epoch42, Body43a, Body43n, Body43c, Sig44, issue45, he, ?_⟩
  have hb1 := hk.blk hb1 (by simp)
  refine thenW_in fun ww48 e48 => ?_
  have hb2 := Blk.of_new e48
  have hg2 := ((Ext.refl no ww47)).size
  have hb1_2 := Nat.ne_of_lt hb1.lt
  have hb1 := hb1.x_alloc e48
  have hx48 := (Ext.refl no ww47).x_alloc e48
  refine ⟨hb2.cani 0 rfl rfl, thenW_in fun ww49 e49 => ?_⟩
  have hx49 := hx48.x_set (q := ww47.heap.size) (i := 0) rfl (.inr hg2) e49
  have hb1 := hb1.oth (q := ww47.heap.size) (i := 0) rfl hb1_2 e49
  have hb2 : Blk ww49 ww47.heap.size 39 [.int .i64 Writer37, .int .i64 0, .int .u64 0, .int .i64 0, .int .i64 0, .int .i64 0, .slice none 0 0, .int .u64 0] := hb2.seti 0 rfl e49
  refine ⟨hb2.cani 1 rfl rfl, thenW_in fun ww50 e50 => ?_⟩
  have hx50 := hx49.x_set (q := ww47.heap.size) (i := 1) rfl (.inr hg2) e50
  have hb1 := hb1.oth (q := ww47.heap.size) (i := 1) rfl hb1_2 e50
  have hb2 : Blk ww50 ww47.heap.size 39 [.int .i64 Writer37, .int .i64 Index38, .int .u64 0, .int .i64 0, .int .i64 0, .int .i64 0, .slice none 0 0, .int .u64 0] := hb2.seti 1 rfl e50
  refine ⟨hb2.cani 2 rfl rfl, thenW_in fun ww51 e51 => ?_⟩
  have hx51 := hx50.x_set (q := ww47.heap.size) (i := 2) rfl (.inr hg2) e51
  have hb1 := hb1.oth (q := ww47.heap.size) (i := 2) rfl hb1_2 e51
  have hb2 : Blk ww51 ww47.heap.size 39 [.int .i64 Writer37, .int .i64 Index38, .int .u64 Prev39, .int .i64 0, .int .i64 0, .int .i64 0, .slice none 0 0, .int .u64 0] := hb2.seti 2 rfl e51
  refine ⟨hb2.cani 3 rfl rfl, thenW_in fun ww52 e52 => ?_⟩
  have hx52 := hx51.x_set (q := ww47.heap.size) (i := 3) rfl (.inr hg2) e52
  have hb1 := hb1.oth (q := ww47.heap.size) (i := 3) rfl hb1_2 e52
  have hb2 : Blk ww52 ww47.heap.size 39 [.int .i64 Writer37, .int .i64 Index38, .int .u64 Prev39, .int .i64 AtT40, .int .i64 0, .int .i64 0, .slice none 0 0, .int .u64 0] := hb2.seti 3 rfl e52
  refine ⟨hb2.cani 4 rfl rfl, thenW_in fun ww53 e53 => ?_⟩
  have hx53 := hx52.x_set (q := ww47.heap.size) (i := 4) rfl (.inr hg2) e53
  have hb1 := hb1.oth (q := ww47.heap.size) (i := 4) rfl hb1_2 e53
  have hb2 : Blk ww53 ww47.heap.size 39 [.int .i64 Writer37, .int .i64 Index38, .int .u64 Prev39, .int .i64 AtT40, .int .i64 AtW41, .int .i64 0, .slice none 0 0, .int .u64 0] := hb2.seti 4 rfl e53
  refine ⟨hb2.cani 5 rfl rfl, thenW_in fun ww54 e54 => ?_⟩
  have hx54 := hx53.x_set (q := ww47.heap.size) (i := 5) rfl (.inr hg2) e54
  have hb1 := hb1.oth (q := ww47.heap.size) (i := 5) rfl hb1_2 e54
  have hb2 : Blk ww54 ww47.heap.size 39 [.int .i64 Writer37, .int .i64 Index38, .int .u64 Prev39, .int .i64 AtT40, .int .i64 AtW41, .int .i64 Epoch42, .slice none 0 0, .int .u64 0] := hb2.seti 5 rfl e54
  refine ⟨hb2.cani 6 rfl rfl, thenW_in fun ww55 e55 => ?_⟩
  have hx55 := hx54.x_set (q := ww47.heap.size) (i := 6) rfl (.inr hg2) e55
  have hb1 := hb1.oth (q := ww47.heap.size) (i := 6) rfl hb1_2 e55
  have hb2 : Blk ww55 ww47.heap.size 39 [.int .i64 Writer37, .int .i64 Index38, .int .u64 Prev39, .int .i64 AtT40, .int .i64 AtW41, .int .i64 Epoch42, .slice Body43a Body43n Body43c, .int .u64 0] := hb2.seti 6 rfl e55
  refine ⟨hb2.cani 7 rfl rfl, thenW_in fun ww56 e56 => ?_⟩
  have hx56 := hx55.x_set (q := ww47.heap.size) (i := 7) rfl (.inr hg2) e56
  have hb1 := hb1.oth (q := ww47.heap.size) (i := 7) rfl hb1_2 e56
  have hb2 : Blk ww56 ww47.heap.size 39 [.int .i64 Writer37, .int .i64 Index38, .int .u64 Prev39, .int .i64 AtT40, .int .i64 AtW41, .int .i64 Epoch42, .slice Body43a Body43n Body43c, .int .u64 Sig44] := hb2.seti 7 rfl e56
  have h := h ww56 (ww47.heap.size) hx56 (Priv.cons hg2 hb2.lt Priv.nil)
  refine h.mono fun ee61 ww62 h => ?_
  obtain ⟨Writer58, Len59, Sum60, he, hk, h⟩ := h
  refine ⟨Writer58, Len59, Sum60, he, ?_⟩
  have hb1 := hk.blk hb1 (by simp)
  have hb2 := hk.blk hb2 (by simp)
  refine thenW_in fun ww63 e63 => ?_
  have hb3 := Blk.of_new e63
  have hg3 := ((Ext.refl no ww62)).size
  have hb1_3 := Nat.ne_of_lt hb1.lt
  have hb1 := hb1.x_alloc e63
  have hb2_3 := Nat.ne_of_lt hb2.lt
  have hb2 := hb2.x_alloc e63
  have hx63 := (Ext.refl no ww62).x_alloc e63
  refine ⟨hb3.cani 0 rfl rfl, thenW_in fun ww64 e64 => ?_⟩
  have hx64 := hx63.x_set (q := ww62.heap.size) (i := 0) rfl (.inr hg3) e64
  have hb1 := hb1.oth (q := ww62.heap.size) (i := 0) rfl hb1_3 e64
  have hb2 := hb2.oth (q := ww62.heap.size) (i := 0) rfl hb2_3 e64
  have hb3 := hb3.seti 0 rfl e64
  refine ⟨hb3.cani 1 rfl rfl, thenW_in fun ww65 e65 => ?_⟩
  have hx65 := hx64.x_set (q := ww62.heap.size) (i := 1) rfl (.inr hg3) e65
  have hb1 := hb1.oth (q := ww62.heap.size) (i := 1) rfl hb1_3 e65
  have hb2 := hb2.oth (q := ww62.heap.size) (i := 1) rfl hb2_3 e65
  have hb3 := hb3.seti 1 rfl e65
  refine ⟨hb3.cani 2 rfl rfl, thenW_in fun ww66 e66 => ?_⟩
  have hx66 := hx65.x_set (q := ww62.heap.size) (i := 2) rfl (.inr hg3) e66
  have hb1 := hb1.oth (q := ww62.heap.size) (i := 2) rfl hb1_3 e66
  have hb2 := hb2.oth (q := ww62.heap.size) (i := 2) rfl hb2_3 e66
  have hb3 := hb3.seti 2 rfl e66
  refine bif_of (fun c67 => ?_) (fun c67 => ?_)
  · have h := h.1 (beq_t c67)
    refine bif_of (fun c68 => ?_) (fun c68 => ?_)
    · have h := h.1 (beq_t c68)
      refine bif_of (fun c69 => ?_) (fun c69 => ?_)
      · have h := h.1 (beq_t c69)
        refine ⟨Prev18, hb1.celli 2 rfl rfl, ?_⟩
        refine bif_of (fun c70 => ?_) (fun c70 => ?_)
        · have h := h.1 (beq_t c70)
          refine ⟨Prev39, hb2.celli 2 rfl rfl, ?_⟩
          refine bif_of (fun c71 => ?_) (fun c71 => ?_)
          · have h := h.1 (bne_t c71)
            refine ⟨Len59, hb3.celli 1 rfl rfl, ?_⟩
            refine bif_of (fun c72 => ?_) (fun c72 => ?_)
            · have h := h.1 (beq_t c72)
              refine ⟨Sum60, hb3.celli 2 rfl rfl, ?_⟩
              refine ⟨Prev39, hb2.celli 2 rfl rfl, ?_⟩
              refine bif_of (fun c73 => ?_) (fun c73 => ?_)
              · have h := h.1 (bne_t c73)
                refine ⟨Writer16, Index17, Prev18, AtT19, AtW20, Epoch21, Body22a, Body22n, Body22c, Sig23, ⟨hb1.celli 0 rfl rfl, hb1.celli 1 rfl rfl, hb1.celli 2 rfl rfl, hb1.celli 3 rfl rfl, hb1.celli 4 rfl rfl, hb1.celli 5 rfl rfl, hb1.celli 6 rfl rfl, hb1.celli 7 rfl rfl, trivial⟩, ?_⟩
                have h := h ww66 hx66
                refine h.mono fun ee76 ww77 h => ?_
                obtain ⟨check75, he, h⟩ := h
                refine ⟨check75, he, ?_⟩
                exact h
              · have h := h.2 (bne_f c73)
                have h := h ww66 hx66
                exact h
            · have h := h.2 (beq_f c72)
              have h := h ww66 hx66
              exact h
          · have h := h.2 (bne_f c71)
            have h := h ww66 hx66
            exact h
        · have h := h.2 (beq_f c70)
          have h := h ww66 hx66
          exact h
      · have h := h.2 (beq_f c69)
        have h := h ww66 hx66
        exact h
    · have h := h.2 (beq_f c68)
      have h := h ww66 hx66
      exact h
  · have h := h.2 (beq_f c67)
    have h := h ww66 hx66
    exact h

theorem cachettelaw07_alive.go  {R : Value → World → Prop} {w : World} (h : cachettelaw07_alive.N  R w) : Calls Try.prog 10 #[] w fun e w' => ∃ v, e = .returned v ∧ R v w' := cachettelaw07_alive.ok  (cachettelaw07_alive.up  h)
theorem cachettelaw07_alive.run  {V : Value} {Q : World → Prop} {w : World} (h : cachettelaw07_alive.N  (fun v w' => v = V ∧ Q w') w) : Calls Try.prog 10 #[] w (Ret V Q) := (cachettelaw07_alive.go  h).mono fun e w' ⟨v, he, hv, hq⟩ => ⟨by rw [he, hv], hq⟩

/-- cachetteref06.All -/
def cachetteref06_All.M (a1a : Option Addr) (a1n : Nat) (a1c : Nat) (b2a : Option Addr) (b2n : Nat) (b2c : Nat) (R : Value → World → Prop) (w : World) : Prop :=
  bif (a1n : Int) != (b2n : Int) then (
  R (.bool false) w) else (
  ∃ (I0 : Nat → List Value → World → Prop) (m4 : Nat), I0 m4 [.int .i64 0] w ∧ ∀ (m5 : Nat) (ww6 : World) (i3 : Int), I0 m5 [.int .i64 i3] ww6 →
  bif decide (i3 < (a1n : Int)) then (
  thenW (ww6.drew) fun ww7 =>
  a1a.elim False fun a8 =>
  0 ≤ (i3 : Int) ∧ (i3 : Int) < (a1n : Int) ∧
  ∃ (xWriter9 : Int) (xIndex10 : Int) (xPrev11 : Int) (xAtT12 : Int) (xAtW13 : Int) (xEpoch14 : Int) (xBody15a : Option Addr) (xBody15n : Nat) (xBody15c : Nat) (xSig16 : Int), cellsAt ww7 (a8.add (Int.toNat i3 * 8)) [.int .i64 xWriter9, .int .i64 xIndex10, .int .u64 xPrev11, .int .i64 xAtT12, .int .i64 xAtW13, .int .i64 xEpoch14, .slice xBody15a xBody15n xBody15c, .int .u64 xSig16] 0 ∧
  b2a.elim False fun a17 =>
  0 ≤ (i3 : Int) ∧ (i3 : Int) < (b2n : Int) ∧
  ∃ (xWriter18 : Int) (xIndex19 : Int) (xPrev20 : Int) (xAtT21 : Int) (xAtW22 : Int) (xEpoch23 : Int) (xBody24a : Option Addr) (xBody24n : Nat) (xBody24c : Nat) (xSig25 : Int), cellsAt ww7 (a17.add (Int.toNat i3 * 8)) [.int .i64 xWriter18, .int .i64 xIndex19, .int .u64 xPrev20, .int .i64 xAtT21, .int .i64 xAtW22, .int .i64 xEpoch23, .slice xBody24a xBody24n xBody24c, .int .u64 xSig25] 0 ∧
  Calls Try.prog 27 #[.agg #[.int .i64 xWriter9, .int .i64 xIndex10, .int .u64 xPrev11, .int .i64 xAtT12, .int .i64 xAtW13, .int .i64 xEpoch14, .slice xBody15a xBody15n xBody15c, .int .u64 xSig16], .agg #[.int .i64 xWriter18, .int .i64 xIndex19, .int .u64 xPrev20, .int .i64 xAtT21, .int .i64 xAtW22, .int .i64 xEpoch23, .slice xBody24a xBody24n xBody24c, .int .u64 xSig25]] ww7 fun ee27 ww28 => ∃ (same26 : Bool), ee27 = .returned (.bool same26) ∧
  bif !same26 then (
  R (.bool false) ww28) else (
  ∃ m29, m29 < m5 ∧ I0 m29 [.int .i64 (IntKind.i64.wrap (i3 + 1))] ww28)) else (
  R (.bool true) ww6))

theorem cachetteref06_All.eq (a1a : Option Addr) (a1n : Nat) (a1c : Nat) (b2a : Option Addr) (b2n : Nat) (b2c : Nat) (R : Value → World → Prop) (w : World) : mfunc Try.prog [(0, [0, 1], [(5, (.one (.int .i64)))])] 17 [.slice a1a a1n a1c, .slice b2a b2n b2c] R w = cachetteref06_All.M a1a a1n a1c b2a b2n b2c R w := by kernel_rfl
theorem cachetteref06_All.ok (a1a : Option Addr) (a1n : Nat) (a1c : Nat) (b2a : Option Addr) (b2n : Nat) (b2c : Nat) {R : Value → World → Prop} {w : World} (h : cachetteref06_All.M a1a a1n a1c b2a b2n b2c R w) : Calls Try.prog 17 #[.slice a1a a1n a1c, .slice b2a b2n b2c] w fun e w' => ∃ v, e = .returned v ∧ R v w' :=
  mfunc_ok follows (H := [(0, [0, 1], [(5, (.one (.int .i64)))])]) (args := [.slice a1a a1n a1c, .slice b2a b2n b2c]) (by rw [cachetteref06_All.eq]; exact h)

def cachetteref06_All.N (a1a : Option Addr) (a1n : Nat) (a1c : Nat) (b2a : Option Addr) (b2n : Nat) (b2c : Nat) (R : Value → World → Prop) (w : World) : Prop :=
  ((a1n : Int) ≠ (b2n : Int) →
    R (.bool false) w) ∧
  ((a1n : Int) = (b2n : Int) →
    ∃ (I0 : Nat → List Value → World → Prop) (m5 : Nat), I0 m5 [.int .i64 0] w ∧ ∀ (m6 : Nat) (ww7 : World) (i4 : Int), I0 m6 [.int .i64 i4] ww7 →
    (i4 < (a1n : Int) →
      ∃ a10 : Addr, a1a = some a10 ∧
      0 ≤ (i4 : Int) ∧ (i4 : Int) < (a1n : Int) ∧
      ∃ (xWriter12 : Int) (xIndex13 : Int) (xPrev14 : Int) (xAtT15 : Int) (xAtW16 : Int) (xEpoch17 : Int) (xBody18a : Option Addr) (xBody18n : Nat) (xBody18c : Nat) (xSig19 : Int), cellsAt ww7 (a10.add (Int.toNat i4 * 8)) [.int .i64 xWriter12, .int .i64 xIndex13, .int .u64 xPrev14, .int .i64 xAtT15, .int .i64 xAtW16, .int .i64 xEpoch17, .slice xBody18a xBody18n xBody18c, .int .u64 xSig19] 0 ∧
      ∃ a20 : Addr, b2a = some a20 ∧
      0 ≤ (i4 : Int) ∧ (i4 : Int) < (b2n : Int) ∧
      ∃ (xWriter22 : Int) (xIndex23 : Int) (xPrev24 : Int) (xAtT25 : Int) (xAtW26 : Int) (xEpoch27 : Int) (xBody28a : Option Addr) (xBody28n : Nat) (xBody28c : Nat) (xSig29 : Int), cellsAt ww7 (a20.add (Int.toNat i4 * 8)) [.int .i64 xWriter22, .int .i64 xIndex23, .int .u64 xPrev24, .int .i64 xAtT25, .int .i64 xAtW26, .int .i64 xEpoch27, .slice xBody28a xBody28n xBody28c, .int .u64 xSig29] 0 ∧
      ∀ (ww9 : World), Ext no ww7 ww9 →
      Calls Try.prog 27 #[.agg #[.int .i64 xWriter12, .int .i64 xIndex13, .int .u64 xPrev14, .int .i64 xAtT15, .int .i64 xAtW16, .int .i64 xEpoch17, .slice xBody18a xBody18n xBody18c, .int .u64 xSig19], .agg #[.int .i64 xWriter22, .int .i64 xIndex23, .int .u64 xPrev24, .int .i64 xAtT25, .int .i64 xAtW26, .int .i64 xEpoch27, .slice xBody28a xBody28n xBody28c, .int .u64 xSig29]] ww9 fun ee31 ww32 => ∃ (same30 : Bool), ee31 = .returned (.bool same30) ∧
      (same30 = false →
        R (.bool false) ww32) ∧
      (same30 = true →
        (-9223372036854775808 : Int) ≤ (i4 + 1) ∧ (i4 + 1) < 9223372036854775808 ∧
        ∃ m34, m34 < m6 ∧ I0 m34 [.int .i64 (i4 + 1)] ww32)) ∧
    ((a1n : Int) ≤ i4 →
      R (.bool true) ww7))

theorem cachetteref06_All.up (a1a : Option Addr) (a1n : Nat) (a1c : Nat) (b2a : Option Addr) (b2n : Nat) (b2c : Nat) {R : Value → World → Prop} {w : World} (h : cachetteref06_All.N a1a a1n a1c b2a b2n b2c R w) : cachetteref06_All.M a1a a1n a1c b2a b2n b2c R w := by
  unfold cachetteref06_All.M
  unfold cachetteref06_All.N at h
  refine bif_of (fun c3 => ?_) (fun c3 => ?_)
  · have h := h.1 (bne_t c3)
    exact h
  · have h := h.2 (bne_f c3)
    obtain ⟨I0, m5, h0, h⟩ := h
    refine ⟨I0, m5, h0, fun m6 ww7 i4 hI => ?_⟩
    have h := h m6 ww7 i4 hI
    refine bif_of (fun c8 => ?_) (fun c8 => ?_)
    · have h := h.1 (of_decide_eq_true c8)
      refine thenW_in fun ww9 e9 => ?_
      have hx9 := (Ext.refl no ww7).x_drew e9
      obtain ⟨a10, ha10, h⟩ := h
      refine elim_some ha10 ?_
      obtain ⟨hq1, hq2, h⟩ := h
      refine ⟨hq1, hq2, ?_⟩
      obtain ⟨xWriter12, xIndex13, xPrev14, xAtT15, xAtW16, xEpoch17, xBody18a, xBody18n, xBody18c, xSig19, hc11, h⟩ := h
      refine ⟨xWriter12, xIndex13, xPrev14, xAtT15, xAtW16, xEpoch17, xBody18a, xBody18n, xBody18c, xSig19, cellsAt_no (hx9) hc11, ?_⟩
      obtain ⟨a20, ha20, h⟩ := h
      refine elim_some ha20 ?_
      obtain ⟨hq1, hq2, h⟩ := h
      refine ⟨hq1, hq2, ?_⟩
      obtain ⟨xWriter22, xIndex23, xPrev24, xAtT25, xAtW26, xEpoch27, xBody28a, xBody28n, xBody28c, xSig29, hc21, h⟩ := h
      refine ⟨xWriter22, xIndex23, xPrev24, xAtT25, xAtW26, xEpoch27, xBody28a, xBody28n, xBody28c, xSig29, cellsAt_no (hx9) hc21, ?_⟩
      have h := h ww9 hx9
      refine h.mono fun ee31 ww32 h => ?_
      obtain ⟨same30, he, h⟩ := h
      refine ⟨same30, he, ?_⟩
      refine bif_of (fun c33 => ?_) (fun c33 => ?_)
      · have h := h.1 (not_t c33)
        exact h
      · have h := h.2 (not_f c33)
        obtain ⟨hw1, hw2, h⟩ := h
        try rw [w64 hw1 hw2]
        obtain ⟨m34, hk, h⟩ := h
        exact ⟨m34, hk, h⟩
    · have h := h.2 (Int.not_lt.1 (of_decide_eq_false c8))
      exact h

theorem cachetteref06_All.go (a1a : Option Addr) (a1n : Nat) (a1c : Nat) (b2a : Option Addr) (b2n : Nat) (b2c : Nat) {R : Value → World → Prop} {w : World} (h : cachetteref06_All.N a1a a1n a1c b2a b2n b2c R w) : Calls Try.prog 17 #[.slice a1a a1n a1c, .slice b2a b2n b2c] w fun e w' => ∃ v, e = .returned v ∧ R v w' := cachetteref06_All.ok a1a a1n a1c b2a b2n b2c (cachetteref06_All.up a1a a1n a1c b2a b2n b2c h)
theorem cachetteref06_All.run (a1a : Option Addr) (a1n : Nat) (a1c : Nat) (b2a : Option Addr) (b2n : Nat) (b2c : Nat) {V : Value} {Q : World → Prop} {w : World} (h : cachetteref06_All.N a1a a1n a1c b2a b2n b2c (fun v w' => v = V ∧ Q w') w) : Calls Try.prog 17 #[.slice a1a a1n a1c, .slice b2a b2n b2c] w (Ret V Q) := (cachetteref06_All.go a1a a1n a1c b2a b2n b2c h).mono fun e w' ⟨v, he, hv, hq⟩ => ⟨by rw [he, hv], hq⟩

/-- a step that is handed in. -/
structure CO where
  kd : Int
  t : Int
  ep : Int
  a : Option Addr
  c : Nat
  B : List UInt8
  n : Int
  fd : Int
  E : PE
def CO.C (p : CO) : List Value := [.int .i64 p.kd, .int .i64 p.t, .int .i64 p.ep, .slice p.a p.B.length p.c, .int .i64 p.n, .int .i64 p.fd] ++ p.E.C
theorem CO.len (p : CO) : p.C.length = 14 := rfl
structure CO.good (W : World) (p : CO) : Prop where
  t : -9223372036854775808 ≤ p.t ∧ p.t < 9223372036854775808
  ep : -9223372036854775808 ≤ p.ep ∧ p.ep < 9223372036854775808
  n : -9223372036854775808 ≤ p.n ∧ p.n < 9223372036854775808
  la : p.B.length ≤ p.c
  ra : RowAt W p.a (bytesV p.B)
  e : RowAt W p.E.a (bytesV p.E.e.body) ∧ p.E.e.body.length ≤ p.E.c ∧ p.E.e.fit ∧ p.E.e.wide
theorem opens_co : Opens Try.prog 43 fun W cs => ∃ p : CO, cs = p.C ∧ p.good W :=
  (opens_seq (qs := [(1, _), (1, _), (1, _), (1, _), (1, _), (1, _), (8, _)]) (size := 14) Try.underlying43 (by kernel_rfl)
    ⟨⟨rfl, by kernel_rfl, opens_int Try.underlying3⟩, ⟨rfl, by kernel_rfl, opens_int Try.underlying2⟩, ⟨rfl, by kernel_rfl, opens_int Try.underlying3⟩,
     ⟨rfl, by kernel_rfl, opens_bytes Try.underlying24 (by kernel_rfl) Try.underlying5⟩, ⟨rfl, by kernel_rfl, opens_int Try.underlying3⟩, ⟨rfl, by kernel_rfl, opens_int Try.underlying3⟩, ⟨rfl, by kernel_rfl, opens_entry⟩, rfl⟩).mono
    fun W cs ⟨_, _, e0, _, ⟨kd, q0, _⟩, _, _, e1, _, ⟨t, q1, ft⟩, _, _, e2, _, ⟨ep, q2, fe⟩, _, _, e3, _, ⟨aa, ac, A, q3, la, _, ra⟩, _, _, e4, _, ⟨n, q4, fn⟩, _, _, e5, _, ⟨fd, q5, _⟩, _, _, e6, _, ⟨e, ea, ec, q6, f1, f2, f3, _, f5⟩, q7⟩ => by
      subst q0; subst q1; subst q2; subst q3; subst q4; subst q5; subst q6; subst q7; subst e6; subst e5; subst e4; subst e3; subst e2; subst e1; subst e0
      exact ⟨⟨kd, t, ep, aa, ac, A, n, fd, ⟨e, ea, ec⟩⟩, rfl, wf_i64 ft, wf_i64 fe, wf_i64 fn, la, ra, f5, f3, f1, f2⟩
def COsQ (W : World) (cs : List Value) : Prop := ∃ (a : Option Addr) (c : Nat) (l : List CO), cs = [.slice a l.length c] ∧ l.length ≤ c ∧ c ≤ maxLen ∧ RowAt W a (l.flatMap CO.C) ∧ ∀ x ∈ l, x.good W
theorem opens_cos : Opens Try.prog 22 COsQ := opens_rows (size := 14) Try.underlying22 (by kernel_rfl) opens_co
def lightC (dn : Nat) (l : List CO) : Bool := decide (dn ≤ 50) && decide (l.length ≤ 40) && l.all fun p => decide (p.B.length ≤ 1200) && decide (p.E.e.body.length ≤ 1200)
section
variable {w W : World} {da la : Option Addr} {dn dc lc : Nat} {d : List Int} {l : List CO}
theorem light_spec (hl : RowAt w la (l.flatMap CO.C)) : Calls Try.prog 9 #[.slice da dn dc, .slice la l.length lc] w (Ret (.bool (lightC dn l)) fun w' => w' = w) := by
  refine cachettelaw07_light.run _ _ _ _ _ _ ?_
  unfold cachettelaw07_light.N
  refine ⟨fun h => ⟨by unfold lightC; rw [show decide (dn ≤ 50) = false by simp; omega]; rfl, rfl⟩, fun h1 => ⟨fun h => ⟨by unfold lightC; rw [show decide (l.length ≤ 40) = false by simp; omega]; simp, rfl⟩, fun h2 => ?_⟩⟩
  refine ⟨fun q vs w1 => ∃ t : Nat, vs = [.int .i64 t] ∧ q + t = l.length ∧ w1 = w ∧ (l.take t).all (fun p => decide (p.B.length ≤ 1200) && decide (p.E.e.body.length ≤ 1200)) = true, l.length, ⟨0, rfl, rfl, rfl, rfl⟩, ?_⟩
  rintro q w1 i ⟨t, hi, hq, rfl, hn⟩
  simp only [List.cons.injEq, Value.int.injEq, true_and, and_true] at hi
  subst hi
  refine ⟨fun ht => ?_, fun ht => ?_⟩
  · have htl : t < l.length := by omega
    have hg : l[t]? = some l[t] := List.getElem?_eq_getElem htl
    obtain ⟨ad, rfl⟩ := hl.faddr CO.len (by decide) htl
    have no : ¬ (l[t].B.length ≤ 1200 ∧ l[t].E.e.body.length ≤ 1200) → lightC dn l = false := fun h => by
      unfold lightC
      rw [show (l.all fun p => decide (p.B.length ≤ 1200) && decide (p.E.e.body.length ≤ 1200)) = false by rw [List.all_eq_false]; exact ⟨l[t], List.getElem_mem htl, by simpa using h⟩]; simp
    refine ⟨ad, rfl, by omega, by omega, _, _, _, by rw [Int.toNat_natCast]; exact hl.fcell CO.len hg 3 rfl, fun hA => ⟨by rw [no (by omega)], rfl⟩, fun hA => ⟨by omega, by omega, _, _, _, by rw [Int.toNat_natCast, add_add]; exact hl.fcell CO.len hg 12 rfl, fun hB => ⟨by rw [no (by omega)], rfl⟩, fun hB => ⟨by omega, by omega, q - 1, by omega, t + 1, rfl, by omega, rfl, ?_⟩⟩⟩
    rw [List.take_add_one, hg, List.all_append, hn]
    simp; omega
  · obtain rfl : t = l.length := by omega
    rw [List.take_length] at hn
    refine ⟨?_, rfl⟩
    unfold lightC
    rw [hn, decide_eq_true (show dn ≤ 50 by omega), decide_eq_true (show l.length ≤ 40 by omega)]
    rfl
theorem light_of (h : lightC dn l = true) : dn ≤ 50 ∧ l.length ≤ 40 ∧ ∀ p ∈ l, p.B.length ≤ 1200 ∧ p.E.e.body.length ≤ 1200 := by
  unfold lightC at h
  simp only [Bool.and_eq_true, decide_eq_true_eq, List.all_eq_true] at h
  exact ⟨h.1.1, h.1.2, h.2⟩
/-- all entries held against each other. -/
theorem refAll_spec {w : World} {a b : Option Addr} {ac bc : Nat} {l m : List PE} (ha : RowAt w a (PE.Cs l)) (hb : RowAt w b (PE.Cs m)) (hla : ∀ x ∈ l, RowAt w x.a (bytesV x.e.body) ∧ x.e.body.length < 1000000) (hlb : ∀ x ∈ m, RowAt w x.a (bytesV x.e.body)) (hl : l.length < 1000000) :
    Calls Try.prog 17 #[.slice a l.length ac, .slice b m.length bc] w (Ret (.bool (decide (l.map PE.e = m.map PE.e))) fun w' => Ext no w w') := by
  refine cachetteref06_All.run _ _ _ _ _ _ ?_
  unfold cachetteref06_All.N
  refine ⟨fun hne => ⟨?_, Ext.refl _ _⟩, fun heq => ?_⟩
  · congr 1
    rw [eq_comm, decide_eq_false_iff_not]
    intro h
    have := congrArg List.length h
    simp at this; omega
  refine ⟨fun q vs w1 => ∃ t : Nat, vs = [.int .i64 t] ∧ q + t = l.length ∧ Ext no w w1 ∧ (l.map PE.e).take t = (m.map PE.e).take t, l.length, ⟨0, rfl, rfl, Ext.refl _ _, rfl⟩, ?_⟩
  rintro q w1 i ⟨t, hi, hq, X1, hn⟩
  simp only [List.cons.injEq, Value.int.injEq, true_and, and_true] at hi
  subst hi
  refine ⟨fun ht => ?_, fun ht => ?_⟩
  · have htl : t < l.length := by omega
    have htm : t < m.length := by omega
    have hg : l[t]? = some l[t] := List.getElem?_eq_getElem htl
    have hgm : m[t]? = some m[t] := List.getElem?_eq_getElem htm
    have hx := hla _ (List.getElem_mem htl)
    have hy := hlb _ (List.getElem_mem htm)
    generalize l[t] = x at *
    generalize m[t] = y at *
    obtain ⟨ad, rfl⟩ := ha.faddr PE.len (by decide) htl
    obtain ⟨bd, rfl⟩ := hb.faddr PE.len (by decide) htm
    refine ⟨ad, rfl, by omega, by omega, x.e.w, x.e.i, x.e.pv, x.e.t, x.e.tw, x.e.ep, x.a, x.e.body.length, x.c, x.e.sg, by rw [Int.toNat_natCast]; exact PE.loads (ha.no X1) rfl hg, bd, rfl, by omega, by omega, y.e.w, y.e.i, y.e.pv, y.e.t, y.e.tw, y.e.ep, y.a, y.e.body.length, y.c, y.e.sg, by rw [Int.toNat_natCast]; exact PE.loads (hb.no X1) rfl hgm, fun w9 X9 => ?_⟩
    refine (rESame_spec (e := x.e) (f := y.e) ((hx.1.no X1).no X9) ((hy.no X1).no X9) hx.2).mono fun z w32 ⟨he, X32⟩ => ⟨_, he, fun h => ⟨?_, (X1.trans X9).trans X32⟩, fun h => ⟨by omega, by omega, q - 1, by omega, t + 1, rfl, by omega, (X1.trans X9).trans X32, ?_⟩⟩
    · congr 1
      rw [eq_comm, decide_eq_false_iff_not]
      intro h2
      have h3 := congrArg (fun l => l[t]?) h2
      simp only [List.getElem?_map, hg, hgm, Option.map_some, Option.some.injEq] at h3
      exact of_decide_eq_false h h3
    · rw [List.take_add_one, List.take_add_one, hn, List.getElem?_map, List.getElem?_map, hg, hgm, Option.map_some, Option.map_some, of_decide_eq_true h]
  · have : t = l.length := by omega
    subst this
    rw [List.take_of_length_le (by simp), List.take_of_length_le (by simp; omega)] at hn
    exact ⟨by rw [decide_eq_true hn], X1⟩
end
end Go.Proofs.Ytnppbflccbpoeaa

/- Chain: the chapter's example; a log that is none. -/
set_option linter.unusedVariables false
set_option linter.unusedSimpArgs false
set_option maxRecDepth 20000
set_option maxHeartbeats 2000000
namespace Go.Proofs.Ytnppbflccbpoeaa
open Go Go.Mx Go.Proofs
open W (OwnB GivesW numR countR doneR zig unzig intR)
theorem ex7_fact : ∃ S1 S2 S3 : OS, ∃ L1 L2 : CL, ∃ x y : Ent, pairOf (OS.init []) = ((1, 2), S1) ∧ issueC S1 ⟨1, 2, [], 0⟩ 1 1 1 0 [120] = ((x, 0), L1, S2) ∧ issueC S2 L1 1 2 1 0 [] = ((y, 0), L2, S3) ∧
    x.pv = 0 ∧ y.pv ≠ 0 ∧ L2.es.length = 2 ∧ L2.sum ≠ y.pv ∧ checkC S3 L2 x = 8 :=
  ⟨_, _, _, _, _, ⟨1, 0, 0, 1, 1, 0, [120], 3⟩, ⟨1, 1, 4, 2, 1, 0, [], 5⟩, rfl, rfl, rfl, rfl, by decide, rfl, by decide, rfl⟩
theorem alive7_spec (w : World) : Calls Try.prog 10 #[] w (Ret (.bool true) fun w' => Ext no w w') := by
  refine cachettelaw07_alive.run ?_
  unfold cachettelaw07_alive.N
  obtain ⟨S1, S2, S3, L1, L2, x, y, f1, f2, f3, f4, f5, f6, f7, f8⟩ := ex7_fact
  have ok0 : Tags w (fun _ => none) := fun b j _ h => by cases h
  refine (NewO (l := []) (c := 0) ok0 (RowAt.nil _ _) (by simp)).mono fun v w3 ⟨k, o3, hx, hk, s3, P3⟩ => ⟨_, hx, ?_⟩
  have i0 : OInv (OS.init []) := OInv.init (by simp)
  have nk : ∀ {w1 w2 : World} {o1 o2 : Own}, Step no w (fun _ => none) w1 o1 → Step (fun i => i = k) w1 o1 w2 o2 → Step no w (fun _ => none) w2 o2 := fun h1 h2 => h1.trans' h2 fun i hi => .inr (by omega)
  refine (PairO P3 s3.ok i0.ok (by decide)).mono fun v w7 ⟨o7, hx, s7', P7⟩ => ⟨_, _, hx, ?_⟩
  obtain ⟨i1, _, kp, ks, _⟩ := pair_inv i0
  have u1 := (pairOf_ok i0.ok).2
  rw [f1] at P7 i1 u1 kp ks ⊢
  dsimp only at u1 i1 kp ks P7
  have u0 : (OS.init []).used.length = 0 := rfl
  have hk1 : Keyed S1 1 2 := ⟨ks, kp⟩
  have s7 := nk s3 s7'
  refine (cNew_spec (k := k) s7.ok 1 2).mono fun v w11 h => ?_
  rcases h with ⟨h, _⟩ | ⟨_, q, o11, hx, hq, s11', PL⟩
  · exact absurd ⟨by decide, by decide⟩ h
  refine ⟨_, _, hx, ?_⟩
  have s11 := s7.trans s11'
  have l11 := PL.lt
  have hkl := P7.lt
  have hqk : q ≠ k := by omega
  have nkq : ∀ {w1 w2 : World} {o1 o2 : Own}, Step no w (fun _ => none) w1 o1 → Step (fun i => i = q ∨ i = k) w1 o1 w2 o2 → Step no w (fun _ => none) w2 o2 := fun h1 h2 => h1.trans' h2 fun i hi => .inr (by have := s7.size; omega)
  intro w12 q13 X12 hb12 hq12 hq12'
  obtain ⟨w15, hc15, hr15, X15⟩ := litB Try.underlying24 Try.underlying5 [120] X12 hb12 hq12
  refine ⟨_, _, _, w15, hc15, ?_⟩
  have s15' := Step.of_no X15 s11.ok
  have s15 := s11.trans s15'
  have rA : Row w15 (grow w11 o11) (some (blk q13)) (bytesV [120]) := Row.fresh hr15 fun ad ha => by cases ha; exact hq12
  have L0 : LOk S1 1 2 ⟨1, 2, [], 0⟩ := LOk.nil 1
  have n1 : S1.used.length + 1 < 1000000 := by omega
  have hi := L0.issue i1 hk1 (by omega) 1 1 0 [120]
  refine (cIssue_spec (PL.step s15' id) ((P7.step s11' id).step s15' id) s15.ok hqk i1.ok n1 ⟨by decide, by decide⟩ 1 1 1 0 (issue_sg i1 (by omega) _ hk1) rA).mono fun v w26 ⟨o26, xa, xc, hx, s26', PL26, P26, rx, lx⟩ => ⟨_, _, _, _, _, _, _, _, _, _, _, hx, ?_⟩
  rw [f2] at PL26 P26 rx lx hi ⊢
  obtain ⟨LO1, i2, le1, u2, _, _, _, _, xf⟩ := hi
  dsimp only at LO1 i2 le1 u2 PL26 P26
  have hk2 := hk1.le le1
  have s26 := nkq s15 s26'
  intro w35 p36 X35 hp36
  have g36 := hp36 p36 (by simp)
  have s35' := Step.of_no X35 s26.ok
  have F35 : Free [p36] w35 (grow w26 o26) := Free.of hp36
  have s35 := s26.trans s35'
  have n2 : S2.used.length + 1 < 1000000 := by omega
  have hi := LO1.issue i2 hk2 (by omega) 2 1 0 []
  refine (cIssue_spec (a := none) (c := 0) (PL26.step s35' id) (P26.step s35' id) s35.ok hqk i2.ok n2 (LO1.fit i2 (by omega)) 1 2 1 0 (issue_sg i2 (by omega) _ hk2) (body := []) (Row.nil _ _ _)).mono fun v w47 ⟨o47, ya, yc, hx, s47', PL47, P47, ry, ly⟩ => ⟨_, _, _, _, _, _, _, _, _, _, _, hx, F35.keep s47', fun w56 p57 X56 hp57 => ?_⟩
  rw [f3] at PL47 P47 ry ly hi ⊢
  have s47 := nkq s35 s47'
  have F47 := F35.step s47'
  have s56' := Step.of_no X56 s47.ok
  have s56 := s47.trans s56'
  have F56 : Free [p36, p57] w56 (grow w47 o47) := (F47.step s56').app (M := [p57]) (Free.of hp57)
  refine (cHead_spec (PL47.step s56' id)).mono fun v w62 ⟨hx, X62⟩ => ⟨_, _, _, hx, X62.kept, fun _ => ⟨fun _ => ⟨fun _ => ⟨fun _ => ⟨fun _ => ⟨fun _ => ⟨fun _ w66 X66 => ?_, fun h => absurd h f7⟩, fun h => absurd (by rw [f6]; rfl) h⟩, fun h => absurd h f5⟩, fun h => absurd f4 h⟩, fun h => absurd rfl h⟩, fun h => absurd rfl h⟩, fun h => absurd rfl h⟩
  have s66 := (Step.of_no X62 s56.ok).trans (Step.of_no X66 (Step.of_no X62 s56.ok).ok)
  have s66a := s56'.trans s66
  refine (cCheck_spec (e := x) ((PL47.step s56' id).step s66 id) ((P47.step s56' id).step s66 id) s66.ok (fun _ => xf) ((rx.step s35').step s47' |>.step s66a).1).mono fun v w77 ⟨hx, X77⟩ => ⟨_, hx, ?_, ?_⟩
  · rw [f8]; rfl
  · exact (s47.ext.mono fun b ⟨_, h, _⟩ _ => by cases h).trans ((X56.trans (X62.trans X66)).trans X77)
end Go.Proofs.Ytnppbflccbpoeaa

/- Logs that a law issues, and the list that it keeps of them. -/
set_option linter.unusedVariables false
set_option linter.unusedSimpArgs false
set_option maxRecDepth 20000
set_option maxHeartbeats 2000000
namespace Go.Proofs.Ytnppbflccbpoeaa
open Go Go.Mx Go.Proofs
open W (OwnB GivesW numR countR doneR zig unzig intR)
/-- an oracle and a log of it. -/
structure OneI (w : World) (o : Own) (q k : Nat) (s p : Int) (S : OS) (L : CL) (n : Nat) : Prop where
  log : PLog w o q k L
  orc : POrc w o k S
  ok : Tags w o
  inv : OInv S
  key : Keyed S s p
  lok : LOk S s p L
  len : S.used.length ≤ n
  ne : q ≠ k
section
variable {w w' w1 W0 : World} {o o' o1 : Own} {q k n N : Nat} {K : Nat → Prop} {s p : Int} {S : OS} {L : CL} {e : Ent} {a : Option Addr} {c : Nat} {l : List PE}
theorem OneI.step (h : OneI w o q k s p S L n) (t : Step K w o w' o') (hq : ¬ K q) (hk : ¬ K k) : OneI w' o' q k s p S L n :=
  ⟨h.log.step t hq, h.orc.step t hk, t.ok, h.inv, h.key, h.lok, h.len, h.ne⟩
theorem OneI.mono (h : OneI w o q k s p S L n) {m : Nat} (hm : n ≤ m) : OneI w o q k s p S L m := ⟨h.log, h.orc, h.ok, h.inv, h.key, h.lok, Nat.le_trans h.len hm, h.ne⟩
/-- an entry is issued. -/
theorem OneI.issue (h : OneI w o q k s p S L n) (hn : n + 2 < 1000000) (t tw ep : Int) {body : List UInt8} (hb : Row w o a (bytesV body)) :
    Calls Try.prog 14 #[.pointer (some (blk q)), .int .u64 s, .agg #[.int .i64 t, .int .i64 tw], .int .i64 ep, .slice a body.length c] w (fun x w' => ∃ (o' : Own) (S' : OS) (L' : CL) (e' : PE) (cd : Int), x = .returned (.tuple #[entV e'.e e'.a e'.c, .int .i64 cd]) ∧ Step (fun i => i = q ∨ i = k) w o w' o' ∧
      OneI w' o' q k s p S' L' (n + 2) ∧ e'.ok w' o' ∧ e'.e.body.length ≤ 1100 ∧ L'.wr = L.wr ∧ L'.es = (if cd = 0 then L.es ++ [e'.e] else L.es) ∧ (cd = 0 → OkAt S' L.wr s L.es e'.e) ∧ OS.le S S' ∧ issueC S L s t tw ep body = ((e'.e, cd), L', S')) := by
  have hu := h.len
  refine (cIssue_spec h.log h.orc h.ok h.ne h.inv.ok (by omega) (h.lok.fit h.inv (by omega)) s t tw ep (issue_sg h.inv (by omega) _ h.key) hb).mono fun x w' ⟨o', a', c', he, st, pl, po, r, lc⟩ => ?_
  obtain ⟨b1, b2, b3, b4, b5, b6, b7, b8, b9⟩ := h.lok.issue h.inv h.key (by omega) t tw ep body
  exact ⟨o', _, _, ⟨_, a', c'⟩, _, he, st, ⟨pl, po, st.ok, b2, h.key.le b3, b1, by omega, h.ne⟩, ⟨r, lc, b9⟩, b8, b5, b6, fun h => (b7 h).1, b3, rfl⟩
end
end Go.Proofs.Ytnppbflccbpoeaa

/- ChainAts. -/
set_option linter.unusedVariables false
set_option linter.unusedSimpArgs false
set_option maxRecDepth 20000
set_option maxHeartbeats 2000000
namespace Go.Proofs.Ytnppbflccbpoeaa
open Go Go.Mx Go.Proofs
open W (OwnB GivesW numR countR doneR zig unzig intR)
section
variable {w : World}
end
end Go.Proofs.Ytnppbflccbpoeaa

/- ChainStays, ChainForks, ChainHeads: predicates. -/
set_option linter.unusedVariables false
set_option linter.unusedSimpArgs false
set_option maxRecDepth 20000
set_option maxHeartbeats 2000000
namespace Go.Proofs.Ytnppbflccbpoeaa
open Go Go.Mx Go.Proofs
open W (OwnB GivesW numR countR doneR zig unzig intR)
/-- cachettelaw07.ChainHeads -/
def cachettelaw07_ChainHeads.M (l1a : Option Addr) (l1n : Nat) (l1c : Nat) (take2a : Option Addr) (take2n : Nat) (take2c : Nat) (other3a : Option Addr) (other3n : Nat) (other3c : Nat) (R : Value → World → Prop) (w : World) : Prop :=
  Calls Try.prog 9 #[.slice none 0 0, .slice l1a l1n l1c] w fun ee5 ww6 => ∃ (light4 : Bool), ee5 = .returned (.bool light4) ∧
  bif !light4 then (
  Calls Try.prog 10 #[] ww6 fun ee8 ww9 => ∃ (alive7 : Bool), ee8 = .returned (.bool alive7) ∧
  R (.bool alive7) ww9) else (
  bif decide ((other3n : Int) > 1000) then (
  Calls Try.prog 10 #[] ww6 fun ee11 ww12 => ∃ (alive10 : Bool), ee11 = .returned (.bool alive10) ∧
  R (.bool alive10) ww12) else (
  Calls Try.prog 11 #[.slice none 0 0] ww6 fun ee14 ww15 => ∃ (new13 : Option Addr), ee14 = .returned (.pointer new13) ∧
  Calls Try.prog 12 #[.pointer new13] ww15 fun ee18 ww19 => ∃ (pair16 : Int) (pair17 : Int), ee18 = .returned (.tuple #[.int .u64 pair16, .int .u64 pair17]) ∧
  Calls Try.prog 13 #[.pointer new13, .int .i64 1, .int .u64 pair17] ww19 fun ee22 ww23 => ∃ (new20 : Option Addr) (new21 : Int), ee22 = .returned (.tuple #[.pointer new20, .int .i64 new21]) ∧
  Calls Try.prog 13 #[.pointer new13, .int .i64 1, .int .u64 pair17] ww23 fun ee26 ww27 => ∃ (new24 : Option Addr) (new25 : Int), ee26 = .returned (.tuple #[.pointer new24, .int .i64 new25]) ∧
  ∃ (I0 : Nat → List Value → World → Prop) (m29 : Nat), I0 m29 [.int .i64 0] ww27 ∧ ∀ (m30 : Nat) (ww31 : World) (n28 : Int), I0 m30 [.int .i64 n28] ww31 →
  bif decide (n28 < (l1n : Int)) then (
  thenW (ww31.drew) fun ww32 =>
  l1a.elim False fun a33 =>
  0 ≤ (n28 : Int) ∧ (n28 : Int) < (l1n : Int) ∧
  ∃ (T34 : Int), ww32.cell? ((a33.add (Int.toNat n28 * 14)).add 1) = some (.int .i64 T34) ∧
  l1a.elim False fun a35 =>
  0 ≤ (n28 : Int) ∧ (n28 : Int) < (l1n : Int) ∧
  ∃ (Epoch36 : Int), ww32.cell? ((a35.add (Int.toNat n28 * 14)).add 2) = some (.int .i64 Epoch36) ∧
  l1a.elim False fun a37 =>
  0 ≤ (n28 : Int) ∧ (n28 : Int) < (l1n : Int) ∧
  ∃ (Body38a : Option Addr) (Body38n : Nat) (Body38c : Nat), ww32.cell? ((a37.add (Int.toNat n28 * 14)).add 3) = some (.slice Body38a Body38n Body38c) ∧
  (Calls Try.prog 14 #[.pointer new20, .int .u64 pair16, .agg #[.int .i64 T34, .int .i64 1], .int .i64 Epoch36, .slice Body38a Body38n Body38c] ww32 fun ee48 ww49 => ∃ (Writer39 : Int) (Index40 : Int) (Prev41 : Int) (AtT42 : Int) (AtW43 : Int) (Epoch44 : Int) (Body45a : Option Addr) (Body45n : Nat) (Body45c : Nat) (Sig46 : Int) (issue47 : Int), ee48 = .returned (.tuple #[.agg #[.int .i64 Writer39, .int .i64 Index40, .int .u64 Prev41, .int .i64 AtT42, .int .i64 AtW43, .int .i64 Epoch44, .slice Body45a Body45n Body45c, .int .u64 Sig46], .int .i64 issue47]) ∧
  thenW (ww49.alloc (.cells #[.int .i64 0, .int .i64 0, .int .u64 0, .int .i64 0, .int .i64 0, .int .i64 0, .slice none 0 0, .int .u64 0] 39)) fun ww50 =>
  canStore ww50 ((blk ww49.heap.size).add 0) ∧
  thenW (ww50.setCell ((blk ww49.heap.size).add 0) (.int .i64 Writer39)) fun ww51 =>
  canStore ww51 ((blk ww49.heap.size).add 1) ∧
  thenW (ww51.setCell ((blk ww49.heap.size).add 1) (.int .i64 Index40)) fun ww52 =>
  canStore ww52 ((blk ww49.heap.size).add 2) ∧
  thenW (ww52.setCell ((blk ww49.heap.size).add 2) (.int .u64 Prev41)) fun ww53 =>
  canStore ww53 ((blk ww49.heap.size).add 3) ∧
  thenW (ww53.setCell ((blk ww49.heap.size).add 3) (.int .i64 AtT42)) fun ww54 =>
  canStore ww54 ((blk ww49.heap.size).add 4) ∧
  thenW (ww54.setCell ((blk ww49.heap.size).add 4) (.int .i64 AtW43)) fun ww55 =>
  canStore ww55 ((blk ww49.heap.size).add 5) ∧
  thenW (ww55.setCell ((blk ww49.heap.size).add 5) (.int .i64 Epoch44)) fun ww56 =>
  canStore ww56 ((blk ww49.heap.size).add 6) ∧
  thenW (ww56.setCell ((blk ww49.heap.size).add 6) (.slice Body45a Body45n Body45c)) fun ww57 =>
  canStore ww57 ((blk ww49.heap.size).add 7) ∧
  thenW (ww57.setCell ((blk ww49.heap.size).add 7) (.int .u64 Sig46)) fun ww58 =>
  bif issue47 != 0 then (
  ∃ m59, m59 < m30 ∧ I0 m59 [.int .i64 (IntKind.i64.wrap (n28 + 1))] ww58) else (
  bif decide (n28 < (take2n : Int)) then (
  take2a.elim False fun a60 =>
  0 ≤ (n28 : Int) ∧ (n28 : Int) < (take2n : Int) ∧
  ∃ (x61 : Bool), ww58.cell? (a60.add (Int.toNat n28 * 1)) = some (.bool x61) ∧
  bif x61 then (
  ∃ (xWriter62 : Int) (xIndex63 : Int) (xPrev64 : Int) (xAtT65 : Int) (xAtW66 : Int) (xEpoch67 : Int) (xBody68a : Option Addr) (xBody68n : Nat) (xBody68c : Nat) (xSig69 : Int), cellsAt ww58 (blk ww49.heap.size) [.int .i64 xWriter62, .int .i64 xIndex63, .int .u64 xPrev64, .int .i64 xAtT65, .int .i64 xAtW66, .int .i64 xEpoch67, .slice xBody68a xBody68n xBody68c, .int .u64 xSig69] 0 ∧
  Calls Try.prog 15 #[.pointer new24, .agg #[.int .i64 xWriter62, .int .i64 xIndex63, .int .u64 xPrev64, .int .i64 xAtT65, .int .i64 xAtW66, .int .i64 xEpoch67, .slice xBody68a xBody68n xBody68c, .int .u64 xSig69]] ww58 fun ee71 ww72 => ∃ (accept70 : Int), ee71 = .returned (.int .i64 accept70) ∧
  ∃ m73, m73 < m30 ∧ I0 m73 [.int .i64 (IntKind.i64.wrap (n28 + 1))] ww72) else (
  bif decide (n28 < (take2n : Int)) then (
  thenW (ww58.drew) fun ww74 =>
  l1a.elim False fun a75 =>
  0 ≤ (n28 : Int) ∧ (n28 : Int) < (l1n : Int) ∧
  ∃ (T76 : Int), ww74.cell? ((a75.add (Int.toNat n28 * 14)).add 1) = some (.int .i64 T76) ∧
  l1a.elim False fun a77 =>
  0 ≤ (n28 : Int) ∧ (n28 : Int) < (l1n : Int) ∧
  ∃ (Epoch78 : Int), ww74.cell? ((a77.add (Int.toNat n28 * 14)).add 2) = some (.int .i64 Epoch78) ∧
  Calls Try.prog 14 #[.pointer new24, .int .u64 pair16, .agg #[.int .i64 T76, .int .i64 1], .int .i64 Epoch78, .slice other3a other3n other3c] ww74 fun ee88 ww89 => ∃ (Writer79 : Int) (Index80 : Int) (Prev81 : Int) (AtT82 : Int) (AtW83 : Int) (Epoch84 : Int) (Body85a : Option Addr) (Body85n : Nat) (Body85c : Nat) (Sig86 : Int) (issue87 : Int), ee88 = .returned (.tuple #[.agg #[.int .i64 Writer79, .int .i64 Index80, .int .u64 Prev81, .int .i64 AtT82, .int .i64 AtW83, .int .i64 Epoch84, .slice Body85a Body85n Body85c, .int .u64 Sig86], .int .i64 issue87]) ∧
  ∃ m90, m90 < m30 ∧ I0 m90 [.int .i64 (IntKind.i64.wrap (n28 + 1))] ww89) else (
  ∃ m91, m91 < m30 ∧ I0 m91 [.int .i64 (IntKind.i64.wrap (n28 + 1))] ww58))) else (
  bif decide (n28 < (take2n : Int)) then (
  thenW (ww58.drew) fun ww92 =>
  l1a.elim False fun a93 =>
  0 ≤ (n28 : Int) ∧ (n28 : Int) < (l1n : Int) ∧
  ∃ (T94 : Int), ww92.cell? ((a93.add (Int.toNat n28 * 14)).add 1) = some (.int .i64 T94) ∧
  l1a.elim False fun a95 =>
  0 ≤ (n28 : Int) ∧ (n28 : Int) < (l1n : Int) ∧
  ∃ (Epoch96 : Int), ww92.cell? ((a95.add (Int.toNat n28 * 14)).add 2) = some (.int .i64 Epoch96) ∧
  Calls Try.prog 14 #[.pointer new24, .int .u64 pair16, .agg #[.int .i64 T94, .int .i64 1], .int .i64 Epoch96, .slice other3a other3n other3c] ww92 fun ee106 ww107 => ∃ (Writer97 : Int) (Index98 : Int) (Prev99 : Int) (AtT100 : Int) (AtW101 : Int) (Epoch102 : Int) (Body103a : Option Addr) (Body103n : Nat) (Body103c : Nat) (Sig104 : Int) (issue105 : Int), ee106 = .returned (.tuple #[.agg #[.int .i64 Writer97, .int .i64 Index98, .int .u64 Prev99, .int .i64 AtT100, .int .i64 AtW101, .int .i64 Epoch102, .slice Body103a Body103n Body103c, .int .u64 Sig104], .int .i64 issue105]) ∧
  ∃ m108, m108 < m30 ∧ I0 m108 [.int .i64 (IntKind.i64.wrap (n28 + 1))] ww107) else (
  ∃ m109, m109 < m30 ∧ I0 m109 [.int .i64 (IntKind.i64.wrap (n28 + 1))] ww58)))) ∧
  (thenW (ww32.alloc (.cells #[.int .i64 0, .int .i64 0, .int .u64 0, .int .i64 0, .int .i64 0, .int .i64 0, .slice none 0 0, .int .u64 0] 39)) fun ww110 =>
  ww110.cell? ((a37.add (Int.toNat n28 * 14)).add 3) = some (.slice Body38a Body38n Body38c) ∧
  ww110.cell? ((a35.add (Int.toNat n28 * 14)).add 2) = some (.int .i64 Epoch36) ∧
  ww110.cell? ((a33.add (Int.toNat n28 * 14)).add 1) = some (.int .i64 T34) ∧
  Calls Try.prog 14 #[.pointer new20, .int .u64 pair16, .agg #[.int .i64 T34, .int .i64 1], .int .i64 Epoch36, .slice Body38a Body38n Body38c] ww110 fun ee120 ww121 => ∃ (Writer111 : Int) (Index112 : Int) (Prev113 : Int) (AtT114 : Int) (AtW115 : Int) (Epoch116 : Int) (Body117a : Option Addr) (Body117n : Nat) (Body117c : Nat) (Sig118 : Int) (issue119 : Int), ee120 = .returned (.tuple #[.agg #[.int .i64 Writer111, .int .i64 Index112, .int .u64 Prev113, .int .i64 AtT114, .int .i64 AtW115, .int .i64 Epoch116, .slice Body117a Body117n Body117c, .int .u64 Sig118], .int .i64 issue119]) ∧
  canStore ww121 ((blk ww32.heap.size).add 0) ∧
  thenW (ww121.setCell ((blk ww32.heap.size).add 0) (.int .i64 Writer111)) fun ww122 =>
  canStore ww122 ((blk ww32.heap.size).add 1) ∧
  thenW (ww122.setCell ((blk ww32.heap.size).add 1) (.int .i64 Index112)) fun ww123 =>
  canStore ww123 ((blk ww32.heap.size).add 2) ∧
  thenW (ww123.setCell ((blk ww32.heap.size).add 2) (.int .u64 Prev113)) fun ww124 =>
  canStore ww124 ((blk ww32.heap.size).add 3) ∧
  thenW (ww124.setCell ((blk ww32.heap.size).add 3) (.int .i64 AtT114)) fun ww125 =>
  canStore ww125 ((blk ww32.heap.size).add 4) ∧
  thenW (ww125.setCell ((blk ww32.heap.size).add 4) (.int .i64 AtW115)) fun ww126 =>
  canStore ww126 ((blk ww32.heap.size).add 5) ∧
  thenW (ww126.setCell ((blk ww32.heap.size).add 5) (.int .i64 Epoch116)) fun ww127 =>
  canStore ww127 ((blk ww32.heap.size).add 6) ∧
  thenW (ww127.setCell ((blk ww32.heap.size).add 6) (.slice Body117a Body117n Body117c)) fun ww128 =>
  canStore ww128 ((blk ww32.heap.size).add 7) ∧
  thenW (ww128.setCell ((blk ww32.heap.size).add 7) (.int .u64 Sig118)) fun ww129 =>
  bif issue119 != 0 then (
  ∃ m130, m130 < m30 ∧ I0 m130 [.int .i64 (IntKind.i64.wrap (n28 + 1))] ww129) else (
  bif decide (n28 < (take2n : Int)) then (
  take2a.elim False fun a131 =>
  0 ≤ (n28 : Int) ∧ (n28 : Int) < (take2n : Int) ∧
  ∃ (x132 : Bool), ww129.cell? (a131.add (Int.toNat n28 * 1)) = some (.bool x132) ∧
  bif x132 then (
  ∃ (xWriter133 : Int) (xIndex134 : Int) (xPrev135 : Int) (xAtT136 : Int) (xAtW137 : Int) (xEpoch138 : Int) (xBody139a : Option Addr) (xBody139n : Nat) (xBody139c : Nat) (xSig140 : Int), cellsAt ww129 (blk ww32.heap.size) [.int .i64 xWriter133, .int .i64 xIndex134, .int .u64 xPrev135, .int .i64 xAtT136, .int .i64 xAtW137, .int .i64 xEpoch138, .slice xBody139a xBody139n xBody139c, .int .u64 xSig140] 0 ∧
  Calls Try.prog 15 #[.pointer new24, .agg #[.int .i64 xWriter133, .int .i64 xIndex134, .int .u64 xPrev135, .int .i64 xAtT136, .int .i64 xAtW137, .int .i64 xEpoch138, .slice xBody139a xBody139n xBody139c, .int .u64 xSig140]] ww129 fun ee142 ww143 => ∃ (accept141 : Int), ee142 = .returned (.int .i64 accept141) ∧
  ∃ m144, m144 < m30 ∧ I0 m144 [.int .i64 (IntKind.i64.wrap (n28 + 1))] ww143) else (
  bif decide (n28 < (take2n : Int)) then (
  thenW (ww129.drew) fun ww145 =>
  l1a.elim False fun a146 =>
  0 ≤ (n28 : Int) ∧ (n28 : Int) < (l1n : Int) ∧
  ∃ (T147 : Int), ww145.cell? ((a146.add (Int.toNat n28 * 14)).add 1) = some (.int .i64 T147) ∧
  l1a.elim False fun a148 =>
  0 ≤ (n28 : Int) ∧ (n28 : Int) < (l1n : Int) ∧
  ∃ (Epoch149 : Int), ww145.cell? ((a148.add (Int.toNat n28 * 14)).add 2) = some (.int .i64 Epoch149) ∧
  Calls Try.prog 14 #[.pointer new24, .int .u64 pair16, .agg #[.int .i64 T147, .int .i64 1], .int .i64 Epoch149, .slice other3a other3n other3c] ww145 fun ee159 ww160 => ∃ (Writer150 : Int) (Index151 : Int) (Prev152 : Int) (AtT153 : Int) (AtW154 : Int) (Epoch155 : Int) (Body156a : Option Addr) (Body156n : Nat) (Body156c : Nat) (Sig157 : Int) (issue158 : Int), ee159 = .returned (.tuple #[.agg #[.int .i64 Writer150, .int .i64 Index151, .int .u64 Prev152, .int .i64 AtT153, .int .i64 AtW154, .int .i64 Epoch155, .slice Body156a Body156n Body156c, .int .u64 Sig157], .int .i64 issue158]) ∧
  ∃ m161, m161 < m30 ∧ I0 m161 [.int .i64 (IntKind.i64.wrap (n28 + 1))] ww160) else (
  ∃ m162, m162 < m30 ∧ I0 m162 [.int .i64 (IntKind.i64.wrap (n28 + 1))] ww129))) else (
  bif decide (n28 < (take2n : Int)) then (
  thenW (ww129.drew) fun ww163 =>
  l1a.elim False fun a164 =>
  0 ≤ (n28 : Int) ∧ (n28 : Int) < (l1n : Int) ∧
  ∃ (T165 : Int), ww163.cell? ((a164.add (Int.toNat n28 * 14)).add 1) = some (.int .i64 T165) ∧
  l1a.elim False fun a166 =>
  0 ≤ (n28 : Int) ∧ (n28 : Int) < (l1n : Int) ∧
  ∃ (Epoch167 : Int), ww163.cell? ((a166.add (Int.toNat n28 * 14)).add 2) = some (.int .i64 Epoch167) ∧
  Calls Try.prog 14 #[.pointer new24, .int .u64 pair16, .agg #[.int .i64 T165, .int .i64 1], .int .i64 Epoch167, .slice other3a other3n other3c] ww163 fun ee177 ww178 => ∃ (Writer168 : Int) (Index169 : Int) (Prev170 : Int) (AtT171 : Int) (AtW172 : Int) (Epoch173 : Int) (Body174a : Option Addr) (Body174n : Nat) (Body174c : Nat) (Sig175 : Int) (issue176 : Int), ee177 = .returned (.tuple #[.agg #[.int .i64 Writer168, .int .i64 Index169, .int .u64 Prev170, .int .i64 AtT171, .int .i64 AtW172, .int .i64 Epoch173, .slice Body174a Body174n Body174c, .int .u64 Sig175], .int .i64 issue176]) ∧
  ∃ m179, m179 < m30 ∧ I0 m179 [.int .i64 (IntKind.i64.wrap (n28 + 1))] ww178) else (
  ∃ m180, m180 < m30 ∧ I0 m180 [.int .i64 (IntKind.i64.wrap (n28 + 1))] ww129))))) else (
  Calls Try.prog 16 #[.pointer new20] ww31 fun ee184 ww185 => ∃ (Writer181 : Int) (Len182 : Int) (Sum183 : Int), ee184 = .returned (.agg #[.int .i64 Writer181, .int .i64 Len182, .int .u64 Sum183]) ∧
  Calls Try.prog 16 #[.pointer new24] ww185 fun ee189 ww190 => ∃ (Writer186 : Int) (Len187 : Int) (Sum188 : Int), ee189 = .returned (.agg #[.int .i64 Writer186, .int .i64 Len187, .int .u64 Sum188]) ∧
  thenW (ww190.alloc (.cells #[.int .i64 0, .int .i64 0, .int .u64 0] 46)) fun ww191 =>
  thenW (ww191.alloc (.cells #[.int .i64 0, .int .i64 0, .int .u64 0] 46)) fun ww192 =>
  canStore ww192 ((blk ww190.heap.size).add 0) ∧
  thenW (ww192.setCell ((blk ww190.heap.size).add 0) (.int .i64 Writer181)) fun ww193 =>
  canStore ww193 ((blk ww190.heap.size).add 1) ∧
  thenW (ww193.setCell ((blk ww190.heap.size).add 1) (.int .i64 Len182)) fun ww194 =>
  canStore ww194 ((blk ww190.heap.size).add 2) ∧
  thenW (ww194.setCell ((blk ww190.heap.size).add 2) (.int .u64 Sum183)) fun ww195 =>
  canStore ww195 ((blk ww191.heap.size).add 0) ∧
  thenW (ww195.setCell ((blk ww191.heap.size).add 0) (.int .i64 Writer186)) fun ww196 =>
  canStore ww196 ((blk ww191.heap.size).add 1) ∧
  thenW (ww196.setCell ((blk ww191.heap.size).add 1) (.int .i64 Len187)) fun ww197 =>
  canStore ww197 ((blk ww191.heap.size).add 2) ∧
  thenW (ww197.setCell ((blk ww191.heap.size).add 2) (.int .u64 Sum188)) fun ww198 =>
  thenW (ww198.drew) fun ww199 =>
  ∃ (Len200 : Int), ww199.cell? ((blk ww190.heap.size).add 1) = some (.int .i64 Len200) ∧
  ∃ (Len201 : Int), ww199.cell? ((blk ww191.heap.size).add 1) = some (.int .i64 Len201) ∧
  bif Len200 != Len201 then (
  Calls Try.prog 10 #[] ww199 fun ee203 ww204 => ∃ (alive202 : Bool), ee203 = .returned (.bool alive202) ∧
  R (.bool alive202) ww204) else (
  ∃ (Sum205 : Int), ww199.cell? ((blk ww190.heap.size).add 2) = some (.int .u64 Sum205) ∧
  ∃ (Sum206 : Int), ww199.cell? ((blk ww191.heap.size).add 2) = some (.int .u64 Sum206) ∧
  Calls Try.prog 18 #[.pointer new20] ww199 fun ee208 ww209 => ∃ (all207a : Option Addr) (all207n : Nat) (all207c : Nat), ee208 = .returned (.slice all207a all207n all207c) ∧
  ww209.cell? ((blk ww191.heap.size).add 2) = some (.int .u64 Sum206) ∧
  ww209.cell? ((blk ww190.heap.size).add 2) = some (.int .u64 Sum205) ∧
  Calls Try.prog 18 #[.pointer new24] ww209 fun ee211 ww212 => ∃ (all210a : Option Addr) (all210n : Nat) (all210c : Nat), ee211 = .returned (.slice all210a all210n all210c) ∧
  ww212.cell? ((blk ww191.heap.size).add 2) = some (.int .u64 Sum206) ∧
  ww212.cell? ((blk ww190.heap.size).add 2) = some (.int .u64 Sum205) ∧
  Calls Try.prog 17 #[.slice all207a all207n all207c, .slice all210a all210n all210c] ww212 fun ee214 ww215 => ∃ (all213 : Bool), ee214 = .returned (.bool all213) ∧
  ww215.cell? ((blk ww191.heap.size).add 2) = some (.int .u64 Sum206) ∧
  ww215.cell? ((blk ww190.heap.size).add 2) = some (.int .u64 Sum205) ∧
  bif (Sum205 == Sum206) == all213 then (
  Calls Try.prog 10 #[] ww215 fun ee217 ww218 => ∃ (alive216 : Bool), ee217 = .returned (.bool alive216) ∧
  R (.bool alive216) ww218) else (
  R (.bool false) ww215)))))

theorem cachettelaw07_ChainHeads.eq (l1a : Option Addr) (l1n : Nat) (l1c : Nat) (take2a : Option Addr) (take2n : Nat) (take2c : Nat) (other3a : Option Addr) (other3n : Nat) (other3c : Nat) (R : Value → World → Prop) (w : World) : mfunc Try.prog [(0, [0, 1, 2, 8, 10, 12], [(14, (.one (.int .i64)))])] 3 [.slice l1a l1n l1c, .slice take2a take2n take2c, .slice other3a other3n other3c] R w = cachettelaw07_ChainHeads.M l1a l1n l1c take2a take2n take2c other3a other3n other3c R w := by kernel_rfl
theorem cachettelaw07_ChainHeads.ok (l1a : Option Addr) (l1n : Nat) (l1c : Nat) (take2a : Option Addr) (take2n : Nat) (take2c : Nat) (other3a : Option Addr) (other3n : Nat) (other3c : Nat) {R : Value → World → Prop} {w : World} (h : cachettelaw07_ChainHeads.M l1a l1n l1c take2a take2n take2c other3a other3n other3c R w) : Calls Try.prog 3 #[.slice l1a l1n l1c, .slice take2a take2n take2c, .slice other3a other3n other3c] w fun e w' => ∃ v, e = .returned v ∧ R v w' :=
  mfunc_ok follows (H := [(0, [0, 1, 2, 8, 10, 12], [(14, (.one (.int .i64)))])]) (args := [.slice l1a l1n l1c, .slice take2a take2n take2c, .slice other3a other3n other3c]) (by rw [cachettelaw07_ChainHeads.eq]; exact h)

def cachettelaw07_ChainHeads.N (l1a : Option Addr) (l1n : Nat) (l1c : Nat) (take2a : Option Addr) (take2n : Nat) (take2c : Nat) (other3a : Option Addr) (other3n : Nat) (other3c : Nat) (R : Value → World → Prop) (w : World) : Prop :=
  Calls Try.prog 9 #[.slice none 0 0, .slice l1a l1n l1c] w fun ee5 ww6 => ∃ (light4 : Bool), ee5 = .returned (.bool light4) ∧
  (light4 = false →
    Calls Try.prog 10 #[] ww6 fun ee9 ww10 => ∃ (alive8 : Bool), ee9 = .returned (.bool alive8) ∧
    R (.bool alive8) ww10) ∧
  (light4 = true →
    ((other3n : Int) > 1000 →
      Calls Try.prog 10 #[] ww6 fun ee13 ww14 => ∃ (alive12 : Bool), ee13 = .returned (.bool alive12) ∧
      R (.bool alive12) ww14) ∧
    ((other3n : Int) ≤ 1000 →
      Calls Try.prog 11 #[.slice none 0 0] ww6 fun ee16 ww17 => ∃ (new15 : Option Addr), ee16 = .returned (.pointer new15) ∧
      Calls Try.prog 12 #[.pointer new15] ww17 fun ee20 ww21 => ∃ (pair18 : Int) (pair19 : Int), ee20 = .returned (.tuple #[.int .u64 pair18, .int .u64 pair19]) ∧
      Calls Try.prog 13 #[.pointer new15, .int .i64 1, .int .u64 pair19] ww21 fun ee24 ww25 => ∃ (new22 : Option Addr) (new23 : Int), ee24 = .returned (.tuple #[.pointer new22, .int .i64 new23]) ∧
      Calls Try.prog 13 #[.pointer new15, .int .i64 1, .int .u64 pair19] ww25 fun ee28 ww29 => ∃ (new26 : Option Addr) (new27 : Int), ee28 = .returned (.tuple #[.pointer new26, .int .i64 new27]) ∧
      ∃ (I0 : Nat → List Value → World → Prop) (m31 : Nat), I0 m31 [.int .i64 0] ww29 ∧ ∀ (m32 : Nat) (ww33 : World) (n30 : Int), I0 m32 [.int .i64 n30] ww33 →
      (n30 < (l1n : Int) →
        ∃ a36 : Addr, l1a = some a36 ∧
        0 ≤ (n30 : Int) ∧ (n30 : Int) < (l1n : Int) ∧
        ∃ (T38 : Int), ww33.cell? ((a36.add (Int.toNat n30 * 14)).add 1) = some (.int .i64 T38) ∧
        0 ≤ (n30 : Int) ∧ (n30 : Int) < (l1n : Int) ∧
        ∃ (Epoch40 : Int), ww33.cell? ((a36.add (Int.toNat n30 * 14)).add 2) = some (.int .i64 Epoch40) ∧
        0 ≤ (n30 : Int) ∧ (n30 : Int) < (l1n : Int) ∧
        ∃ (Body42a : Option Addr) (Body42n : Nat) (Body42c : Nat), ww33.cell? ((a36.add (Int.toNat n30 * 14)).add 3) = some (.slice Body42a Body42n Body42c) ∧
        ∀ (ww44 : World) (L43 : List Nat), Ext no ww33 ww44 → Priv ww33 ww44 L43 →
        Calls Try.prog 14 #[.pointer new22, .int .u64 pair18, .agg #[.int .i64 T38, .int .i64 1], .int .i64 Epoch40, .slice Body42a Body42n Body42c] ww44 fun ee54 ww55 => ∃ (Writer45 : Int) (Index46 : Int) (Prev47 : Int) (AtT48 : Int) (AtW49 : Int) (Epoch50 : Int) (Body51a : Option Addr) (Body51n : Nat) (Body51c : Nat) (Sig52 : Int) (issue53 : Int), ee54 = .returned (.tuple #[.agg #[.int .i64 Writer45, .int .i64 Index46, .int .u64 Prev47, .int .i64 AtT48, .int .i64 AtW49, .int .i64 Epoch50, .slice Body51a Body51n Body51c, .int .u64 Sig52], .int .i64 issue53]) ∧
        Keep L43 ww44 ww55 ∧
        (issue53 ≠ 0 →
          (-9223372036854775808 : Int) ≤ (n30 + 1) ∧ (n30 + 1) < 9223372036854775808 ∧
          ∀ (ww68 : World), Ext (fun b => b ∈ L43) ww55 ww68 →
          ∃ m67, m67 < m32 ∧ I0 m67 [.int .i64 (n30 + 1)] ww68) ∧
        (issue53 = 0 →
          (n30 < (take2n : Int) →
            ∃ a70 : Addr, take2a = some a70 ∧
            0 ≤ (n30 : Int) ∧ (n30 : Int) < (take2n : Int) ∧
            ∀ (ww96 : World), Ext (fun b => b ∈ L43) ww55 ww96 →
            ∃ (x73 : Bool), ww96.cell? (a70.add (Int.toNat n30 * 1)) = some (.bool x73) ∧
            (x73 = true →
              Calls Try.prog 15 #[.pointer new26, .agg #[.int .i64 Writer45, .int .i64 Index46, .int .u64 Prev47, .int .i64 AtT48, .int .i64 AtW49, .int .i64 Epoch50, .slice Body51a Body51n Body51c, .int .u64 Sig52]] ww96 fun ee76 ww77 => ∃ (accept75 : Int), ee76 = .returned (.int .i64 accept75) ∧
              (-9223372036854775808 : Int) ≤ (n30 + 1) ∧ (n30 + 1) < 9223372036854775808 ∧
              ∃ m78, m78 < m32 ∧ I0 m78 [.int .i64 (n30 + 1)] ww77) ∧
            (x73 = false →
              0 ≤ (n30 : Int) ∧ (n30 : Int) < (l1n : Int) ∧
              ∃ (T81 : Int), ww96.cell? ((a36.add (Int.toNat n30 * 14)).add 1) = some (.int .i64 T81) ∧
              0 ≤ (n30 : Int) ∧ (n30 : Int) < (l1n : Int) ∧
              ∃ (Epoch83 : Int), ww96.cell? ((a36.add (Int.toNat n30 * 14)).add 2) = some (.int .i64 Epoch83) ∧
              ∀ (ww79 : World), Ext no ww96 ww79 →
              Calls Try.prog 14 #[.pointer new26, .int .u64 pair18, .agg #[.int .i64 T81, .int .i64 1], .int .i64 Epoch83, .slice other3a other3n other3c] ww79 fun ee93 ww94 => ∃ (Writer84 : Int) (Index85 : Int) (Prev86 : Int) (AtT87 : Int) (AtW88 : Int) (Epoch89 : Int) (Body90a : Option Addr) (Body90n : Nat) (Body90c : Nat) (Sig91 : Int) (issue92 : Int), ee93 = .returned (.tuple #[.agg #[.int .i64 Writer84, .int .i64 Index85, .int .u64 Prev86, .int .i64 AtT87, .int .i64 AtW88, .int .i64 Epoch89, .slice Body90a Body90n Body90c, .int .u64 Sig91], .int .i64 issue92]) ∧
              (-9223372036854775808 : Int) ≤ (n30 + 1) ∧ (n30 + 1) < 9223372036854775808 ∧
              ∃ m95, m95 < m32 ∧ I0 m95 [.int .i64 (n30 + 1)] ww94)) ∧
          ((take2n : Int) ≤ n30 →
            (-9223372036854775808 : Int) ≤ (n30 + 1) ∧ (n30 + 1) < 9223372036854775808 ∧
            ∀ (ww99 : World), Ext (fun b => b ∈ L43) ww55 ww99 →
            ∃ m98, m98 < m32 ∧ I0 m98 [.int .i64 (n30 + 1)] ww99))) ∧
      ((l1n : Int) ≤ n30 →
        Calls Try.prog 16 #[.pointer new22] ww33 fun ee103 ww104 => ∃ (Writer100 : Int) (Len101 : Int) (Sum102 : Int), ee103 = .returned (.agg #[.int .i64 Writer100, .int .i64 Len101, .int .u64 Sum102]) ∧
        Calls Try.prog 16 #[.pointer new26] ww104 fun ee108 ww109 => ∃ (Writer105 : Int) (Len106 : Int) (Sum107 : Int), ee108 = .returned (.agg #[.int .i64 Writer105, .int .i64 Len106, .int .u64 Sum107]) ∧
        (Len101 ≠ Len106 →
          ∀ (ww118 : World), Ext no ww109 ww118 →
          Calls Try.prog 10 #[] ww118 fun ee123 ww124 => ∃ (alive122 : Bool), ee123 = .returned (.bool alive122) ∧
          R (.bool alive122) ww124) ∧
        (Len101 = Len106 →
          ∀ (ww118 : World) (p125 : Nat) (p126 : Nat), Ext no ww109 ww118 → Priv ww109 ww118 [p125, p126] →
          Calls Try.prog 18 #[.pointer new22] ww118 fun ee128 ww129 => ∃ (all127a : Option Addr) (all127n : Nat) (all127c : Nat), ee128 = .returned (.slice all127a all127n all127c) ∧
          Keep [p125, p126] ww118 ww129 ∧
          Calls Try.prog 18 #[.pointer new26] ww129 fun ee131 ww132 => ∃ (all130a : Option Addr) (all130n : Nat) (all130c : Nat), ee131 = .returned (.slice all130a all130n all130c) ∧
          Keep [p125, p126] ww129 ww132 ∧
          Calls Try.prog 17 #[.slice all127a all127n all127c, .slice all130a all130n all130c] ww132 fun ee134 ww135 => ∃ (all133 : Bool), ee134 = .returned (.bool all133) ∧
          Keep [p125, p126] ww132 ww135 ∧
          ((Sum102 == Sum107) = all133 →
            Calls Try.prog 10 #[] ww135 fun ee138 ww139 => ∃ (alive137 : Bool), ee138 = .returned (.bool alive137) ∧
            R (.bool alive137) ww139) ∧
          ((Sum102 == Sum107) ≠ all133 →
            R (.bool false) ww135)))))

theorem cachettelaw07_ChainHeads.up (l1a : Option Addr) (l1n : Nat) (l1c : Nat) (take2a : Option Addr) (take2n : Nat) (take2c : Nat) (other3a : Option Addr) (other3n : Nat) (other3c : Nat) {R : Value → World → Prop} {w : World} (h : cachettelaw07_ChainHeads.N l1a l1n l1c take2a take2n take2c other3a other3n other3c R w) : cachettelaw07_ChainHeads.M l1a l1n l1c take2a take2n take2c other3a other3n other3c R w := by
  unfold cachettelaw07_ChainHeads.M
  unfold cachettelaw07_ChainHeads.N at h
  refine h.mono fun ee5 ww6 h => ?_
  obtain ⟨light4, he, h⟩ := h
  refine ⟨light4, he, ?_⟩
  refine bif_of (fun c7 => ?_) (fun c7 => ?_)
  · have h := h.1 (not_t c7)
    refine h.mono fun ee9 ww10 h => ?_
    obtain ⟨alive8, he, h⟩ := h
    refine ⟨alive8, he, ?_⟩
    exact h
  · have h := h.2 (not_f c7)
    refine bif_of (fun c11 => ?_) (fun c11 => ?_)
    · have h := h.1 (of_decide_eq_true c11)
      refine h.mono fun ee13 ww14 h => ?_
      obtain ⟨alive12, he, h⟩ := h
      refine ⟨alive12, he, ?_⟩
      exact h
    · have h := h.2 (Int.not_lt.1 (of_decide_eq_false c11))
      refine h.mono fun ee16 ww17 h => ?_
      obtain ⟨new15, he, h⟩ := h
      refine ⟨new15, he, ?_⟩
      refine h.mono fun ee20 ww21 h => ?_
      obtain ⟨pair18, pair19, he, h⟩ := h
      refine ⟨pair18, pair19, he, ?_⟩
      refine h.mono fun ee24 ww25 h => ?_
      obtain ⟨new22, new23, he, h⟩ := h
      refine ⟨new22, new23, he, ?_⟩
      refine h.mono fun ee28 ww29 h => ?_
      obtain ⟨new26, new27, he, h⟩ := h
      refine ⟨new26, new27, he, ?_⟩
      obtain ⟨I0, m31, h0, h⟩ := h
      refine ⟨I0, m31, h0, fun m32 ww33 n30 hI => ?_⟩
      have h := h m32 ww33 n30 hI
      refine bif_of (fun c34 => ?_) (fun c34 => ?_)
      · have h := h.1 (of_decide_eq_true c34)
        refine thenW_in fun ww35 e35 => ?_
        have hx35 := (Ext.refl no ww33).x_drew e35
        obtain ⟨a36, ha36, h⟩ := h
        refine elim_some ha36 ?_
        obtain ⟨hq1, hq2, h⟩ := h
        refine ⟨hq1, hq2, ?_⟩
        obtain ⟨T38, hc37, h⟩ := h
        refine ⟨T38, (hx35).cell hc37 id, ?_⟩
        refine elim_some ha36 ?_
        obtain ⟨hq1, hq2, h⟩ := h
        refine ⟨hq1, hq2, ?_⟩
        obtain ⟨Epoch40, hc39, h⟩ := h
        refine ⟨Epoch40, (hx35).cell hc39 id, ?_⟩
        refine elim_some ha36 ?_
        obtain ⟨hq1, hq2, h⟩ := h
        refine ⟨hq1, hq2, ?_⟩
        obtain ⟨Body42a, Body42n, Body42c, hc41, h⟩ := h
        refine ⟨Body42a, Body42n, Body42c, (hx35).cell hc41 id, ?_⟩
        refine ⟨?_, ?_⟩
        · have h := h ww35 [] hx35 Priv.nil
          refine h.mono fun ee54 ww55 h => ?_
          obtain ⟨Writer45, Index46, Prev47, AtT48, AtW49, Epoch50, Body51a, Body51n, Body51c, Sig52, issue53, he, hkL, h⟩ := h
          refine ⟨Writer45, Index46, Prev47, AtT48, AtW49, Epoch50, Body51a, Body51n, Body51c, Sig52, issue53, he, ?_⟩
          refine thenW_in fun ww56 e56 => ?_
          have hb1 := Blk.of_new e56
          have hg1 := ((Ext.refl (fun b => b ∈ ([] : List Nat)) ww55)).size
          have hx56 := (Ext.refl (fun b => b ∈ ([] : List Nat)) ww55).x_alloc e56
          refine ⟨hb1.cani 0 rfl rfl, thenW_in fun ww57 e57 => ?_⟩
          have hx57 := hx56.x_set (q := ww55.heap.size) (i := 0) rfl (.inr hg1) e57
          have hb1 : Blk ww57 ww55.heap.size 39 [.int .i64 Writer45, .int .i64 0, .int .u64 0, .int .i64 0, .int .i64 0, .int .i64 0, .slice none 0 0, .int .u64 0] := hb1.seti 0 rfl e57
          refine ⟨hb1.cani 1 rfl rfl, thenW_in fun ww58 e58 => ?_⟩
          have hx58 := hx57.x_set (q := ww55.heap.size) (i := 1) rfl (.inr hg1) e58
          have hb1 : Blk ww58 ww55.heap.size 39 [.int .i64 Writer45, .int .i64 Index46, .int .u64 0, .int .i64 0, .int .i64 0, .int .i64 0, .slice none 0 0, .int .u64 0] := hb1.seti 1 rfl e58
          refine ⟨hb1.cani 2 rfl rfl, thenW_in fun ww59 e59 => ?_⟩
          have hx59 := hx58.x_set (q := ww55.heap.size) (i := 2) rfl (.inr hg1) e59
          have hb1 : Blk ww59 ww55.heap.size 39 [.int .i64 Writer45, .int .i64 Index46, .int .u64 Prev47, .int .i64 0, .int .i64 0, .int .i64 0, .slice none 0 0, .int .u64 0] := hb1.seti 2 rfl e59
          refine ⟨hb1.cani 3 rfl rfl, thenW_in fun ww60 e60 => ?_⟩
          have hx60 := hx59.x_set (q := ww55.heap.size) (i := 3) rfl (.inr hg1) e60
          have hb1 : Blk ww60 ww55.heap.size 39 [.int .i64 Writer45, .int .i64 Index46, .int .u64 Prev47, .int .i64 AtT48, .int .i64 0, .int .i64 0, .slice none 0 0, .int .u64 0] := hb1.seti 3 rfl e60
          refine ⟨hb1.cani 4 rfl rfl, thenW_in fun ww61 e61 => ?_⟩
          have hx61 := hx60.x_set (q := ww55.heap.size) (i := 4) rfl (.inr hg1) e61
          have hb1 : Blk ww61 ww55.heap.size 39 [.int .i64 Writer45, .int .i64 Index46, .int .u64 Prev47, .int .i64 AtT48, .int .i64 AtW49, .int .i64 0, .slice none 0 0, .int .u64 0] := hb1.seti 4 rfl e61
          refine ⟨hb1.cani 5 rfl rfl, thenW_in fun ww62 e62 => ?_⟩
          have hx62 := hx61.x_set (q := ww55.heap.size) (i := 5) rfl (.inr hg1) e62
          have hb1 : Blk ww62 ww55.heap.size 39 [.int .i64 Writer45, .int .i64 Index46, .int .u64 Prev47, .int .i64 AtT48, .int .i64 AtW49, .int .i64 Epoch50, .slice none 0 0, .int .u64 0] := hb1.seti 5 rfl e62
          refine ⟨hb1.cani 6 rfl rfl, thenW_in fun ww63 e63 => ?_⟩
          have hx63 := hx62.x_set (q := ww55.heap.size) (i := 6) rfl (.inr hg1) e63
          have hb1 : Blk ww63 ww55.heap.size 39 [.int .i64 Writer45, .int .i64 Index46, .int .u64 Prev47, .int .i64 AtT48, .int .i64 AtW49, .int .i64 Epoch50, .slice Body51a Body51n Body51c, .int .u64 0] := hb1.seti 6 rfl e63
          refine ⟨hb1.cani 7 rfl rfl, thenW_in fun ww64 e64 => ?_⟩
          have hx64 := hx63.x_set (q := ww55.heap.size) (i := 7) rfl (.inr hg1) e64
          have hb1 : Blk ww64 ww55.heap.size 39 [.int .i64 Writer45, .int .i64 Index46, .int .u64 Prev47, .int .i64 AtT48, .int .i64 AtW49, .int .i64 Epoch50, .slice Body51a Body51n Body51c, .int .u64 Sig52] := hb1.seti 7 rfl e64
          refine bif_of (fun c65 => ?_) (fun c65 => ?_)
          · have h := h.1 (bne_t c65)
            obtain ⟨hw1, hw2, h⟩ := h
            try rw [w64 hw1 hw2]
            have h := h ww64 hx64
            obtain ⟨m67, hk, h⟩ := h
            exact ⟨m67, hk, h⟩
          · have h := h.2 (bne_f c65)
            refine bif_of (fun c69 => ?_) (fun c69 => ?_)
            · have h := h.1 (of_decide_eq_true c69)
              obtain ⟨a70, ha70, h⟩ := h
              refine elim_some ha70 ?_
              obtain ⟨hq1, hq2, h⟩ := h
              refine ⟨hq1, hq2, ?_⟩
              have h := h ww64 hx64
              obtain ⟨x73, hc72, h⟩ := h
              refine ⟨x73, hc72, ?_⟩
              refine bif_of (fun c74 => ?_) (fun c74 => ?_)
              · have h := h.1 c74
                refine ⟨Writer45, Index46, Prev47, AtT48, AtW49, Epoch50, Body51a, Body51n, Body51c, Sig52, ⟨hb1.celli 0 rfl rfl, hb1.celli 1 rfl rfl, hb1.celli 2 rfl rfl, hb1.celli 3 rfl rfl, hb1.celli 4 rfl rfl, hb1.celli 5 rfl rfl, hb1.celli 6 rfl rfl, hb1.celli 7 rfl rfl, trivial⟩, ?_⟩
                refine h.mono fun ee76 ww77 h => ?_
                obtain ⟨accept75, he, h⟩ := h
                refine ⟨accept75, he, ?_⟩
                obtain ⟨hw1, hw2, h⟩ := h
                try rw [w64 hw1 hw2]
                obtain ⟨m78, hk, h⟩ := h
                exact ⟨m78, hk, h⟩
              · have h := h.2 c74
                refine bif_tt c69 ?_
                refine thenW_in fun ww79 e79 => ?_
                have hx79 := (Ext.refl no ww64).x_drew e79
                refine elim_some ha36 ?_
                obtain ⟨hq1, hq2, h⟩ := h
                refine ⟨hq1, hq2, ?_⟩
                obtain ⟨T81, hc80, h⟩ := h
                refine ⟨T81, (hx79).cell hc80 id, ?_⟩
                refine elim_some ha36 ?_
                obtain ⟨hq1, hq2, h⟩ := h
                refine ⟨hq1, hq2, ?_⟩
                obtain ⟨Epoch83, hc82, h⟩ := h
                refine ⟨Epoch83, (hx79).cell hc82 id, ?_⟩
                have h := h ww79 hx79
                refine h.mono fun ee93 ww94 h => ?_
                obtain ⟨Writer84, Index85, Prev86, AtT87, AtW88, Epoch89, Body90a, Body90n, Body90c, Sig91, issue92, he, h⟩ := h
                refine ⟨Writer84, Index85, Prev86, AtT87, AtW88, Epoch89, Body90a, Body90n, Body90c, Sig91, issue92, he, ?_⟩
                obtain ⟨hw1, hw2, h⟩ := h
                try rw [w64 hw1 hw2]
                obtain ⟨m95, hk, h⟩ := h
                exact ⟨m95, hk, h⟩
            · have h := h.2 (Int.not_lt.1 (of_decide_eq_false c69))
              refine bif_ff c69 ?_
              obtain ⟨hw1, hw2, h⟩ := h
              try rw [w64 hw1 hw2]
              have h := h ww64 hx64
              obtain ⟨m98, hk, h⟩ := h
              exact ⟨m98, hk, h⟩
        · refine thenW_in fun ww43 e43 => ?_
          have hb1 := Blk.of_new e43
          have hg1 := (hx35).size
          have hx43 := hx35.x_alloc e43
          refine ⟨(hx43).cell hc41 id, (hx43).cell hc39 id, (hx43).cell hc37 id, ?_⟩
          have h := h ww43 [ww35.heap.size] hx43 (Priv.cons hg1 hb1.lt Priv.nil)
          refine h.mono fun ee55 ww56 h => ?_
          obtain ⟨Writer46, Index47, Prev48, AtT49, AtW50, Epoch51, Body52a, Body52n, Body52c, Sig53, issue54, he, hkL, h⟩ := h
          refine ⟨Writer46, Index47, Prev48, AtT49, AtW50, Epoch51, Body52a, Body52n, Body52c, Sig53, issue54, he, ?_⟩
          have hb1 := hkL.blk hb1 (by simp)
          refine ⟨hb1.cani 0 rfl rfl, thenW_in fun ww57 e57 => ?_⟩
          have hx57 := (Ext.refl (fun b => b ∈ ([ww35.heap.size] : List Nat)) ww56).x_set (q := ww35.heap.size) (i := 0) rfl (.inl (by simp)) e57
          have hb1 : Blk ww57 ww35.heap.size 39 [.int .i64 Writer46, .int .i64 0, .int .u64 0, .int .i64 0, .int .i64 0, .int .i64 0, .slice none 0 0, .int .u64 0] := hb1.seti 0 rfl e57
          refine ⟨hb1.cani 1 rfl rfl, thenW_in fun ww58 e58 => ?_⟩
          have hx58 := hx57.x_set (q := ww35.heap.size) (i := 1) rfl (.inl (by simp)) e58
          have hb1 : Blk ww58 ww35.heap.size 39 [.int .i64 Writer46, .int .i64 Index47, .int .u64 0, .int .i64 0, .int .i64 0, .int .i64 0, .slice none 0 0, .int .u64 0] := hb1.seti 1 rfl e58
          refine ⟨hb1.cani 2 rfl rfl, thenW_in fun ww59 e59 => ?_⟩
          have hx59 := hx58.x_set (q := ww35.heap.size) (i := 2) rfl (.inl (by simp)) e59
          have hb1 : Blk ww59 ww35.heap.size 39 [.int .i64 Writer46, .int .i64 Index47, .int .u64 Prev48, .int .i64 0, .int .i64 0, .int .i64 0, .slice none 0 0, .int .u64 0] := hb1.seti 2 rfl e59
          refine ⟨hb1.cani 3 rfl rfl, thenW_in fun ww60 e60 => ?_⟩
          have hx60 := hx59.x_set (q := ww35.heap.size) (i := 3) rfl (.inl (by simp)) e60
          have hb1 : Blk ww60 ww35.heap.size 39 [.int .i64 Writer46, .int .i64 Index47, .int .u64 Prev48, .int .i64 AtT49, .int .i64 0, .int .i64 0, .slice none 0 0, .int .u64 0] := hb1.seti 3 rfl e60
          refine ⟨hb1.cani 4 rfl rfl, thenW_in fun ww61 e61 => ?_⟩
          have hx61 := hx60.x_set (q := ww35.heap.size) (i := 4) rfl (.inl (by simp)) e61
          have hb1 : Blk ww61 ww35.heap.size 39 [.int .i64 Writer46, .int .i64 Index47, .int .u64 Prev48, .int .i64 AtT49, .int .i64 AtW50, .int .i64 0, .slice none 0 0, .int .u64 0] := hb1.seti 4 rfl e61
          refine ⟨hb1.cani 5 rfl rfl, thenW_in fun ww62 e62 => ?_⟩
          have hx62 := hx61.x_set (q := ww35.heap.size) (i := 5) rfl (.inl (by simp)) e62
          have hb1 : Blk ww62 ww35.heap.size 39 [.int .i64 Writer46, .int .i64 Index47, .int .u64 Prev48, .int .i64 AtT49, .int .i64 AtW50, .int .i64 Epoch51, .slice none 0 0, .int .u64 0] := hb1.seti 5 rfl e62
          refine ⟨hb1.cani 6 rfl rfl, thenW_in fun ww63 e63 => ?_⟩
          have hx63 := hx62.x_set (q := ww35.heap.size) (i := 6) rfl (.inl (by simp)) e63
          have hb1 : Blk ww63 ww35.heap.size 39 [.int .i64 Writer46, .int .i64 Index47, .int .u64 Prev48, .int .i64 AtT49, .int .i64 AtW50, .int .i64 Epoch51, .slice Body52a Body52n Body52c, .int .u64 0] := hb1.seti 6 rfl e63
          refine ⟨hb1.cani 7 rfl rfl, thenW_in fun ww64 e64 => ?_⟩
          have hx64 := hx63.x_set (q := ww35.heap.size) (i := 7) rfl (.inl (by simp)) e64
          have hb1 : Blk ww64 ww35.heap.size 39 [.int .i64 Writer46, .int .i64 Index47, .int .u64 Prev48, .int .i64 AtT49, .int .i64 AtW50, .int .i64 Epoch51, .slice Body52a Body52n Body52c, .int .u64 Sig53] := hb1.seti 7 rfl e64
          refine bif_of (fun c65 => ?_) (fun c65 => ?_)
          · have h := h.1 (bne_t c65)
            obtain ⟨hw1, hw2, h⟩ := h
            try rw [w64 hw1 hw2]
            have h := h ww64 hx64
            obtain ⟨m67, hk, h⟩ := h
            exact ⟨m67, hk, h⟩
          · have h := h.2 (bne_f c65)
            refine bif_of (fun c69 => ?_) (fun c69 => ?_)
            · have h := h.1 (of_decide_eq_true c69)
              obtain ⟨a70, ha70, h⟩ := h
              refine elim_some ha70 ?_
              obtain ⟨hq1, hq2, h⟩ := h
              refine ⟨hq1, hq2, ?_⟩
              have h := h ww64 hx64
              obtain ⟨x73, hc72, h⟩ := h
              refine ⟨x73, hc72, ?_⟩
              refine bif_of (fun c74 => ?_) (fun c74 => ?_)
              · have h := h.1 c74
                refine ⟨Writer46, Index47, Prev48, AtT49, AtW50, Epoch51, Body52a, Body52n, Body52c, Sig53, ⟨hb1.celli 0 rfl rfl, hb1.celli 1 rfl rfl, hb1.celli 2 rfl rfl, hb1.celli 3 rfl rfl, hb1.celli 4 rfl rfl, hb1.celli 5 rfl rfl, hb1.celli 6 rfl rfl, hb1.celli 7 rfl rfl, trivial⟩, ?_⟩
                refine h.mono fun ee76 ww77 h => ?_
                obtain ⟨accept75, he, h⟩ := h
                refine ⟨accept75, he, ?_⟩
                obtain ⟨hw1, hw2, h⟩ := h
                try rw [w64 hw1 hw2]
                obtain ⟨m78, hk, h⟩ := h
                exact ⟨m78, hk, h⟩
              · have h := h.2 c74
                refine bif_tt c69 ?_
                refine thenW_in fun ww79 e79 => ?_
                have hx79 := (Ext.refl no ww64).x_drew e79
                refine elim_some ha36 ?_
                obtain ⟨hq1, hq2, h⟩ := h
                refine ⟨hq1, hq2, ?_⟩
                obtain ⟨T81, hc80, h⟩ := h
                refine ⟨T81, (hx79).cell hc80 id, ?_⟩
                refine elim_some ha36 ?_
                obtain ⟨hq1, hq2, h⟩ := h
                refine ⟨hq1, hq2, ?_⟩
                obtain ⟨Epoch83, hc82, h⟩ := h
                refine ⟨Epoch83, (hx79).cell hc82 id, ?_⟩
                have h := h ww79 hx79
                refine h.mono fun ee93 ww94 h => ?_
                obtain ⟨Writer84, Index85, Prev86, AtT87, AtW88, Epoch89, Body90a, Body90n, Body90c, Sig91, issue92, he, h⟩ := h
                refine ⟨Writer84, Index85, Prev86, AtT87, AtW88, Epoch89, Body90a, Body90n, Body90c, Sig91, issue92, he, ?_⟩
                obtain ⟨hw1, hw2, h⟩ := h
                try rw [w64 hw1 hw2]
                obtain ⟨m95, hk, h⟩ := h
                exact ⟨m95, hk, h⟩
            · have h := h.2 (Int.not_lt.1 (of_decide_eq_false c69))
              refine bif_ff c69 ?_
              obtain ⟨hw1, hw2, h⟩ := h
              try rw [w64 hw1 hw2]
              have h := h ww64 hx64
              obtain ⟨m98, hk, h⟩ := h
              exact ⟨m98, hk, h⟩
      · have h := h.2 (Int.not_lt.1 (of_decide_eq_false c34))
        refine h.mono fun ee103 ww104 h => ?_
        obtain ⟨Writer100, Len101, Sum102, he, h⟩ := h
        refine ⟨Writer100, Len101, Sum102, he, ?_⟩
        refine h.mono fun ee108 ww109 h => ?_
        obtain ⟨Writer105, Len106, Sum107, he, h⟩ := h
        refine ⟨Writer105, Len106, Sum107, he, ?_⟩
        refine thenW_in fun ww110 e110 => ?_
        have hb2 := Blk.of_new e110
        have hg2 := ((Ext.refl no ww109)).size
        have hx110 := (Ext.refl no ww109).x_alloc e110
        refine thenW_in fun ww111 e111 => ?_
        have hb3 := Blk.of_new e111
        have hg3 := (hx110).size
        have hb2_3 := Nat.ne_of_lt hb2.lt
        have hb2 := hb2.x_alloc e111
        have hx111 := hx110.x_alloc e111
        refine ⟨hb2.cani 0 rfl rfl, thenW_in fun ww112 e112 => ?_⟩
        have hx112 := hx111.x_set (q := ww109.heap.size) (i := 0) rfl (.inr hg2) e112
        have hb2 := hb2.seti 0 rfl e112
        have hb3 := hb3.oth (q := ww109.heap.size) (i := 0) rfl (Ne.symm hb2_3) e112
        refine ⟨hb2.cani 1 rfl rfl, thenW_in fun ww113 e113 => ?_⟩
        have hx113 := hx112.x_set (q := ww109.heap.size) (i := 1) rfl (.inr hg2) e113
        have hb2 := hb2.seti 1 rfl e113
        have hb3 := hb3.oth (q := ww109.heap.size) (i := 1) rfl (Ne.symm hb2_3) e113
        refine ⟨hb2.cani 2 rfl rfl, thenW_in fun ww114 e114 => ?_⟩
        have hx114 := hx113.x_set (q := ww109.heap.size) (i := 2) rfl (.inr hg2) e114
        have hb2 := hb2.seti 2 rfl e114
        have hb3 := hb3.oth (q := ww109.heap.size) (i := 2) rfl (Ne.symm hb2_3) e114
        refine ⟨hb3.cani 0 rfl rfl, thenW_in fun ww115 e115 => ?_⟩
        have hx115 := hx114.x_set (q := ww110.heap.size) (i := 0) rfl (.inr hg3) e115
        have hb2 := hb2.oth (q := ww110.heap.size) (i := 0) rfl hb2_3 e115
        have hb3 := hb3.seti 0 rfl e115
        refine ⟨hb3.cani 1 rfl rfl, thenW_in fun ww116 e116 => ?_⟩
        have hx116 := hx115.x_set (q := ww110.heap.size) (i := 1) rfl (.inr hg3) e116
        have hb2 := hb2.oth (q := ww110.heap.size) (i := 1) rfl hb2_3 e116
        have hb3 := hb3.seti 1 rfl e116
        refine ⟨hb3.cani 2 rfl rfl, thenW_in fun ww117 e117 => ?_⟩
        have hx117 := hx116.x_set (q := ww110.heap.size) (i := 2) rfl (.inr hg3) e117
        have hb2 := hb2.oth (q := ww110.heap.size) (i := 2) rfl hb2_3 e117
        have hb3 := hb3.seti 2 rfl e117
        refine thenW_in fun ww118 e118 => ?_
        have hx118 := hx117.x_drew e118
        have hb2 := hb2.x_drew e118
        have hb3 := hb3.x_drew e118
        refine ⟨Len101, hb2.celli 1 rfl rfl, ?_⟩
        refine ⟨Len106, hb3.celli 1 rfl rfl, ?_⟩
        refine bif_of (fun c119 => ?_) (fun c119 => ?_)
        · have h := h.1 (bne_t c119)
          have h := h ww118 hx118
          refine h.mono fun ee123 ww124 h => ?_
          obtain ⟨alive122, he, h⟩ := h
          refine ⟨alive122, he, ?_⟩
          exact h
        · have h := h.2 (bne_f c119)
          refine ⟨Sum102, hb2.celli 2 rfl rfl, ?_⟩
          refine ⟨Sum107, hb3.celli 2 rfl rfl, ?_⟩
          have h := h ww118 (ww109.heap.size) (ww110.heap.size) hx118 (Priv.cons hg2 hb2.lt (Priv.cons hg3 hb3.lt Priv.nil))
          refine h.mono fun ee128 ww129 h => ?_
          obtain ⟨all127a, all127n, all127c, he, hk, h⟩ := h
          refine ⟨all127a, all127n, all127c, he, ?_⟩
          have hb2 := hk.blk hb2 (by simp)
          have hb3 := hk.blk hb3 (by simp)
          refine ⟨hb3.celli 2 rfl rfl, hb2.celli 2 rfl rfl, ?_⟩
          refine h.mono fun ee131 ww132 h => ?_
          obtain ⟨all130a, all130n, all130c, he, hk, h⟩ := h
          refine ⟨all130a, all130n, all130c, he, ?_⟩
          have hb2 := hk.blk hb2 (by simp)
          have hb3 := hk.blk hb3 (by simp)
          refine ⟨hb3.celli 2 rfl rfl, hb2.celli 2 rfl rfl, ?_⟩
          refine h.mono fun ee134 ww135 h => ?_
          obtain ⟨all133, he, hk, h⟩ := h
          refine ⟨all133, he, ?_⟩
          have hb2 := hk.blk hb2 (by simp)
          have hb3 := hk.blk hb3 (by simp)
          refine ⟨hb3.celli 2 rfl rfl, hb2.celli 2 rfl rfl, ?_⟩
          refine bif_of (fun c136 => ?_) (fun c136 => ?_)
          · have h := h.1 (bbeq_t c136)
            refine h.mono fun ee138 ww139 h => ?_
            obtain ⟨alive137, he, h⟩ := h
            refine ⟨alive137, he, ?_⟩
            exact h
          · have h := h.2 (bbeq_f c136)
            exact h

theorem cachettelaw07_ChainHeads.go (l1a : Option Addr) (l1n : Nat) (l1c : Nat) (take2a : Option Addr) (take2n : Nat) (take2c : Nat) (other3a : Option Addr) (other3n : Nat) (other3c : Nat) {R : Value → World → Prop} {w : World} (h : cachettelaw07_ChainHeads.N l1a l1n l1c take2a take2n take2c other3a other3n other3c R w) : Calls Try.prog 3 #[.slice l1a l1n l1c, .slice take2a take2n take2c, .slice other3a other3n other3c] w fun e w' => ∃ v, e = .returned v ∧ R v w' := cachettelaw07_ChainHeads.ok l1a l1n l1c take2a take2n take2c other3a other3n other3c (cachettelaw07_ChainHeads.up l1a l1n l1c take2a take2n take2c other3a other3n other3c h)
theorem cachettelaw07_ChainHeads.run (l1a : Option Addr) (l1n : Nat) (l1c : Nat) (take2a : Option Addr) (take2n : Nat) (take2c : Nat) (other3a : Option Addr) (other3n : Nat) (other3c : Nat) {V : Value} {Q : World → Prop} {w : World} (h : cachettelaw07_ChainHeads.N l1a l1n l1c take2a take2n take2c other3a other3n other3c (fun v w' => v = V ∧ Q w') w) : Calls Try.prog 3 #[.slice l1a l1n l1c, .slice take2a take2n take2c, .slice other3a other3n other3c] w (Ret V Q) := (cachettelaw07_ChainHeads.go l1a l1n l1c take2a take2n take2c other3a other3n other3c h).mono fun e w' ⟨v, he, hv, hq⟩ => ⟨by rw [he, hv], hq⟩

end Go.Proofs.Ytnppbflccbpoeaa

/- Two logs of one oracle; a log that is accepted whole; plain laws of all this. -/
set_option linter.unusedVariables false
set_option linter.unusedSimpArgs false
set_option maxRecDepth 20000
set_option maxHeartbeats 2000000
namespace Go.Proofs.Ytnppbflccbpoeaa
open Go Go.Mx Go.Proofs
open W (OwnB GivesW numR countR doneR zig unzig intR)
/-- an oracle, a pair of keys, and a log. -/
theorem start7 {W : World} {da : Option Addr} {dc : Nat} {d : List Int} (hd : RowAt W da (d.map u64V)) (hl : d.length ≤ 1000000) (hr : ∀ x ∈ d, 0 ≤ x ∧ x < 18446744073709551616) {Φ : Option Addr → Int → Int → Option Addr → Int → World → Prop}
    (hΦ : ∀ (w : World) (o : Own) (k q : Nat) (s p : Int) (S : OS), W.heap.size ≤ k → W.heap.size ≤ q → Step no W (fun _ => none) w o → OneI w o q k s p S ⟨1, p, [], 0⟩ 2 → Φ (some (blk k)) s p (some (blk q)) 0 w) :
    Calls Try.prog 11 #[.slice da d.length dc] W fun ee w1 => ∃ (a : Option Addr), ee = .returned (.pointer a) ∧
    Calls Try.prog 12 #[.pointer a] w1 fun ee w2 => ∃ (s : Int) (p : Int), ee = .returned (.tuple #[.int .u64 s, .int .u64 p]) ∧
    Calls Try.prog 13 #[.pointer a, .int .i64 1, .int .u64 p] w2 fun ee w3 => ∃ (q : Option Addr) (cd : Int), ee = .returned (.tuple #[.pointer q, .int .i64 cd]) ∧ Φ a s p q cd w3 := by
  have ok0 : Tags W (fun _ => none) := fun b j _ h => by cases h
  refine (NewO (c := dc) ok0 hd hl).mono fun v w12 ⟨k, o12, hx, hk, s12, P12⟩ => ⟨_, hx, ?_⟩
  have i0 : OInv (OS.init d) := OInv.init hr
  have u0 : (OS.init d).used.length = 0 := rfl
  refine (PairO P12 s12.ok i0.ok (by omega)).mono fun v w16 ⟨o16, hx, s16', P16⟩ => ⟨_, _, hx, ?_⟩
  obtain ⟨i1, _, kp, ks, _⟩ := pair_inv i0
  have u1 : (pairOf (OS.init d)).2.used.length ≤ 2 := by have := (pairOf_ok i0.ok).2; omega
  have s16 : Step no W (fun _ => none) w16 o16 := s12.trans' s16' fun i hi => .inr (by omega)
  refine (cNew_spec (k := k) s16.ok 1 (pairOf (OS.init d)).1.2).mono fun v w20 h => ?_
  rcases h with ⟨h, _⟩ | ⟨_, q, o20, hx, hq, s20', PL20⟩
  · exact absurd ⟨by decide, by decide⟩ h
  have s20 := s16.trans s20'
  have hkl := P16.lt
  have l16 := s16.size
  exact ⟨_, _, hx, hΦ w20 o20 k q _ _ _ hk (by omega) s20 ⟨PL20, P16.step s20' id, s20.ok, i1, ⟨ks, kp⟩, LOk.nil 1, u1, by omega⟩⟩
/-- two logs of one oracle. -/
structure DuoI (w : World) (o : Own) (qa qb k : Nat) (s p : Int) (S : OS) (La Lb : CL) (n : Nat) : Prop where
  a : OneI w o qa k s p S La n
  b : OneI w o qb k s p S Lb n
  ab : qa ≠ qb
section
variable {w w' w1 W0 : World} {o o' o1 : Own} {q qa qb k n n' N : Nat} {K : Nat → Prop} {s p : Int} {S S' : OS} {L L' La Lb La' Lb' : CL} {e : Ent} {a : Option Addr} {c : Nat} {l : List PE} {es es1 es2 : List Ent}
theorem DuoI.step (h : DuoI w o qa qb k s p S La Lb n) (t : Step K w o w' o') (ha : ¬ K qa) (hb : ¬ K qb) (hk : ¬ K k) : DuoI w' o' qa qb k s p S La Lb n := ⟨h.a.step t ha hk, h.b.step t hb hk, h.ab⟩
theorem DuoI.mono (h : DuoI w o qa qb k s p S La Lb n) (hm : n ≤ n') : DuoI w o qa qb k s p S La Lb n' := ⟨h.a.mono hm, h.b.mono hm, h.ab⟩
theorem DuoI.onA (h : DuoI w o qa qb k s p S La Lb n) (t : Step (fun i => i = qa ∨ i = k) w o w' o') (one : OneI w' o' qa k s p S' La' n') (le : OS.le S S') : DuoI w' o' qa qb k s p S' La' Lb n' :=
  ⟨one, ⟨h.b.log.step t (by have := h.ab; have := h.b.ne; omega), one.orc, one.ok, one.inv, one.key, h.b.lok.le le, one.len, h.b.ne⟩, h.ab⟩
theorem DuoI.onB (h : DuoI w o qa qb k s p S La Lb n) (t : Step (fun i => i = qb ∨ i = k) w o w' o') (one : OneI w' o' qb k s p S' Lb' n') (le : OS.le S S') : DuoI w' o' qa qb k s p S' La Lb' n' :=
  ⟨⟨h.a.log.step t (by have := h.ab; have := h.a.ne; omega), one.orc, one.ok, one.inv, one.key, h.a.lok.le le, one.len, h.a.ne⟩, one, h.ab⟩
/-- a second log of the same oracle. -/
theorem OneI.second (h : OneI w o q k s p S L n) : Calls Try.prog 13 #[.pointer (some (blk k)), .int .i64 1, .int .u64 p] w (fun x w' => ∃ qb o', x = .returned (.tuple #[.pointer (some (blk qb)), .int .i64 0]) ∧ w.heap.size ≤ qb ∧ Step no w o w' o' ∧ DuoI w' o' q qb k s p S L ⟨1, p, [], 0⟩ n) := by
  refine (cNew_spec (k := k) h.ok 1 p).mono fun v w20 hh => ?_
  rcases hh with ⟨h, _⟩ | ⟨_, qb, o20, hx, hq, s20, PL⟩
  · exact absurd ⟨by decide, by decide⟩ h
  have h20 := h.step s20 id id
  have l1 := h.log.lt
  have l2 := h.orc.lt
  exact ⟨qb, o20, hx, hq, s20, h20, ⟨PL, h20.orc, h20.ok, h20.inv, h20.key, LOk.nil 1, h20.len, by omega⟩, by omega⟩
theorem OneI.accept (h : OneI w o q k s p S L n) (hn : n + 2 < 1000000) (hf : entRight e = true → e.fit) (hb : Row w o a (bytesV e.body)) :
    Calls Try.prog 15 #[.pointer (some (blk q)), entV e a c] w (fun x w' => ∃ (o' : Own) (S' : OS) (L' : CL) (cd : Int), x = .returned (.int .i64 cd) ∧ Step (fun i => i = q ∨ i = k) w o w' o' ∧ OneI w' o' q k s p S' L' (n + 1) ∧ OS.le S S' ∧ L'.wr = L.wr ∧ L'.es = (if cd = 0 then L.es ++ [e] else L.es) ∧ acceptC S L e = (cd, L', S')) := by
  have hu := h.len
  refine (cAccept_spec h.log h.orc h.ok h.ne h.inv.ok (by omega) hf hb).mono fun x w' ⟨o', he, st, pl, po⟩ => ?_
  obtain ⟨b1, b2, b3, b4, b5, b6⟩ := h.lok.accept h.inv h.key hf
  exact ⟨o', _, _, _, he, st, ⟨pl, po, st.ok, b2, h.key.le b3, b1, by omega, h.ne⟩, b3, b5, b6, rfl⟩
/-- the next one of a log that is good. -/
theorem Good.next (g : Good S L.wr s es) (inv : OInv S) (hk : Keyed S s p) {t : Nat} (he : es[t]? = some e) (hL : L.es = es.take t) (hs : L.sum = sumS S L.es) (hp : L.pb = p) (hf : es.length ≤ 200) :
    acceptC S L e = (0, { L with es := es.take (t + 1), sum := sumS S (es.take (t + 1)) }, S) := by
  obtain ⟨h1, x, hx⟩ := g t e he
  have hlok : LOk S s p L := ⟨by rw [hL]; exact g.take t, hs, hp, by rw [hL, List.length_take]; omega⟩
  have hc := hlok.accepts hk (by rw [hL]; exact h1)
  unfold acceptC
  rw [if_pos hc]
  unfold putC
  rw [sumE_right h1.right, hash_eq hx, hL]
  have : es.take (t + 1) = es.take t ++ [e] := by rw [List.take_add_one, he]; rfl
  rw [this]
  have : sumS S (es.take t ++ [e]) = x := by unfold sumS; rw [List.getLast?_append]; simp [hv, hx]
  rw [this]
/-- logs whose last sums are alike are alike. -/
theorem sums_same (inv : OInv S) {wr : Int} : ∀ (m : Nat) (es1 es2 : List Ent), es1.length = m → es2.length = m → Good S wr s es1 → Good S wr s es2 → sumS S es1 = sumS S es2 → es1 = es2
  | 0, es1, es2, h1, h2, _, _, _ => by rw [List.eq_nil_of_length_eq_zero h1, List.eq_nil_of_length_eq_zero h2]
  | m + 1, es1, es2, h1, h2, g1, g2, hs => by
    have l1 : es1[m]? = some (es1[m]'(by omega)) := List.getElem?_eq_getElem _
    have l2 : es2[m]? = some (es2[m]'(by omega)) := List.getElem?_eq_getElem _
    obtain ⟨k1, x1, e1⟩ := g1 m _ l1
    obtain ⟨k2, x2, e2⟩ := g2 m _ l2
    generalize es1[m]'(by omega) = x at *
    generalize es2[m]'(by omega) = y at *
    have z1 : sumS S es1 = x1 := by unfold sumS; rw [List.getLast?_eq_getElem?, show es1.length - 1 = m by omega, l1]; simp [hv, e1]
    have z2 : sumS S es2 = x2 := by unfold sumS; rw [List.getLast?_eq_getElem?, show es2.length - 1 = m by omega, l2]; simp [hv, e2]
    rw [z1, z2] at hs
    subst hs
    have hxy : x = y := bytesL_inj k1.right k2.right k1.fit k2.fit (inv.hi _ _ _ e1 e2)
    subst hxy
    have ih := sums_same inv m (es1.take m) (es2.take m) (by simp; omega) (by simp; omega) (g1.take m) (g2.take m) (by rw [← k1.pv, ← k2.pv])
    have t1 : es1 = es1.take m ++ [x] := by
      have := List.take_add_one (l := es1) (i := m)
      rw [List.take_of_length_le (by omega), l1] at this
      exact this
    have t2 : es2 = es2.take m ++ [x] := by
      have := List.take_add_one (l := es2) (i := m)
      rw [List.take_of_length_le (by omega), l2] at this
      exact this
    rw [t1, t2, ih]
end
end Go.Proofs.Ytnppbflccbpoeaa

/- ChainStays, ChainForks, ChainHeads. -/
set_option linter.unusedVariables false
set_option linter.unusedSimpArgs false
set_option maxRecDepth 20000
set_option maxHeartbeats 2000000
namespace Go.Proofs.Ytnppbflccbpoeaa
open Go Go.Mx Go.Proofs
open W (OwnB GivesW numR countR doneR zig unzig intR)
theorem noW {W : World} {a : Option Addr} {cs : List Value} (h : RowAt W a cs) : Row W (fun _ => none) a cs := ⟨h, fun _ _ _ => rfl⟩
theorem LOk.bodies {S : OS} {s p : Int} {L : CL} (h : LOk S s p L) : ∀ e ∈ L.es, e.body.length ≤ 1100 ∧ entRight e = true ∧ e.fit := fun e he => by
  obtain ⟨i, hi⟩ := List.getElem?_of_mem he
  have h1 := (h.good i e hi).1
  exact ⟨((entRight_iff _).1 h1.right).2.2.2.2.2.2.2.2.2.1, h1.right, h1.fit⟩
end Go.Proofs.Ytnppbflccbpoeaa

/- ChainForks, ChainHeads. -/
set_option linter.unusedVariables false
set_option linter.unusedSimpArgs false
set_option maxRecDepth 20000
set_option maxHeartbeats 2000000
namespace Go.Proofs.Ytnppbflccbpoeaa
open Go Go.Mx Go.Proofs
open W (OwnB GivesW numR countR doneR zig unzig intR)
/-- bools that are handed in. -/
def BoolsQ (W : World) (cs : List Value) : Prop := ∃ (a : Option Addr) (c : Nat) (l : List Bool), cs = [.slice a l.length c] ∧ l.length ≤ c ∧ c ≤ maxLen ∧ RowAt W a (l.flatMap fun b => [Value.bool b]) ∧ ∀ x ∈ l, True
theorem opens_bools : Opens Try.prog 23 BoolsQ := opens_rows (size := 1) (G := fun _ _ => True) Try.underlying23 (by kernel_rfl) ((opens_bool Try.underlying4).mono fun W cs ⟨b, h⟩ => ⟨b, h, trivial⟩)
theorem ChainHeads_spec (W : World) {la ta ba : Option Addr} {lc tc bc : Nat} {l : List CO} {tk : List Bool} {other : List UInt8} (hl : RowAt W la (l.flatMap CO.C)) (hg : ∀ p ∈ l, p.good W) (ht : RowAt W ta (tk.flatMap fun b => [Value.bool b])) (hb : RowAt W ba (bytesV other)) :
    Calls Try.prog 3 #[.slice la l.length lc, .slice ta tk.length tc, .slice ba other.length bc] W (Ret (.bool true) fun w' => Ext no W w') := by
  refine cachettelaw07_ChainHeads.run _ _ _ _ _ _ _ _ _ ?_
  unfold cachettelaw07_ChainHeads.N
  refine (light_spec (da := none) (dc := 0) (dn := 0) hl).mono fun e w5 ⟨he, hw⟩ => ⟨_, he, fun _ => ?_, fun hL => ⟨fun _ => ?_, fun hol => ?_⟩⟩
  · subst hw
    exact (alive7_spec _).mono fun e w9 ⟨he, X⟩ => ⟨_, he, rfl, X⟩
  · subst hw
    exact (alive7_spec _).mono fun e w9 ⟨he, X⟩ => ⟨_, he, rfl, X⟩
  subst hw
  obtain ⟨hL1, hL2, hL3⟩ := light_of hL
  refine start7 (d := []) (RowAt.nil _ _) (by simp) (by simp) fun w25 o25 k q s p S1 hk hq s25 one25 => ?_
  refine one25.second.mono fun v w29 ⟨qb, o29, hx, hqb, s29', duo29⟩ => ⟨_, _, hx, ?_⟩
  have s29 := s25.trans s29'
  have hqbW : w5.heap.size ≤ qb := Nat.le_trans s25.size hqb
  refine ⟨fun m vs w1 => ∃ (t : Nat) (o1 : Own) (S : OS) (La Lb : CL), vs = [.int .i64 t] ∧ m + t = l.length ∧ Step no w5 (fun _ => none) w1 o1 ∧ DuoI w1 o1 q qb k s p S La Lb (2 + 4 * t) ∧ La.wr = 1 ∧ Lb.wr = 1, l.length, ⟨0, o29, S1, _, _, rfl, rfl, s29, duo29, rfl, rfl⟩, ?_⟩
  rintro m w1 i ⟨t, o1, S, La, Lb, hi, hm, s1, duo1, hwa, hwb⟩
  simp only [List.cons.injEq, Value.int.injEq, true_and, and_true] at hi
  subst hi
  refine ⟨fun htl => ?_, fun hge => ?_⟩
  · have htl : t < l.length := by omega
    have hgt : l[t]? = some l[t] := List.getElem?_eq_getElem htl
    have hl1 := (noW hl).step s1
    obtain ⟨ad, rfl⟩ := hl.faddr CO.len (by decide) htl
    have hgd := hg _ (List.getElem_mem htl)
    generalize l[t] = x at *
    have c1' := hl1.1.fcell CO.len hgt 1 (v := .int .i64 x.t) rfl
    have c2' := hl1.1.fcell CO.len hgt 2 (v := .int .i64 x.ep) rfl
    have c3' := hl1.1.fcell CO.len hgt 3 (v := .slice x.a x.B.length x.c) rfl
    refine ⟨ad, rfl, by omega, by omega, x.t, by rw [Int.toNat_natCast]; exact c1', by omega, by omega, x.ep, by rw [Int.toNat_natCast]; exact c2', by omega, by omega, x.a, x.B.length, x.c, by rw [Int.toNat_natCast]; exact c3', fun w47 L48 X47 hp48 => ?_⟩
    obtain ⟨s47, M47⟩ := Step.priv X47 hp48 duo1.a.ok
    have nk : ∀ {j : Nat}, j < w1.heap.size → ¬ j ∈ L48 := fun hj hm => by have := (hp48 _ hm).1; omega
    have hkw : k < w1.heap.size := duo1.a.orc.lt
    have hqw : q < w1.heap.size := duo1.a.log.lt
    have hqbw : qb < w1.heap.size := duo1.b.log.lt
    have duo47 := duo1.step s47 id id id
    refine (duo47.a.issue (by omega) x.t 1 x.ep (((noW hgd.ra).step s1).step s47)).mono fun v w59 ⟨o59, S', L', e', cd, hx, s59, one59, ok59, bl, wr59, es59, _, le59, _⟩ => ⟨_, _, _, _, _, _, _, _, _, _, _, hx, M47.keep s59 (fun p hp h => by rcases h with rfl | rfl; exact nk hqw hp; exact nk hkw hp), fun hne => ⟨by omega, by omega, fun w67 X67 => ?_⟩, fun h0 => ⟨fun htk => ?_, fun _ => ⟨by omega, by omega, fun w67 X67 => ?_⟩⟩⟩
    all_goals have duo59 := duo47.onA s59 one59 le59
    · have s67 := Step.joins X67 s59.ok (M47.step s59)
      have s167 := (s47.none.trans s59).trans' s67 fun i hi => .inr (hp48 i hi).1
      exact ⟨m - 1, by omega, t + 1, _, _, _, _, rfl, by omega, s1.trans' s167 fun i hi => .inr (by omega), (duo59.step s67 (nk hqw) (nk hqbw) (nk hkw)).mono (by omega), by rw [wr59, hwa], hwb⟩
    · have htk' : t < tk.length := by omega
      obtain ⟨td, rfl⟩ := ht.faddr (n := 1) (fun _ => rfl) (by decide) htk'
      refine ⟨td, rfl, by omega, by omega, fun w67 X67 => ?_⟩
      have s67 := Step.joins X67 s59.ok (M47.step s59)
      have s167 := (s47.none.trans s59).trans' s67 fun i hi => .inr (hp48 i hi).1
      have s567 : Step no w5 (fun _ => none) w67 _ := s1.trans' s167 fun i hi => .inr (by omega)
      have duo67 := duo59.step s67 (nk hqw) (nk hqbw) (nk hkw)
      have hgk : tk[t]? = some tk[t] := List.getElem?_eq_getElem htk'
      have ct := (((noW ht).step s567).1.fcell (n := 1) (fun _ => rfl) hgk 0 (v := .bool tk[t]) rfl)
      refine ⟨tk[t], by rw [Int.toNat_natCast]; rw [add_add, Nat.add_zero] at ct; exact ct, fun _ => ?_, fun _ => ?_⟩
      · refine (duo67.b.accept (by omega) (e := e'.e) (fun _ => ok59.2.2) (ok59.1.step s67)).mono fun v w77 ⟨o77, S7, L7, cd7, he, s77, one77, le77, wr77, _, _⟩ => ⟨_, he, by omega, by omega, m - 1, by omega, t + 1, o77, S7, L', L7, rfl, by omega, s567.trans' s77 fun i hi => .inr (by omega), (duo67.onB s77 one77 le77).mono (by omega), by rw [wr59, hwa], by rw [wr77, hwb]⟩
      · have hl67 := ((noW hl).step s567)
        have c1' := hl67.1.fcell CO.len hgt 1 (v := .int .i64 x.t) rfl
        have c2' := hl67.1.fcell CO.len hgt 2 (v := .int .i64 x.ep) rfl
        refine ⟨by omega, by omega, x.t, by rw [Int.toNat_natCast]; exact c1', by omega, by omega, x.ep, by rw [Int.toNat_natCast]; exact c2', fun w79 X79 => ?_⟩
        have s79 := Step.of_no X79 s67.ok
        have duo79 := duo67.step s79 id id id
        refine (duo79.b.issue (by omega) x.t 1 x.ep (((noW hb).step s567).step s79)).mono fun v w94 ⟨o94, S7, L7, e7, cd7, he, s94, one94, _, _, wr94, _, _, le94, _⟩ => ⟨_, _, _, _, _, _, _, _, _, _, _, he, by omega, by omega, m - 1, by omega, t + 1, o94, S7, L', L7, rfl, by omega, (s567.trans s79).trans' s94 fun i hi => .inr (by omega), (duo79.onB s94 one94 le94).mono (by omega), by rw [wr59, hwa], by rw [wr94, hwb]⟩
    · have s67 := Step.joins X67 s59.ok (M47.step s59)
      have s167 := (s47.none.trans s59).trans' s67 fun i hi => .inr (hp48 i hi).1
      exact ⟨m - 1, by omega, t + 1, _, _, _, _, rfl, by omega, s1.trans' s167 fun i hi => .inr (by omega), (duo59.step s67 (nk hqw) (nk hqbw) (nk hkw)).mono (by omega), by rw [wr59, hwa], hwb⟩
  · have fin : ∀ {w' : World}, Ext no w1 w' → Ext no w5 w' := fun X => (s1.ext.mono fun b ⟨_, _, h⟩ _ => h).trans X
    refine (cHead_spec duo1.a.log).mono fun v w104 ⟨hx, X104⟩ => ⟨_, _, _, hx, ?_⟩
    have s104 := Step.of_no X104 duo1.a.ok
    have duo104 := duo1.step s104 id id id
    refine (cHead_spec duo104.b.log).mono fun v w109 ⟨hx, X109⟩ => ⟨_, _, _, hx, fun hne w118 X118 => ?_, fun heq w118 p125 p126 X118 hp => ?_⟩
    · exact (alive7_spec _).mono fun e w9 ⟨he, X⟩ => ⟨_, he, rfl, fin (((X104.trans X109).trans X118).trans X)⟩
    have s109 := Step.of_no X109 s104.ok
    obtain ⟨s118, M118⟩ := Step.priv X118 hp s109.ok
    have sA := (s104.trans s109).trans s118
    have duo118 := duo1.step sA id id id
    have hfa := duo1.a.lok.few
    have hfb := duo1.b.lok.few
    refine (cAll_spec duo118.a.log duo118.a.ok fun e he => by have := (duo1.a.lok.bodies e he).1; omega).mono fun v w129 ⟨o129, xa, xc, lx, hx, s129, mx, rx, lxc, okx⟩ => ⟨_, _, _, hx, M118.keep s129 fun _ _ => id, ?_⟩
    have duo129 := duo118.step s129 id id id
    refine (cAll_spec duo129.b.log duo129.b.ok fun e he => by have := (duo1.b.lok.bodies e he).1; omega).mono fun v w132 ⟨o132, ya, yc, ly, hx, s132, my, ry, lyc, oky⟩ => ⟨_, _, _, hx, (M118.step s129).keep s132 fun _ _ => id, ?_⟩
    refine (refAll_spec (rx.step s132).1 ry.1 (fun x hx => ⟨((okx x hx).1.step s132).1, ?_⟩) (fun x hx => (oky x hx).1.1) (by rw [show lx.length = La.es.length by rw [← mx]; simp]; omega)).mono fun v w135 ⟨hx, X135⟩ => ⟨_, hx, X135.kept, fun _ => ?_, fun h => absurd ?_ h⟩
    · have := (duo1.a.lok.bodies x.e (by rw [← mx]; exact List.mem_map_of_mem hx)).1; omega
    · refine (alive7_spec _).mono fun e w9 ⟨he, X⟩ => ⟨_, he, rfl, fin ?_⟩
      exact ((sA.trans s129).trans s132).ext.mono (fun b ⟨_, _, h⟩ _ => h) |>.trans (X135.trans X)
    · rw [mx, my]
      have hl : La.es.length = Lb.es.length := by omega
      by_cases hs : La.sum = Lb.sum
      · have : La.es = Lb.es := sums_same (wr := 1) duo1.a.inv _ _ _ hl rfl (by have := duo1.a.lok.good; rwa [hwa] at this) (by have := duo1.b.lok.good; rwa [hwb] at this) (by rw [← duo1.a.lok.sum, ← duo1.b.lok.sum, hs])
        rw [hs, this]; simp
      · have : La.es ≠ Lb.es := fun h => hs (by rw [duo1.a.lok.sum, duo1.b.lok.sum, h])
        rw [decide_eq_false this]; simpa using hs
theorem ChainHeads_walk (W : World) (a0 : Option Addr) (len0 cap0 : Nat) (a1 : Option Addr) (len1 cap1 : Nat) (a2 : Option Addr) (len2 cap2 : Nat) (o0 : COsQ W [.slice a0 len0 cap0]) (o1 : BoolsQ W [.slice a1 len1 cap1]) (o2 : BytesQ W [.slice a2 len2 cap2]) :
    Calls Try.prog 3 #[.slice a0 len0 cap0, .slice a1 len1 cap1, .slice a2 len2 cap2] W (Ret (.bool true) fun w' => Ext no W w') := by
  obtain ⟨_, c0, l, e0, l0, _, r0, f0⟩ := o0
  obtain ⟨_, c1, tk, e1, l1, _, r1, f1⟩ := o1
  obtain ⟨_, c2, b, e2, l2, _, r2⟩ := o2
  cases e0; cases e1; cases e2
  exact ChainHeads_spec W r0 f0 r1 r2
end Go.Proofs.Ytnppbflccbpoeaa
