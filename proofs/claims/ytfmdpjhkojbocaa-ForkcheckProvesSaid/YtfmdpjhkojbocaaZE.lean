/- Chain: a log, and what its calls do (the program's). -/
import Derived.Test.YtfmdpjhkojbocaaZD
import Derived.Test.YtfmdpjhkojbocaaZB
import Derived.Test.YtfmdpjhkojbocaaZC
set_option linter.unusedVariables false
set_option linter.unusedSimpArgs false
set_option maxRecDepth 20000
set_option maxHeartbeats 2000000
namespace Go.Proofs.Ytfmdpjhkojbocaa
open Go Go.Mx Go.Proofs
open W (OwnB GivesW numR countR doneR zig unzig intR)
theorem inf29 : (Try.prog.info? 29).map (fun i => (i.zero, i.size, i.bytes)) = some (some (.agg #[.int .i64 0, .int .i64 0, .int .u64 0, .int .i64 0, .int .i64 0, .int .i64 0, .slice none 0 0, .int .u64 0]), 8, 80) := by kernel_rfl
/-- a log, as lists. -/
structure CL where
  wr : Int
  pb : Int
  es : List Ent
  sum : Int
structure PLog (w : World) (o : Own) (q k : Nat) (L : CL) : Prop where
  own : o q = some q
  few : L.es.length ≤ 200
  st : ∃ la lc, ∃ l : List PE, l.map PE.e = L.es ∧ Blk w q 95 [.pointer (some (blk k)), .int .i64 L.wr, .int .u64 L.pb, .slice la l.length lc, .int .u64 L.sum] ∧
    GrowsF 29 8 w o q la l.length lc (PE.Cs l) ∧ (∀ ad, la = some ad → ad.block ≠ q) ∧ ∀ x ∈ l, x.ok w o
def rightC (S : OS) (L : CL) (e : Ent) : Int := if entRight e = true then (if e.w = L.wr then (if holdsE S L.pb e = true then 0 else 6) else 20) else 1
def placeC (L : CL) (e : Ent) : Int := if e.i > L.es.length then 7 else if e.i = L.es.length then 0 else if L.es[e.i.toNat]? = some e then 8 else 9
def behindC (L : CL) (e : Ent) : Int := if e.pv = L.sum then (match L.es.getLast? with | none => 0 | some x => if lessS x.t x.tw e.t e.tw = true then 0 else 2) else 5
def checkC (S : OS) (L : CL) (e : Ent) : Int := if rightC S L e ≠ 0 then rightC S L e else if placeC L e ≠ 0 then placeC L e else behindC L e
def putC (S : OS) (L : CL) (e : Ent) : CL × OS := ({ L with es := L.es ++ [e], sum := (sumE S e).1.1 }, (sumE S e).2)
def acceptC (S : OS) (L : CL) (e : Ent) : Int × CL × OS := if checkC S L e = 0 then (0, putC S L e) else (checkC S L e, L, S)
def nextE (L : CL) (t tw ep : Int) (body : List UInt8) : Ent := ⟨L.wr, L.es.length, L.sum, t, tw, ep, body, 0⟩
def issueC (S : OS) (L : CL) (sec t tw ep : Int) (body : List UInt8) : (Ent × Int) × CL × OS :=
  if L.es.length ≥ 200 then ((Ent.zero, 3), L, S)
  else if entRight (nextE L t tw ep body) = true then
    (if behindC L (nextE L t tw ep body) ≠ 0 then ((Ent.zero, behindC L (nextE L t tw ep body)), L, S)
     else if (signE S sec (nextE L t tw ep body)).1.2 ≠ 0 then ((Ent.zero, (signE S sec (nextE L t tw ep body)).1.2), L, (signE S sec (nextE L t tw ep body)).2)
     else (((signE S sec (nextE L t tw ep body)).1.1, 0), putC (signE S sec (nextE L t tw ep body)).2 L (signE S sec (nextE L t tw ep body)).1.1))
  else ((Ent.zero, 1), L, S)
section
variable {w w' w1 : World} {o o' o1 : Own} {q k n : Nat} {K : Nat → Prop} {S : OS} {L : CL} {e : Ent} {a : Option Addr} {c : Nat}
theorem PLog.lt (h : PLog w o q k L) : q < w.heap.size := by obtain ⟨_, _, _, _, hb, _⟩ := h.st; exact hb.lt
theorem PLog.step (h : PLog w o q k L) (s : Step K w o w' o') (hq : ¬ K q) : PLog w' o' q k L := by
  have hlt := h.lt
  obtain ⟨la, lc, l, h0, h1, h2, h3, h4⟩ := h.st
  exact ⟨(s.own hlt).trans h.own, h.few, la, lc, l, h0, s.blk h1 h.own hq, h2.step s hq, h3, fun x hx => (h4 x hx).step s⟩
theorem PLog.new {w w' : World} {o : Own} {q k : Nat} {wr pb : Int} (X : Ext no w w') (hb : Blk w' q 95 [.pointer (some (blk k)), .int .i64 wr, .int .u64 pb, .slice none 0 0, .int .u64 0]) (h1 : w.heap.size ≤ q) (h2 : q < w'.heap.size) (ok : Tags w o) :
    ∃ o', Step no w o w' o' ∧ PLog w' o' q k ⟨wr, pb, [], 0⟩ :=
  ⟨_, (Step.of_no X ok).tag h1 h2, tag_self, Nat.zero_le _, none, 0, [], rfl, hb, .inl (Grows.nil _ _ _ _ _), fun ad h => (by cases h), fun x h => (by cases h)⟩
theorem getElem_map_e {l : List PE} {es : List Ent} (h : l.map PE.e = es) (i : Nat) : es[i]? = (l[i]?).map PE.e := by rw [← h, List.getElem?_map]
theorem len_map_e {l : List PE} {es : List Ent} (h : l.map PE.e = es) : l.length = es.length := by rw [← h, List.length_map]
theorem cNew_spec {w : World} {o : Own} {k : Nat} (ok : Tags w o) (wr pb : Int) :
    Calls Try.prog 8 #[.pointer (some (blk k)), .int .i64 wr, .int .u64 pb] w (fun x w' => (¬ (0 ≤ wr ∧ wr < 8) ∧ x = .returned (.tuple #[.pointer none, .int .i64 1]) ∧ w' = w) ∨ ((0 ≤ wr ∧ wr < 8) ∧ ∃ q o', x = .returned (.tuple #[.pointer (some (blk q)), .int .i64 0]) ∧ w.heap.size ≤ q ∧ Step no w o w' o' ∧ PLog w' o' q k ⟨wr, pb, [], 0⟩)) := by
  refine (chain_New.go _ _ _ (R := fun v w' => (¬ (0 ≤ wr ∧ wr < 8) ∧ v = (.tuple #[.pointer none, .int .i64 1]) ∧ w' = w) ∨ ((0 ≤ wr ∧ wr < 8) ∧ ∃ q o', v = (.tuple #[.pointer (some (blk q)), .int .i64 0]) ∧ w.heap.size ≤ q ∧ Step no w o w' o' ∧ PLog w' o' q k ⟨wr, pb, [], 0⟩)) ?_).mono fun x w' ⟨v, he, h⟩ => by
    rcases h with ⟨h1, h2, h3⟩ | ⟨h0, q, o', h1, h2⟩
    · exact .inl ⟨h1, by rw [he, h2], h3⟩
    · exact .inr ⟨h0, q, o', by rw [he, h1], h2⟩
  unfold chain_New.N
  refine ⟨fun h => .inl ⟨by omega, rfl, rfl⟩, fun h1 => ⟨fun h => .inl ⟨by omega, rfl, rfl⟩, fun h2 => ⟨fun h => (by cases h), fun _ w7 q X hb hq hq' => ?_⟩⟩⟩
  obtain ⟨o', s, p⟩ := PLog.new X hb hq hq' ok
  exact .inr ⟨⟨h1, h2⟩, q, o', rfl, hq, s, p⟩
theorem cClone_spec {w : World} {a : Option Addr} {c : Nat} {bs : List UInt8} (h : RowAt w a (bytesV bs)) (hl : bs.length ≤ 1000000) :
    Calls Try.prog 70 #[.slice a bs.length c] w (fun e w' => ∃ a' c', e = .returned (.slice a' bs.length c') ∧ OwnB w.heap.size w' a' c' bs ∧ Ext no w w') := by
  refine (slices_Clone_byte_byte.go _ _ _ (R := fun v w' => ∃ a' c', v = (.slice a' bs.length c') ∧ OwnB w.heap.size w' a' c' bs ∧ Ext no w w') ?_).mono fun e w' ⟨v, he, a, c, hv, hw⟩ => ⟨a, c, by rw [he, hv], hw⟩
  unfold slices_Clone_byte_byte.N
  refine ⟨fun hn => ?_, fun hn w2 q X hb hq hq' => ?_⟩
  · subst hn
    have : bs = [] := by simpa [bytesV] using h.none_nil
    subst this
    exact ⟨none, 0, rfl, OwnB.nil _ _, Ext.refl _ _⟩
  · have hO : OwnB w.heap.size w2 (some (blk q)) 0 [] := ⟨owns_of_blk hb rfl (Nat.zero_le _), fun ad ha => by cases ha; exact ⟨hq, hq'⟩⟩
    obtain ⟨a', c', w', hr, hO', hx⟩ := hO.append (t := 23) (ty := 23) Try.underlying23 X.size (xc := c) (h.no X) (by simp; omega)
    rw [List.nil_append] at hr hO'
    exact ⟨a', _, c', w', hr, a', c', rfl, hO', X.then hx fun b hb => .inr hb⟩
theorem cOwn_spec (ok : Tags w o) (h : Row w o a (bytesV e.body)) (hl : e.body.length ≤ 1000000) :
    Calls Try.prog 40 #[entV e a c] w (fun x w' => ∃ o' a' c', x = .returned (entV e a' c') ∧ Step no w o w' o' ∧ Row w' o' a' (bytesV e.body) ∧ e.body.length ≤ c') := by
  refine (chain_own.go e.w e.i e.pv e.t e.tw e.ep a e.body.length c e.sg (R := fun v w' => ∃ o' a' c', v = (entV e a' c') ∧ Step no w o w' o' ∧ Row w' o' a' (bytesV e.body) ∧ e.body.length ≤ c') ?_).mono fun x w' ⟨v, he, o', a, c, hv, hw⟩ => ⟨o', a, c, by rw [he, hv], hw⟩
  unfold chain_own.N
  intro w10 p11 p12 X10 hp
  obtain ⟨s10, M10⟩ := Step.priv X10 hp ok
  have g11 := hp p11 (by simp)
  have g12 := hp p12 (by simp)
  refine (cClone_spec (h.step s10).1 hl).mono fun x w15 ⟨ca, cc, he, hO, X15⟩ => ⟨_, _, _, he, X15.kept, fun w24 X24 => ?_⟩
  have s15 := Step.of_no X15 s10.ok
  have s24 := Step.stores X24 s15.ok (M10.step s15) (by simp [or_comm])
  exact ⟨_, ca, cc, rfl, (s10.trans s15).trans' s24 (fun i hi => .inr (by simp at hi; omega)), (OwnB.tight hO (Nat.le_refl _)).step s24, hO.le⟩
theorem cright_spec (P : PLog w o q k L) (h : POrc w o k S) (ok : Tags w o) (hf : entRight e = true → e.fit) (hb : RowAt w a (bytesV e.body)) :
    Calls Try.prog 67 #[.pointer (some (blk q)), entV e a c] w (Ret (.int .i64 (rightC S L e)) fun w' => Ext no w w') := by
  refine chain_Log_right.run (some (blk q)) e.w e.i e.pv e.t e.tw e.ep a e.body.length c e.sg ?_
  unfold chain_Log_right.N
  rw [entRight_F]
  obtain ⟨la, lc, l, h0, h1, h2, h3, h4⟩ := P.st
  refine ⟨fun hr w11 X => ⟨by unfold rightC; rw [if_neg (by rw [hr]; decide)], X⟩, fun hr => ⟨_, rfl, _, h1.cella (i := 1) rfl, fun hw w14 X => ⟨by unfold rightC; rw [if_pos hr, if_neg hw], X⟩, fun hw => ⟨_, h1.cella (i := 0) rfl, _, h1.cella (i := 2) rfl, fun w20 X20 => ?_⟩⟩⟩
  have s20 := Step.of_no X20 ok
  refine (HoldsO (h.step s20 id) s20.ok L.pb (e := e) hf (hb.no X20)).mono fun x w28 ⟨he, X28⟩ => ⟨_, he, fun hh => ⟨?_, X20.trans X28⟩, fun hh => ⟨?_, X20.trans X28⟩⟩
  · unfold rightC; rw [if_pos hr, if_pos hw, if_neg (by rw [hh]; decide)]
  · unfold rightC; rw [if_pos hr, if_pos hw, if_pos hh]
theorem cplace_spec (P : PLog w o q k L) (h0 : 0 ≤ e.i) (hb : RowAt w a (bytesV e.body)) :
    Calls Try.prog 68 #[.pointer (some (blk q)), entV e a c] w (Ret (.int .i64 (placeC L e)) fun w' => Ext no w w') := by
  refine chain_Log_place.run (some (blk q)) e.w e.i e.pv e.t e.tw e.ep a e.body.length c e.sg ?_
  unfold chain_Log_place.N
  obtain ⟨la, lc, l, g0, h1, h2, h3, h4⟩ := P.st
  have hl := len_map_e g0
  unfold placeC
  rw [← hl]
  refine ⟨_, rfl, la, l.length, lc, h1.cella (i := 3) rfl, fun hg w10 X => ⟨by rw [if_pos hg], X⟩, fun hg => ⟨fun he w10 X => ⟨by rw [if_neg (by omega), if_pos he], X⟩, fun hne => ?_⟩⟩
  have hi : e.i.toNat < l.length := by omega
  have hgx : l[e.i.toNat]? = some l[e.i.toNat] := List.getElem?_eq_getElem hi
  have hpk := h4 _ (List.getElem_mem hi)
  generalize l[e.i.toNat] = x at *
  obtain ⟨ad, rfl⟩ := h2.row.faddr PE.len (by decide) hi
  refine ⟨some ad, l.length, lc, h1.cella (i := 3) rfl, ad, rfl, h0, by omega, x.e.w, x.e.i, x.e.pv, x.e.t, x.e.tw, x.e.ep, x.a, x.e.body.length, x.c, x.e.sg, PE.loads h2.row rfl hgx, fun w18 X18 => ?_⟩
  refine (ESame_spec (e := x.e) (f := e) (hpk.1.1.no X18) (hb.no X18)).mono fun z w34 ⟨he, X34⟩ => ⟨_, he, fun hs => ⟨?_, X18.trans X34⟩, fun hs => ⟨?_, X18.trans X34⟩⟩
  · rw [if_neg (by omega), if_neg hne, getElem_map_e g0, hgx, if_pos (by rw [Option.map_some, of_decide_eq_true hs])]
  · rw [if_neg (by omega), if_neg hne, getElem_map_e g0, hgx, if_neg (by rw [Option.map_some]; intro h; injection h with h; exact of_decide_eq_false hs h)]
theorem cbehind_spec (P : PLog w o q k L) :
    Calls Try.prog 35 #[.pointer (some (blk q)), entV e a c] w (Ret (.int .i64 (behindC L e)) fun w' => Ext no w w') := by
  refine chain_Log_behind.run (some (blk q)) e.w e.i e.pv e.t e.tw e.ep a e.body.length c e.sg ?_
  unfold chain_Log_behind.N
  obtain ⟨la, lc, l, g0, h1, h2, h3, h4⟩ := P.st
  have hl := len_map_e g0
  have hfew := P.few
  refine ⟨_, rfl, la, l.length, lc, h1.cella (i := 3) rfl, _, h1.cella (i := 4) rfl, fun hp w14 X => ⟨by unfold behindC; rw [if_neg hp], X⟩, fun hp => ⟨fun hn => ?_, fun hn w19 X => ⟨?_, X⟩⟩⟩
  · have hi : l.length - 1 < l.length := by omega
    have hgx : l[l.length - 1]? = some l[l.length - 1] := List.getElem?_eq_getElem hi
    generalize l[l.length - 1] = x at *
    obtain ⟨ad, rfl⟩ := h2.row.faddr PE.len (by decide) hi
    have hlast : L.es.getLast? = some x.e := by rw [List.getLast?_eq_getElem?, getElem_map_e g0, ← hl, hgx]; rfl
    have e1 : ((l.length : Int) - 1).toNat = l.length - 1 := by omega
    have c3 := PE.cell h2.row rfl hgx (j := 3) (v := .int .i64 x.e.t) rfl
    have c4 := PE.cell h2.row rfl hgx (j := 4) (v := .int .i64 x.e.tw) rfl
    refine ⟨some ad, l.length, lc, h1.cella (i := 3) rfl, by omega, by omega, ad, rfl, by omega, by omega, x.e.t, x.e.tw, ⟨by rw [e1, add_add]; exact c3, by rw [e1, add_add]; exact c4, trivial⟩, fun w19 X19 => ?_⟩
    refine (Less_spec w19 x.e.t x.e.tw e.t e.tw).mono fun z w30 ⟨he, X30⟩ => ⟨_, he, fun hs => ⟨?_, X19.trans X30⟩, fun hs => ⟨?_, X19.trans X30⟩⟩
    · unfold behindC; rw [if_pos hp, hlast]; simp only []; rw [if_neg (by rw [hs]; decide)]
    · unfold behindC; rw [if_pos hp, hlast]; simp only []; rw [if_pos hs]
  · have : L.es = [] := List.eq_nil_of_length_eq_zero (by omega)
    unfold behindC; rw [if_pos hp, this]; rfl
theorem rightC_right (h : rightC S L e = 0) : entRight e = true := by
  unfold rightC at h
  by_cases hr : entRight e = true
  · exact hr
  · rw [if_neg hr] at h; cases h
theorem cCheck_spec (P : PLog w o q k L) (h : POrc w o k S) (ok : Tags w o) (hf : entRight e = true → e.fit) (hb : RowAt w a (bytesV e.body)) :
    Calls Try.prog 37 #[.pointer (some (blk q)), entV e a c] w (Ret (.int .i64 (checkC S L e)) fun w' => Ext no w w') := by
  refine chain_Log_Check.run (some (blk q)) e.w e.i e.pv e.t e.tw e.ep a e.body.length c e.sg ?_
  unfold chain_Log_Check.N
  refine ⟨fun h => (by cases h), fun _ w10 p13 X10 hp => ?_⟩
  refine ⟨fun m vs w1 => ∃ t : Nat, vs = [.int .i64 t] ∧ m + t = 3 ∧ Ext no w w1 ∧ (0 < t → rightC S L e = 0) ∧ (1 < t → placeC L e = 0) ∧ (2 < t → behindC L e = 0), 3, ⟨0, rfl, rfl, X10, fun h => absurd h (by decide), fun h => absurd h (by decide), fun h => absurd h (by decide)⟩, ?_⟩
  rintro m w1 i ⟨t, hi, hm, X1, c0, c1, c2⟩
  simp only [List.cons.injEq, Value.int.injEq, true_and, and_true] at hi
  subst hi
  have s1 := Step.of_no X1 ok
  refine ⟨fun ht => ⟨by omega, by omega, fun h0 => ?_, fun h0 => ?_, fun h0 => ?_⟩, fun ht => ?_⟩
  · obtain rfl : t = 0 := by omega
    refine (cright_spec (P.step s1 id) (h.step s1 id) s1.ok hf (hb.no X1)).mono fun x w21 ⟨he, X21⟩ => ⟨_, he, X21.kept, fun hr => ⟨by unfold checkC; rw [if_pos hr], X1.trans X21⟩, fun hr => ⟨by omega, by omega, m - 1, by omega, 1, rfl, by omega, X1.trans X21, fun _ => hr, fun h => absurd h (by decide), fun h => absurd h (by decide)⟩⟩
  · obtain rfl : t = 1 := by omega
    have hr := c0 (by decide)
    refine (cplace_spec (P.step s1 id) ((entRight_iff _).1 (rightC_right hr)).2.2.1 (hb.no X1)).mono fun x w21 ⟨he, X21⟩ => ⟨_, he, X21.kept, fun hq => ⟨by unfold checkC; rw [if_neg (not_not_intro hr), if_pos hq], X1.trans X21⟩, fun hq => ⟨by omega, by omega, m - 1, by omega, 2, rfl, by omega, X1.trans X21, fun _ => hr, fun _ => hq, fun h => absurd h (by decide)⟩⟩
  · obtain rfl : t = 2 := by omega
    have hr := c0 (by decide)
    have hq := c1 (by decide)
    refine (cbehind_spec (P.step s1 id)).mono fun x w21 ⟨he, X21⟩ => ⟨_, he, X21.kept, fun hz => ⟨by unfold checkC; rw [if_neg (not_not_intro hr), if_neg (not_not_intro hq)], X1.trans X21⟩, fun hz => ⟨by omega, by omega, m - 1, by omega, 3, rfl, by omega, X1.trans X21, fun _ => hr, fun _ => hq, fun _ => hz⟩⟩
  · obtain rfl : t = 3 := by omega
    refine ⟨?_, X1⟩
    unfold checkC; rw [if_neg (not_not_intro (c0 (by decide))), if_neg (not_not_intro (c1 (by decide))), c2 (by decide)]
end
end Go.Proofs.Ytfmdpjhkojbocaa

/- Chain: what turns a log; what it tells (the program's). -/
set_option linter.unusedVariables false
set_option linter.unusedSimpArgs false
set_option maxRecDepth 20000
set_option maxHeartbeats 2000000
namespace Go.Proofs.Ytfmdpjhkojbocaa
open Go Go.Mx Go.Proofs
open W (OwnB GivesW numR countR doneR zig unzig intR)
section
variable {w w' w1 : World} {o o' o1 : Own} {q k n : Nat} {K : Nat → Prop} {S : OS} {L : CL} {e : Ent} {a : Option Addr} {c : Nat}
theorem PLog.cell {la : Option Addr} {n lc : Nat} {x0 x1 x2 x3 x4 : Value} (hb : Blk w q 95 [x0, x1, x2, x3, x4]) : w.cell? ((blk q).add 0) = some x0 ∧ w.cell? ((blk q).add 1) = some x1 ∧ w.cell? ((blk q).add 3) = some x3 ∧ w.cell? ((blk q).add 4) = some x4 :=
  ⟨hb.cella (i := 0) rfl, hb.cella (i := 1) rfl, hb.cella (i := 3) rfl, hb.cella (i := 4) rfl⟩
theorem cput_spec (P : PLog w o q k L) (h : POrc w o k S) (ok : Tags w o) (hqk : q ≠ k) (hok : S.ok) (hlen : S.used.length < 1000000) (hf : e.fit) (hb : Row w o a (bytesV e.body)) (hbl : e.body.length ≤ 1000000) (hes : L.es.length < 200) :
    Calls Try.prog 36 #[.pointer (some (blk q)), entV e a c] w (Gs (fun i => i = q ∨ i = k) w o (.tuple #[]) fun w' o' => PLog w' o' q k (putC S L e).1 ∧ POrc w' o' k (putC S L e).2) := by
  refine (chain_Log_put.go (some (blk q)) e.w e.i e.pv e.t e.tw e.ep a e.body.length c e.sg (R := fun v w' => ∃ o', v = .tuple #[] ∧ Step (fun i => i = q ∨ i = k) w o w' o' ∧ PLog w' o' q k (putC S L e).1 ∧ POrc w' o' k (putC S L e).2) ?_).mono fun x w' ⟨v, he, o', hv, hw⟩ => ⟨o', by rw [he, hv], hw⟩
  unfold chain_Log_put.N
  obtain ⟨la, lc, l, g0, b1, b2, b3, b4⟩ := P.st
  have hl := len_map_e g0
  have hlt := P.lt
  refine ⟨_, rfl, la, l.length, lc, b1.cella (i := 3) rfl, fun w11 p15 X11 hp => ?_⟩
  obtain ⟨s11, M11⟩ := Step.priv X11 hp ok
  have g15 := hp p15 (by simp)
  refine (cOwn_spec s11.ok (hb.step s11) hbl).mono fun x w25 ⟨o25, ba, bc, he, s25', rb, lb⟩ => ⟨e.w, e.i, e.pv, e.t, e.tw, e.ep, ba, e.body.length, bc, e.sg, he, M11.keep s25' (fun _ _ => id), ?_⟩
  have s25 := s11.trans s25'
  have P25 := P.step s25 id
  refine ⟨(s25.blk b1 P.own id).cella (i := 3) rfl, fun w27 q28 X27 hb28 hq28 hq28' => ?_⟩
  have s27' := Step.of_no X27 s25.ok
  have s27 := s25.trans s27'
  have b27 := s27.blk b1 P.own id
  have M27 := (M11.step s25').step s27'
  obtain ⟨i, hi, hz, hsz, hby⟩ := info_of inf29
  have hnews : RowAt w27 (some (blk q28)) (PE.C ⟨e, ba, bc⟩) := RowAt.of_blk hb28
  have l27 := s27.size
  obtain ⟨a', c', w31, o31, hr, s31', g31, hkeep, hblk⟩ := (b2.step s27 id).push (ty := 47) Try.underlying47 hi hz hsz hby rfl (by decide) s27.ok (Nat.lt_of_lt_of_le hlt l27) (xa := some (blk q28)) (m := 1) (xc := 1) (news := PE.C ⟨e, ba, bc⟩) rfl hnews (PE.one _) (by decide) (by omega) (by omega)
  have oq27 : grow w25 o25 q = some q := (s27.own hlt).trans P.own
  have b31 : Blk w31 q 95 [.pointer (some (blk k)), .int .i64 L.wr, .int .u64 L.pb, .slice la l.length lc, .int .u64 L.sum] := by
    unfold Blk at b27 ⊢
    rw [hkeep q (Nat.lt_of_lt_of_le hlt l27) fun ad hd e => b3 ad hd e.symm]; exact b27
  refine ⟨b27.cella (i := 3) rfl, a', _, c', w31, hr, M27.keep s31' (fun p hp e => by simp at hp; omega), b31.cana (i := 3) rfl, fun p hp => ?_, thenW_in fun w32 e32 => ?_⟩
  · simp at hp; subst hp; have : Addr.block ((blk q).add 3) = q := rfl; omega
  have hq31 : q < w31.heap.size := Nat.lt_of_lt_of_le hlt (Nat.le_trans l27 s31'.size)
  have tq31 : o31 q = some q := (s31'.own (Nat.lt_of_lt_of_le hlt l27)).trans oq27
  have hne : ∀ ad, a' = some ad → ad.block ≠ q := fun ad hd e => by
    rcases hblk ad hd with ⟨b, hb1, hb2⟩ | hq
    · exact b3 b hb1 (by omega)
    · omega
  have X32 : Ext (fun b => b = q) w31 w32 := (Ext.refl (fun b => b = q) w31).x_set (q := q) (i := 3) rfl (.inl rfl) e32
  obtain ⟨o32, s32'⟩ := Step.store1 X32 s31'.ok tq31
  have b32 := b31.seti 3 rfl e32
  have s2732 := s31'.trans s32'
  have h32 := (h.step s27 id).step s2732 (fun e => hqk e.symm)
  refine ⟨_, b32.cella (i := 0) rfl, fun w33 X33 => ?_⟩
  have s33' := Step.of_no X33 s32'.ok
  refine (SumO (h32.step s33' id) s33'.ok hok hlen (e := e) (fun _ => hf) ((((hb.step s27).step s2732).step s33').1)).mono fun x w39 ⟨o39, he, s39', p39⟩ => ⟨_, _, he, ?_⟩
  have b39 := s39'.blk (s33'.blk b32 ((s32'.own hq31).trans tq31) id) (((s33'.own (Nat.lt_of_lt_of_le hq31 s32'.size)).trans ((s32'.own hq31).trans tq31))) hqk
  refine ⟨b39.cana (i := 4) rfl, thenW_in fun w40 e40 => ?_⟩
  have X40 : Ext (fun b => b = q) w39 w40 := (Ext.refl (fun b => b = q) w39).x_set (q := q) (i := 4) rfl (.inl rfl) e40
  have l33 := s33'.size
  have l32 := s32'.size
  have tq39 : o39 q = some q := (s39'.own (by omega)).trans ((s33'.own (by omega)).trans ((s32'.own hq31).trans tq31))
  have hq39 : q < w39.heap.size := b39.lt
  obtain ⟨o40, s40'⟩ := Step.store1 X40 s39'.ok tq39
  have b40 := b39.seti 4 rfl e40
  have s2740 : Step (fun i => i = q ∨ i = k) w27 _ w40 o40 := (((s2732.mono fun _ h _ => .inl h).trans (s33'.none.trans (s39'.mono fun _ h _ => .inr h)))).trans (s40'.mono fun _ h _ => .inl h)
  refine ⟨o40, rfl, s27.none.trans s2740, ⟨(s40'.own hq39).trans tq39, ?_, a', c', l ++ [⟨e, ba, bc⟩], ?_, ?_, ?_, hne, fun x hx => ?_⟩, p39.step s40' (fun e => hqk e.symm)⟩
  · show (L.es ++ [e]).length ≤ 200; simp; omega
  · rw [List.map_append, g0]; rfl
  · rw [List.length_append]; exact b40
  · rw [List.length_append]
    have : PE.Cs (l ++ [⟨e, ba, bc⟩]) = PE.Cs l ++ PE.C ⟨e, ba, bc⟩ := by simp [PE.Cs]
    rw [this]
    exact (((g31.keep X32 (fun ad hd => hne ad hd) fun b hb => s32'.own hb).step s33' id).step s39' hqk).keep X40 (fun ad hd => hne ad hd) fun b hb => s40'.own hb
  · rcases List.mem_append.1 hx with hx | hx
    · exact ((b4 x hx).step s27).step s2740
    · simp at hx; subst hx
      exact ⟨((rb.step s27').step s2740), lb, hf⟩
theorem accept_out (hes : L.es.length ≤ 200) (h : checkC S L e = 0) : L.es.length < 200 ∧ entRight e = true ∧ e.w = L.wr ∧ holdsE S L.pb e = true ∧ e.i = L.es.length ∧ e.pv = L.sum := by
  unfold checkC at h
  by_cases h1 : rightC S L e = 0
  · rw [if_neg (not_not_intro h1)] at h
    by_cases h2 : placeC L e = 0
    · rw [if_neg (not_not_intro h2)] at h
      have hr := rightC_right h1
      have hi := ((entRight_iff _).1 hr).2.2.2.1
      have e1 : e.w = L.wr ∧ holdsE S L.pb e = true := by
        unfold rightC at h1
        rw [if_pos hr] at h1
        by_cases hw : e.w = L.wr
        · rw [if_pos hw] at h1
          by_cases hh : holdsE S L.pb e = true
          · exact ⟨hw, hh⟩
          · rw [if_neg hh] at h1; cases h1
        · rw [if_neg hw] at h1; cases h1
      have e2 : e.i = L.es.length := by
        unfold placeC at h2
        by_cases hg : e.i > L.es.length
        · rw [if_pos hg] at h2; cases h2
        · rw [if_neg hg] at h2
          by_cases he : e.i = L.es.length
          · exact he
          · rw [if_neg he] at h2; split at h2 <;> cases h2
      have e3 : e.pv = L.sum := by
        unfold behindC at h
        by_cases hp : e.pv = L.sum
        · exact hp
        · rw [if_neg hp] at h; cases h
      exact ⟨by omega, hr, e1.1, e1.2, e2, e3⟩
    · rw [if_pos h2] at h; exact absurd h h2
  · rw [if_pos h1] at h; exact absurd h h1
theorem cAccept_spec (P : PLog w o q k L) (h : POrc w o k S) (ok : Tags w o) (hqk : q ≠ k) (hok : S.ok) (hlen : S.used.length < 1000000) (hf : entRight e = true → e.fit) (hb : Row w o a (bytesV e.body)) :
    Calls Try.prog 10 #[.pointer (some (blk q)), entV e a c] w (Gs (fun i => i = q ∨ i = k) w o (.int .i64 (acceptC S L e).1) fun w' o' => PLog w' o' q k (acceptC S L e).2.1 ∧ POrc w' o' k (acceptC S L e).2.2) := by
  refine (chain_Log_Accept.go (some (blk q)) e.w e.i e.pv e.t e.tw e.ep a e.body.length c e.sg (R := fun v w' => ∃ o', v = .int .i64 (acceptC S L e).1 ∧ Step (fun i => i = q ∨ i = k) w o w' o' ∧ PLog w' o' q k (acceptC S L e).2.1 ∧ POrc w' o' k (acceptC S L e).2.2) ?_).mono fun x w' ⟨v, he, o', hv, hw⟩ => ⟨o', by rw [he, hv], hw⟩
  unfold chain_Log_Accept.N
  intro w10 p11 X10 hp
  have s10 := Step.of_no X10 ok
  refine (cCheck_spec (P.step s10 id) (h.step s10 id) s10.ok hf (hb.step s10).1).mono fun x w14 ⟨he, X14⟩ => ⟨_, he, X14.kept, fun h0 => ?_, fun h0 => ?_⟩
  · have s14 := s10.trans (Step.of_no X14 s10.ok)
    obtain ⟨q1, q2, _⟩ := accept_out P.few h0
    have hbl := ((entRight_iff _).1 q2).2.2.2.2.2.2.2.2.2.1
    refine (cput_spec (P.step s14 id) (h.step s14 id) s14.ok hqk hok hlen (hf q2) (hb.step s14) (by omega) q1).mono fun x w17 ⟨o17, he, s17, p17, h17⟩ => ⟨he, o17, ?_, s14.none.trans s17, ?_, ?_⟩
    · rw [h0]; unfold acceptC; rw [if_pos h0]
    · unfold acceptC; rw [if_pos h0]; exact p17
    · unfold acceptC; rw [if_pos h0]; exact h17
  · have s14 := s10.trans (Step.of_no X14 s10.ok)
    unfold acceptC
    rw [if_neg h0]
    exact ⟨_, rfl, s14.none, P.step s14 id, h.step s14 id⟩
theorem signE_body {s : Int} (h : entRight e = true) : (signE S s e).1.1.body.length ≤ 1100 := by
  unfold signE
  rw [if_pos h]
  split
  · exact ((entRight_iff _).1 h).2.2.2.2.2.2.2.2.2.1
  · exact Nat.zero_le _
theorem signE_e {s : Int} (h : (signE S s e).1.2 = 0) : entRight e = true ∧ (signE S s e).1.1 = { e with sg := (signOf S s (textL e)).1.1 } ∧ (signE S s e).2 = (signOf S s (textL e)).2 ∧ (signOf S s (textL e)).1.2 = true := by
  unfold signE at h ⊢
  by_cases hr : entRight e = true
  · rw [if_pos hr] at h ⊢
    by_cases hs : (signOf S s (textL e)).1.2 = true
    · rw [if_pos hs]; exact ⟨hr, rfl, rfl, hs⟩
    · rw [if_neg hs] at h; cases h
  · rw [if_neg hr] at h; cases h
theorem cIssue_spec (P : PLog w o q k L) (h : POrc w o k S) (ok : Tags w o) (hqk : q ≠ k) (hok : S.ok) (hlen : S.used.length + 1 < 1000000) (hsum : 0 ≤ L.sum ∧ L.sum < 18446744073709551616) (sec t tw ep : Int) {body : List UInt8} (hsg : 0 ≤ (signOf S sec (textL (nextE L t tw ep body))).1.1 ∧ (signOf S sec (textL (nextE L t tw ep body))).1.1 < 18446744073709551616) (hb : Row w o a (bytesV body)) :
    Calls Try.prog 9 #[.pointer (some (blk q)), .int .u64 sec, .agg #[.int .i64 t, .int .i64 tw], .int .i64 ep, .slice a body.length c] w (fun x w' => ∃ o' a' c', x = .returned (.tuple #[entV (issueC S L sec t tw ep body).1.1 a' c', .int .i64 (issueC S L sec t tw ep body).1.2]) ∧ Step (fun i => i = q ∨ i = k) w o w' o' ∧
      PLog w' o' q k (issueC S L sec t tw ep body).2.1 ∧ POrc w' o' k (issueC S L sec t tw ep body).2.2 ∧ Row w' o' a' (bytesV (issueC S L sec t tw ep body).1.1.body) ∧ (issueC S L sec t tw ep body).1.1.body.length ≤ c') := by
  refine (chain_Log_Issue.go (some (blk q)) sec t tw ep a body.length c (R := fun v w' => ∃ o' a' c', v = (.tuple #[entV (issueC S L sec t tw ep body).1.1 a' c', .int .i64 (issueC S L sec t tw ep body).1.2]) ∧ Step (fun i => i = q ∨ i = k) w o w' o' ∧
      PLog w' o' q k (issueC S L sec t tw ep body).2.1 ∧ POrc w' o' k (issueC S L sec t tw ep body).2.2 ∧ Row w' o' a' (bytesV (issueC S L sec t tw ep body).1.1.body) ∧ (issueC S L sec t tw ep body).1.1.body.length ≤ c') ?_).mono fun x w' ⟨v, he, o', a', c', hv, hw⟩ => ⟨o', a', c', by rw [he, hv], hw⟩
  unfold chain_Log_Issue.N
  obtain ⟨la, lc, l, g0, b1, b2, b3, b4⟩ := P.st
  have hl := len_map_e g0
  have hlt := P.lt
  have hF : entry_Right.F L.wr (l.length : Int) L.sum t tw ep a body.length c 0 = entRight (nextE L t tw ep body) := by
    rw [hl]; exact entRight_F (nextE L t tw ep body) a c
  refine ⟨fun h => (by cases h), fun _ => ⟨_, rfl, la, l.length, lc, b1.cella (i := 3) rfl, fun hge w31 X31 => ?_, fun hlt2 => ⟨_, b1.cella (i := 1) rfl, la, l.length, lc, b1.cella (i := 3) rfl, _, b1.cella (i := 4) rfl, ?_⟩⟩⟩
  · have s := Step.of_no X31 ok
    unfold issueC; rw [if_pos (show L.es.length ≥ 200 by omega)]
    exact ⟨_, none, 0, rfl, s.none, P.step s id, h.step s id, Row.nil _ _ _, Nat.le_refl _⟩
  rw [hF]
  have hn : ¬ (L.es.length ≥ 200) := by omega
  refine ⟨fun hr w59 X59 => ?_, fun hr w50 p64 p65 X50 hp => ?_⟩
  · have s := Step.of_no X59 ok
    unfold issueC; rw [if_neg hn, if_neg (by rw [hr]; decide)]
    exact ⟨_, none, 0, rfl, s.none, P.step s id, h.step s id, Row.nil _ _ _, Nat.le_refl _⟩
  obtain ⟨s50, M50⟩ := Step.priv X50 hp ok
  have g64 := hp p64 (by simp)
  have g65 := hp p65 (by simp)
  have hkl := h.lt
  have hE : ∀ (v : Value), v = entV (nextE L t tw ep body) a c → v = .agg #[.int .i64 L.wr, .int .i64 (l.length : Int), .int .u64 L.sum, .int .i64 t, .int .i64 tw, .int .i64 ep, .slice a body.length c, .int .u64 0] := fun v hv => by rw [hv, hl]; rfl
  have hf : (nextE L t tw ep body).fit := ⟨hsum.1, hsum.2, by show (0 : Int) ≤ 0; decide, by show (0 : Int) < _; decide⟩
  rw [← hE _ rfl]
  refine (cbehind_spec (P.step s50 id)).mono fun x w68 ⟨he, X68⟩ => ⟨_, he, X68.kept, fun hbe w77 X77 => ?_, fun hbe => ?_⟩
  · have s68' := Step.of_no X68 s50.ok
    have s77' := Step.stores X77 s68'.ok (M50.step s68') (by simp [or_comm])
    have s77 := (s50.trans s68').trans' s77' fun i hi => .inr (by simp at hi; omega)
    unfold issueC; rw [if_neg hn, if_pos hr, if_pos hbe]
    exact ⟨_, none, 0, rfl, s77.none, P.step s77 id, h.step s77 id, Row.nil _ _ _, Nat.le_refl _⟩
  have s68' := Step.of_no X68 s50.ok
  have s68 := s50.trans s68'
  have M68 := M50.step s68'
  refine ⟨_, (s68.blk b1 P.own id).cella (i := 0) rfl, fun w78 X78 => ?_⟩
  have s78' := Step.of_no X78 s68.ok
  have s78 := s68.trans s78'
  have M78 := M68.step s78'
  have l78 := s78.size
  refine (SignE (h.step s78 id) s78.ok hok (by omega) sec (e := nextE L t tw ep body) (fun _ => hf) (hb.step s78)).mono fun x w91 ⟨o91, sa, sc, he, s91', p91, rs, ls⟩ => ⟨_, _, _, _, _, _, _, _, _, _, _, he, M78.keep s91' (by simp; omega), ?_⟩
  have s91 : Step (fun i => i = q ∨ i = k) w o w91 o91 := s78.none.trans (s91'.mono fun i h _ => .inr h)
  have M91 := M78.step s91'
  have l91 := s91.size
  have P91 := (P.step s78 id).step s91' hqk
  refine ⟨fun hsi w108 X108 => ?_, fun hsi w99 X99 => ?_⟩
  · have s108' := Step.stores X108 s91.ok M91 (by simp [or_comm])
    have s108 := s91.trans' s108' fun i hi => .inr (by simp at hi; omega)
    unfold issueC; rw [if_neg hn, if_pos hr, if_neg (not_not_intro hbe), if_pos hsi]
    exact ⟨_, none, 0, rfl, s108, P91.step s108' (by simp; omega), p91.step s108' (by simp; omega), Row.nil _ _ _, Nat.le_refl _⟩
  · have s99' := Step.stores X99 s91.ok (M91.sub (M := [p65]) (by simp)) (by simp)
    have s99 := s91.trans' s99' fun i hi => .inr (by simp at hi; omega)
    have M99 := M91.step s99'
    obtain ⟨z1, z2, z3, z4⟩ := signE_e hsi
    have hfit : (signE S sec (nextE L t tw ep body)).1.1.fit := by rw [z2]; exact ⟨hf.1, hf.2, hsg.1, hsg.2⟩
    have hbl := signE_body (S := S) (s := sec) hr
    have hok9 : (signE S sec (nextE L t tw ep body)).2.ok ∧ (signE S sec (nextE L t tw ep body)).2.used.length ≤ S.used.length + 1 := by rw [z3]; exact signOf_ok hok sec _
    refine (cput_spec (P91.step s99' (by simp; omega)) (p91.step s99' (by simp; omega)) s99.ok hqk hok9.1 (by omega) hfit (rs.step s99') (by omega) (by omega)).mono fun x w110 ⟨o110, he, s110', p110, h110⟩ => ⟨he, (M99.sub (M := [p64, p65]) (by simp)).keep s110' (by simp; omega), fun w118 X118 => ?_⟩
    have s118' := Step.stores X118 s110'.ok ((M99.step s110').sub (M := [p64]) (by simp)) (by simp)
    have s118 : Step (fun i => i = q ∨ i = k) w o w118 _ := (s99.trans s110').trans' s118' fun i hi => .inr (by simp at hi; omega)
    unfold issueC; rw [if_neg hn, if_pos hr, if_neg (not_not_intro hbe), if_neg (not_not_intro hsi)]
    exact ⟨_, sa, sc, rfl, s118, p110.step s118' (by simp; omega), h110.step s118' (by simp; omega), ((rs.step s99').step s110').step s118', ls⟩
end
end Go.Proofs.Ytfmdpjhkojbocaa

/- Chain: what a log tells (the program's). -/
set_option linter.unusedVariables false
set_option linter.unusedSimpArgs false
set_option maxRecDepth 20000
set_option maxHeartbeats 2000000
namespace Go.Proofs.Ytfmdpjhkojbocaa
open Go Go.Mx Go.Proofs
open W (OwnB GivesW numR countR doneR zig unzig intR)
section
variable {w w' w1 : World} {o o' o1 : Own} {q k n : Nat} {K : Nat → Prop} {S : OS} {L : CL} {e : Ent} {a : Option Addr} {c : Nat}
theorem cAll_spec (P : PLog w o q k L) (ok : Tags w o) (hbl : ∀ e ∈ L.es, e.body.length ≤ 1000000) :
    Calls Try.prog 12 #[.pointer (some (blk q))] w (fun x w' => ∃ o' a' c', ∃ l' : List PE, x = .returned (.slice a' l'.length c') ∧ Step no w o w' o' ∧ l'.map PE.e = L.es ∧ Row w' o' a' (PE.Cs l') ∧ l'.length ≤ c' ∧ ∀ x ∈ l', x.ok w' o') := by
  refine (chain_Log_All.go (some (blk q)) (R := fun v w' => ∃ o' a' c', ∃ l' : List PE, v = (.slice a' l'.length c') ∧ Step no w o w' o' ∧ l'.map PE.e = L.es ∧ Row w' o' a' (PE.Cs l') ∧ l'.length ≤ c' ∧ ∀ x ∈ l', x.ok w' o') ?_).mono fun x w' ⟨v, he, o', a', c', l', hv, hw⟩ => ⟨o', a', c', l', by rw [he, hv], hw⟩
  unfold chain_Log_All.N
  obtain ⟨la, lc, l, g0, b1, b2, b3, b4⟩ := P.st
  have hl := len_map_e g0
  have hfew := P.few
  refine ⟨fun h => (by cases h), fun _ => ⟨_, rfl, la, l.length, lc, b1.cella (i := 3) rfl, ?_⟩⟩
  refine ⟨fun m vs w1 => ∃ (t : Nat) (a1 : Option Addr) (c1 : Nat) (l1 : List PE) (o1 : Own), vs = [.slice a1 l1.length c1, .int .i64 t] ∧ m + t = l.length ∧ l1.map PE.e = L.es.take t ∧ Step no w o w1 o1 ∧ LRow 29 8 w.heap.size w1 o1 a1 l1.length c1 (PE.Cs l1) ∧ ∀ x ∈ l1, x.ok w1 o1, l.length,
    ⟨0, none, 0, [], o, rfl, rfl, rfl, Step.refl _ ok, LRow.nil _ _ _ _ _, fun x h => by cases h⟩, ?_⟩
  rintro m w1 ra rn rc i ⟨t, a1, c1, l1, o1, hi, hm, hmap, s1, hL, hok⟩
  simp only [List.cons.injEq, Value.slice.injEq, Value.int.injEq, true_and, and_true] at hi
  obtain ⟨⟨rfl, rfl, rfl⟩, rfl⟩ := hi
  have hlen1 : l1.length = min t L.es.length := by have := congrArg List.length hmap; simpa using this
  refine ⟨fun ht => ?_, fun ht => ?_⟩
  · have hi : t < l.length := by omega
    have hgx : l[t]? = some l[t] := List.getElem?_eq_getElem hi
    have hxm := List.getElem_mem hi
    generalize l[t] = x at *
    have b2' := b2.step s1 id
    obtain ⟨ad, rfl⟩ := b2.row.faddr PE.len (by decide) hi
    have hld := PE.loads b2'.row rfl hgx
    refine ⟨ad, rfl, by omega, by omega, x.e.w, x.e.i, x.e.pv, x.e.t, x.e.tw, x.e.ep, x.a, x.e.body.length, x.c, x.e.sg, by rw [Int.toNat_natCast]; exact hld, fun w30 X30 => ?_⟩
    have s30 := Step.of_no X30 s1.ok
    refine (cOwn_spec s30.ok (((b4 x hxm).1.step s1).step s30) (hbl _ (by rw [← g0]; exact List.mem_map_of_mem hxm))).mono fun z w41 ⟨o41, ba, bc, he, s41, rb, lb⟩ => ⟨_, _, _, _, _, _, _, _, _, _, he, fun w42 q43 X42 hb43 hq43 hq43' => ?_⟩
    have s42 := Step.of_no X42 s41.ok
    have s142 : Step no w1 o1 w42 _ := (s30.trans s41).trans s42
    have hL42 := hL.step s142 fun k h => h.elim
    obtain ⟨i, hi, hz, hsz, hby⟩ := info_of inf29
    have hnews : RowAt w42 (some (blk q43)) (PE.C ⟨x.e, ba, bc⟩) := RowAt.of_blk hb43
    have l1le := s1.size
    have l42 := s142.size
    have l41 := (s30.trans s41).size
    obtain ⟨a', c', w45, o45, hr, s45, hL45, _⟩ := hL42.push (ty := 47) Try.underlying47 hi hz hsz hby rfl (by decide) s42.ok (p := q43) (by omega) hq43' (xa := some (blk q43)) (m := 1) (xc := 1) (news := PE.C ⟨x.e, ba, bc⟩) rfl hnews (PE.one _) (by omega) (by omega)
    refine ⟨a', _, c', w45, hr, by omega, by omega, m - 1, by omega, t + 1, a', c', l1 ++ [⟨x.e, ba, bc⟩], o45, by simp, by omega, ?_, (s1.trans s142).trans' s45 fun j hj => .inr hj, ?_, fun y hy => ?_⟩
    · rw [List.map_append, hmap, List.take_add_one, getElem_map_e g0, hgx]; rfl
    · have : PE.Cs (l1 ++ [⟨x.e, ba, bc⟩]) = PE.Cs l1 ++ PE.C ⟨x.e, ba, bc⟩ := by simp [PE.Cs]
      rw [List.length_append, this]; exact hL45
    · rcases List.mem_append.1 hy with hy | hy
      · exact ((hok y hy).step s142).step s45
      · simp at hy; subst hy
        exact ⟨((rb.step s42).step s45), lb, (b4 x hxm).2.2⟩
  · have : t = l.length := by omega
    subst this
    rw [hl, List.take_length] at hmap
    refine ⟨_, _, _, l1, rfl, Step.of_no (s1.ext.mono fun b ⟨_, _, h⟩ _ => h) ok, hmap, hL.give s1 (Nat.le_refl _), hL.le, fun x hx => ?_⟩
    obtain ⟨r1, r2, r3⟩ := hok x hx
    exact ⟨r1.forget s1, r2, r3⟩
end
end Go.Proofs.Ytfmdpjhkojbocaa

/- Logs, plainly: what stays true. -/
set_option linter.unusedVariables false
set_option linter.unusedSimpArgs false
set_option maxRecDepth 20000
namespace Go.Proofs.Ytfmdpjhkojbocaa
open Go Go.Mx Go.Proofs
def hv (S : OS) (e : Ent) : Int := (alook S.hashes (bytesL e)).getD 0
def sumS (S : OS) (es : List Ent) : Int := match es.getLast? with | none => 0 | some e => hv S e
structure OkAt (S : OS) (wr s : Int) (pre : List Ent) (e : Ent) : Prop where
  right : entRight e = true
  fit : e.fit
  w : e.w = wr
  sg : alook S.signed e.sg = some (s, textL e)
  i : e.i = pre.length
  pv : e.pv = sumS S pre
  late : ∀ x, pre.getLast? = some x → lessS x.t x.tw e.t e.tw = true
def Good (S : OS) (wr s : Int) (es : List Ent) : Prop := ∀ (i : Nat) (e : Ent), es[i]? = some e → OkAt S wr s (es.take i) e ∧ ∃ h, alook S.hashes (bytesL e) = some h
/-- a secret, and its public. -/
structure Keyed (S : OS) (s p : Int) : Prop where
  sec : s ∈ S.secrets
  pub : alook S.publics p = some s
theorem Keyed.le {S S' : OS} {s p : Int} (h : Keyed S s p) (l : OS.le S S') : Keyed S' s p := ⟨l.secrets _ h.sec, l.publics _ _ h.pub⟩
structure LOk (S : OS) (s p : Int) (L : CL) : Prop where
  good : Good S L.wr s L.es
  sum : L.sum = sumS S L.es
  pb : L.pb = p
  few : L.es.length ≤ 200
section
variable {S S' : OS} {s p wr : Int} {L : CL} {e : Ent} {es : List Ent}
theorem hv_le (l : OS.le S S') {h : Int} (hh : alook S.hashes (bytesL e) = some h) : hv S' e = hv S e := by unfold hv; rw [hh, l.hashes _ _ hh]
theorem last_get {es : List Ent} {x : Ent} (h : es.getLast? = some x) : es[es.length - 1]? = some x := by rw [← List.getLast?_eq_getElem?]; exact h
theorem sumS_le (l : OS.le S S') (h : ∀ e ∈ es, ∃ h, alook S.hashes (bytesL e) = some h) : sumS S' es = sumS S es := by
  unfold sumS
  cases hl : es.getLast? with
  | none => rfl
  | some x =>
    obtain ⟨y, hy⟩ := h x (List.mem_of_getElem? (last_get hl))
    exact hv_le l hy
theorem Good.hashed (g : Good S wr s es) : ∀ e ∈ es, ∃ h, alook S.hashes (bytesL e) = some h := fun e he => by
  obtain ⟨i, hi⟩ := List.getElem?_of_mem he
  exact (g i e hi).2
theorem Good.nil : Good S wr s [] := fun i e h => by simp at h
theorem Good.take (g : Good S wr s es) (n : Nat) : Good S wr s (es.take n) := fun i e h => by
  rw [List.getElem?_take] at h
  split at h
  · have := g i e h
    rw [List.take_take, Nat.min_eq_left (by omega)]; exact this
  · cases h
theorem OkAt.le {pre : List Ent} (h : OkAt S wr s pre e) (l : OS.le S S') (hp : ∀ e ∈ pre, ∃ h, alook S.hashes (bytesL e) = some h) : OkAt S' wr s pre e :=
  ⟨h.right, h.fit, h.w, l.signed _ _ h.sg, h.i, by rw [sumS_le l hp]; exact h.pv, h.late⟩
theorem Good.le (g : Good S wr s es) (l : OS.le S S') : Good S' wr s es := fun i e h => by
  obtain ⟨h1, x, hx⟩ := g i e h
  exact ⟨h1.le l (g.take i).hashed, x, l.hashes _ _ hx⟩
theorem Good.add (g : Good S wr s es) (h : OkAt S wr s es e) (hh : ∃ h, alook S.hashes (bytesL e) = some h) : Good S wr s (es ++ [e]) := fun i x hx => by
  by_cases hi : i < es.length
  · rw [List.getElem?_append_left hi] at hx
    have := g i x hx
    rwa [List.take_append_of_le_length (by omega)]
  · have hi2 : i = es.length := by
      have := (List.getElem?_eq_some_iff.1 hx).1
      simp at this; omega
    subst hi2
    rw [List.getElem?_append_right (Nat.le_refl _), Nat.sub_self] at hx
    simp at hx
    subst hx
    rw [List.take_append_of_le_length (Nat.le_refl _), List.take_length]
    exact ⟨h, hh⟩
theorem LOk.nil (wr : Int) : LOk S s p ⟨wr, p, [], 0⟩ := ⟨Good.nil, rfl, rfl, Nat.zero_le _⟩
theorem LOk.le (h : LOk S s p L) (l : OS.le S S') : LOk S' s p L := ⟨h.good.le l, by rw [sumS_le l h.good.hashed]; exact h.sum, h.pb, h.few⟩
theorem sumE_right (hr : entRight e = true) : sumE S e = (((hashOf S (bytesL e)).1, 0), (hashOf S (bytesL e)).2) := by unfold sumE; rw [if_pos hr]
theorem LOk.put (h : LOk S s p L) (inv : OInv S) (he : OkAt S L.wr s L.es e) (hl : L.es.length < 200) : LOk (putC S L e).2 s p (putC S L e).1 ∧ OInv (putC S L e).2 ∧ OS.le S (putC S L e).2 ∧ (putC S L e).2.used.length ≤ S.used.length + 1 := by
  obtain ⟨a1, a2, a3, a4, _⟩ := hash_inv inv (bytesL e)
  have hu := (hashOf_ok inv.ok (bytesL e)).2
  unfold putC
  rw [sumE_right he.right]
  have h' := h.le a2
  refine ⟨⟨h'.good.add (he.le a2 h.good.hashed) ⟨_, a3⟩, ?_, h.pb, by simp; omega⟩, a1, a2, hu⟩
  show (hashOf S (bytesL e)).1 = sumS _ (L.es ++ [e])
  unfold sumS
  rw [List.getLast?_append]
  simp [hv, a3]
theorem LOk.fit (h : LOk S s p L) (inv : OInv S) (hl : S.used.length < 1000000) : 0 ≤ L.sum ∧ L.sum < 18446744073709551616 := by
  rw [h.sum]
  unfold sumS
  cases hl' : L.es.getLast? with
  | none => exact ⟨by show (0 : Int) ≤ 0; decide, by show (0 : Int) < _; decide⟩
  | some x =>
    obtain ⟨y, hy⟩ := h.good.hashed x (List.mem_of_getElem? (last_get hl'))
    show 0 ≤ hv S x ∧ hv S x < _
    unfold hv; rw [hy]
    exact inv.fit (by omega) (inv.hu _ _ hy)
theorem holdsE_iff (hk : Keyed S s p) : holdsE S p e = true ↔ entRight e = true ∧ alook S.signed e.sg = some (s, textL e) := by
  unfold holdsE
  rw [Bool.and_eq_true, verify_at hk.pub, decide_eq_true_eq]
theorem behind_zero (h : behindC L e = 0) : e.pv = L.sum ∧ ∀ x, L.es.getLast? = some x → lessS x.t x.tw e.t e.tw = true := by
  unfold behindC at h
  by_cases hp : e.pv = L.sum
  · rw [if_pos hp] at h
    refine ⟨hp, fun x hx => ?_⟩
    rw [hx] at h
    simp only [] at h
    by_cases hl : lessS x.t x.tw e.t e.tw = true
    · exact hl
    · rw [if_neg hl] at h; cases h
  · rw [if_neg hp] at h; cases h
theorem behind_ok (h1 : e.pv = L.sum) (h2 : ∀ x, L.es.getLast? = some x → lessS x.t x.tw e.t e.tw = true) : behindC L e = 0 := by
  unfold behindC
  rw [if_pos h1]
  cases hl : L.es.getLast? with
  | none => rfl
  | some x => simp only []; rw [if_pos (h2 x hl)]
theorem check_behind (hes : L.es.length ≤ 200) (h : checkC S L e = 0) : behindC L e = 0 := by
  unfold checkC at h
  split at h
  · rename_i h1; exact absurd h h1
  · split at h
    · rename_i h1; exact absurd h h1
    · exact h
theorem LOk.accepted (h : LOk S s p L) (hk : Keyed S s p) (hf : entRight e = true → e.fit) (hc : checkC S L e = 0) : OkAt S L.wr s L.es e ∧ L.es.length < 200 := by
  obtain ⟨q1, q2, q3, q4, q5, q6⟩ := accept_out h.few hc
  rw [h.pb] at q4
  exact ⟨⟨q2, hf q2, q3, ((holdsE_iff hk).1 q4).2, q5, by rw [q6, h.sum], (behind_zero (check_behind h.few hc)).2⟩, q1⟩
theorem LOk.accept (h : LOk S s p L) (inv : OInv S) (hk : Keyed S s p) (hf : entRight e = true → e.fit) : LOk (acceptC S L e).2.2 s p (acceptC S L e).2.1 ∧ OInv (acceptC S L e).2.2 ∧ OS.le S (acceptC S L e).2.2 ∧ (acceptC S L e).2.2.used.length ≤ S.used.length + 1 ∧
    (acceptC S L e).2.1.wr = L.wr ∧ (acceptC S L e).2.1.es = (if (acceptC S L e).1 = 0 then L.es ++ [e] else L.es) := by
  unfold acceptC
  by_cases hc : checkC S L e = 0
  · rw [if_pos hc]
    obtain ⟨h1, h2⟩ := h.accepted hk hf hc
    obtain ⟨a1, a2, a3, a4⟩ := h.put inv h1 h2
    exact ⟨a1, a2, a3, a4, rfl, rfl⟩
  · rw [if_neg hc]
    exact ⟨h, inv, OS.le.refl _, Nat.le_succ _, rfl, by simp only [if_neg hc]⟩
/-- what comes next is accepted. -/
theorem LOk.accepts (h : LOk S s p L) (hk : Keyed S s p) (he : OkAt S L.wr s L.es e) : checkC S L e = 0 := by
  have h1 : rightC S L e = 0 := by
    unfold rightC
    rw [if_pos he.right, if_pos he.w, h.pb, if_pos ((holdsE_iff hk).2 ⟨he.right, he.sg⟩)]
  have h2 : placeC L e = 0 := by
    unfold placeC
    rw [if_neg (by rw [he.i]; omega), if_pos he.i]
  have h3 : behindC L e = 0 := behind_ok (by rw [he.pv, h.sum]) he.late
  unfold checkC
  rw [if_neg (not_not_intro h1), if_neg (not_not_intro h2), h3]
/-- what an issue leaves. -/
theorem LOk.issue (h : LOk S s p L) (inv : OInv S) (hk : Keyed S s p) (hl : S.used.length < 1000000) (t tw ep : Int) (body : List UInt8) :
    LOk (issueC S L s t tw ep body).2.2 s p (issueC S L s t tw ep body).2.1 ∧ OInv (issueC S L s t tw ep body).2.2 ∧ OS.le S (issueC S L s t tw ep body).2.2 ∧ (issueC S L s t tw ep body).2.2.used.length ≤ S.used.length + 2 ∧
    (issueC S L s t tw ep body).2.1.wr = L.wr ∧ (issueC S L s t tw ep body).2.1.es = (if (issueC S L s t tw ep body).1.2 = 0 then L.es ++ [(issueC S L s t tw ep body).1.1] else L.es) ∧
    ((issueC S L s t tw ep body).1.2 = 0 → OkAt (issueC S L s t tw ep body).2.2 L.wr s L.es (issueC S L s t tw ep body).1.1 ∧ L.es.length < 200) ∧ (issueC S L s t tw ep body).1.1.body.length ≤ 1100 ∧ (issueC S L s t tw ep body).1.1.fit := by
  have z0 : Ent.zero.body.length ≤ 1100 := by decide
  have z1 : Ent.zero.fit := ⟨by decide, by decide, by decide, by decide⟩
  unfold issueC
  by_cases h1 : L.es.length ≥ 200
  · rw [if_pos h1]; exact ⟨h, inv, OS.le.refl _, by show S.used.length ≤ _; omega, rfl, rfl, fun h => (by cases h), z0, z1⟩
  rw [if_neg h1]
  by_cases h2 : entRight (nextE L t tw ep body) = true
  · rw [if_pos h2]
    by_cases h3 : behindC L (nextE L t tw ep body) ≠ 0
    · rw [if_pos h3]; exact ⟨h, inv, OS.le.refl _, by show S.used.length ≤ _; omega, rfl, by simp only [if_neg h3], fun h => absurd h h3, z0, z1⟩
    rw [if_neg h3]
    obtain ⟨a1, a2, a3, a4, a5, a6, a7, a8⟩ := sign_inv inv hk.sec (textL (nextE L t tw ep body))
    have hu := (signOf_ok inv.ok s (textL (nextE L t tw ep body))).2
    have hs : signE S s (nextE L t tw ep body) = (({ nextE L t tw ep body with sg := (signOf S s (textL (nextE L t tw ep body))).1.1 }, 0), (signOf S s (textL (nextE L t tw ep body))).2) := by
      unfold signE; rw [if_pos h2, if_pos a3]
    rw [hs]
    rw [if_neg (by simp)]
    have hb3 := behind_zero (Decidable.not_not.1 h3)
    have hsgfit := a1.fit (by omega) (a1.su _ _ a4)
    have hsum := h.fit inv hl
    have hok : OkAt (signOf S s (textL (nextE L t tw ep body))).2 L.wr s L.es { nextE L t tw ep body with sg := (signOf S s (textL (nextE L t tw ep body))).1.1 } :=
      ⟨h2, ⟨hsum.1, hsum.2, hsgfit.1, hsgfit.2⟩, rfl, a4, rfl, by rw [sumS_le a2 h.good.hashed]; exact h.sum, hb3.2⟩
    obtain ⟨b1, b2, b3, b4⟩ := (h.le a2).put a1 hok (by omega)
    refine ⟨b1, b2, a2.trans b3, Nat.le_trans b4 (by omega), rfl, rfl, fun _ => ⟨hok.le b3 ((h.le a2).good.hashed), by omega⟩, ((entRight_iff _).1 h2).2.2.2.2.2.2.2.2.2.1, hok.fit⟩
  · rw [if_neg h2]; exact ⟨h, inv, OS.le.refl _, by show S.used.length ≤ _; omega, rfl, rfl, fun h => (by cases h), z0, z1⟩
theorem issue_sg (inv : OInv S) (hl : S.used.length < 1000000) (b : List UInt8) (hk : Keyed S s p) : 0 ≤ (signOf S s b).1.1 ∧ (signOf S s b).1.1 < 18446744073709551616 := by
  obtain ⟨a1, a2, a3, a4, a5, a6, a7, a8⟩ := sign_inv inv hk.sec b
  have hu := (signOf_ok inv.ok s b).2
  exact a1.fit (by omega) (a1.su _ _ a4)
end
end Go.Proofs.Ytfmdpjhkojbocaa

/- Chain's laws: what is handed in; the example; all entries held against each other. -/
set_option linter.unusedVariables false
set_option linter.unusedSimpArgs false
set_option maxRecDepth 20000
set_option maxHeartbeats 2000000
namespace Go.Proofs.Ytfmdpjhkojbocaa
open Go Go.Mx Go.Proofs
open W (OwnB GivesW numR countR doneR zig unzig intR)
/-- a step that is handed in. -/
structure CO where
  kd : Int
  t : Int
  ep : Int
  a : Option Addr
  c : Nat
  B : List UInt8
  n : Int
  fd : Int
  E : PE
def CO.C (p : CO) : List Value := [.int .i64 p.kd, .int .i64 p.t, .int .i64 p.ep, .slice p.a p.B.length p.c, .int .i64 p.n, .int .i64 p.fd] ++ p.E.C
theorem CO.len (p : CO) : p.C.length = 14 := rfl
structure CO.good (W : World) (p : CO) : Prop where
  t : -9223372036854775808 ≤ p.t ∧ p.t < 9223372036854775808
  ep : -9223372036854775808 ≤ p.ep ∧ p.ep < 9223372036854775808
  n : -9223372036854775808 ≤ p.n ∧ p.n < 9223372036854775808
  la : p.B.length ≤ p.c
  ra : RowAt W p.a (bytesV p.B)
  e : RowAt W p.E.a (bytesV p.E.e.body) ∧ p.E.e.body.length ≤ p.E.c ∧ p.E.e.fit ∧ p.E.e.wide
theorem opens_co : Opens Try.prog 31 fun W cs => ∃ p : CO, cs = p.C ∧ p.good W :=
  (opens_seq (qs := [(1, _), (1, _), (1, _), (1, _), (1, _), (1, _), (8, _)]) (size := 14) Try.underlying31 (by kernel_rfl)
    ⟨⟨rfl, by kernel_rfl, opens_int Try.underlying3⟩, ⟨rfl, by kernel_rfl, opens_int Try.underlying2⟩, ⟨rfl, by kernel_rfl, opens_int Try.underlying3⟩,
     ⟨rfl, by kernel_rfl, opens_bytes Try.underlying23 (by kernel_rfl) Try.underlying5⟩, ⟨rfl, by kernel_rfl, opens_int Try.underlying3⟩, ⟨rfl, by kernel_rfl, opens_int Try.underlying3⟩, ⟨rfl, by kernel_rfl, opens_entry⟩, rfl⟩).mono
    fun W cs ⟨_, _, e0, _, ⟨kd, q0, _⟩, _, _, e1, _, ⟨t, q1, ft⟩, _, _, e2, _, ⟨ep, q2, fe⟩, _, _, e3, _, ⟨aa, ac, A, q3, la, _, ra⟩, _, _, e4, _, ⟨n, q4, fn⟩, _, _, e5, _, ⟨fd, q5, _⟩, _, _, e6, _, ⟨e, ea, ec, q6, f1, f2, f3, _, f5⟩, q7⟩ => by
      subst q0; subst q1; subst q2; subst q3; subst q4; subst q5; subst q6; subst q7; subst e6; subst e5; subst e4; subst e3; subst e2; subst e1; subst e0
      exact ⟨⟨kd, t, ep, aa, ac, A, n, fd, ⟨e, ea, ec⟩⟩, rfl, wf_i64 ft, wf_i64 fe, wf_i64 fn, la, ra, f5, f3, f1, f2⟩
def COsQ (W : World) (cs : List Value) : Prop := ∃ (a : Option Addr) (c : Nat) (l : List CO), cs = [.slice a l.length c] ∧ l.length ≤ c ∧ c ≤ maxLen ∧ RowAt W a (l.flatMap CO.C) ∧ ∀ x ∈ l, x.good W
theorem opens_cos : Opens Try.prog 22 COsQ := opens_rows (size := 14) Try.underlying22 (by kernel_rfl) opens_co
section
variable {w W : World} {da la : Option Addr} {dn dc lc : Nat} {d : List Int} {l : List CO}
end
end Go.Proofs.Ytfmdpjhkojbocaa

/- Chain: the chapter's example; a log that is none. -/
set_option linter.unusedVariables false
set_option linter.unusedSimpArgs false
set_option maxRecDepth 20000
set_option maxHeartbeats 2000000
namespace Go.Proofs.Ytfmdpjhkojbocaa
open Go Go.Mx Go.Proofs
open W (OwnB GivesW numR countR doneR zig unzig intR)
end Go.Proofs.Ytfmdpjhkojbocaa

/- Logs that a law issues, and the list that it keeps of them. -/
set_option linter.unusedVariables false
set_option linter.unusedSimpArgs false
set_option maxRecDepth 20000
set_option maxHeartbeats 2000000
namespace Go.Proofs.Ytfmdpjhkojbocaa
open Go Go.Mx Go.Proofs
open W (OwnB GivesW numR countR doneR zig unzig intR)
/-- an oracle and a log of it. -/
structure OneI (w : World) (o : Own) (q k : Nat) (s p : Int) (S : OS) (L : CL) (n : Nat) : Prop where
  log : PLog w o q k L
  orc : POrc w o k S
  ok : Tags w o
  inv : OInv S
  key : Keyed S s p
  lok : LOk S s p L
  len : S.used.length ≤ n
  ne : q ≠ k
section
variable {w w' w1 W0 : World} {o o' o1 : Own} {q k n N : Nat} {K : Nat → Prop} {s p : Int} {S : OS} {L : CL} {e : Ent} {a : Option Addr} {c : Nat} {l : List PE}
theorem OneI.step (h : OneI w o q k s p S L n) (t : Step K w o w' o') (hq : ¬ K q) (hk : ¬ K k) : OneI w' o' q k s p S L n :=
  ⟨h.log.step t hq, h.orc.step t hk, t.ok, h.inv, h.key, h.lok, h.len, h.ne⟩
theorem OneI.mono (h : OneI w o q k s p S L n) {m : Nat} (hm : n ≤ m) : OneI w o q k s p S L m := ⟨h.log, h.orc, h.ok, h.inv, h.key, h.lok, Nat.le_trans h.len hm, h.ne⟩
/-- an entry is issued. -/
theorem OneI.issue (h : OneI w o q k s p S L n) (hn : n + 2 < 1000000) (t tw ep : Int) {body : List UInt8} (hb : Row w o a (bytesV body)) :
    Calls Try.prog 9 #[.pointer (some (blk q)), .int .u64 s, .agg #[.int .i64 t, .int .i64 tw], .int .i64 ep, .slice a body.length c] w (fun x w' => ∃ (o' : Own) (S' : OS) (L' : CL) (e' : PE) (cd : Int), x = .returned (.tuple #[entV e'.e e'.a e'.c, .int .i64 cd]) ∧ Step (fun i => i = q ∨ i = k) w o w' o' ∧
      OneI w' o' q k s p S' L' (n + 2) ∧ e'.ok w' o' ∧ e'.e.body.length ≤ 1100 ∧ L'.wr = L.wr ∧ L'.es = (if cd = 0 then L.es ++ [e'.e] else L.es) ∧ (cd = 0 → OkAt S' L.wr s L.es e'.e) ∧ OS.le S S' ∧ issueC S L s t tw ep body = ((e'.e, cd), L', S')) := by
  have hu := h.len
  refine (cIssue_spec h.log h.orc h.ok h.ne h.inv.ok (by omega) (h.lok.fit h.inv (by omega)) s t tw ep (issue_sg h.inv (by omega) _ h.key) hb).mono fun x w' ⟨o', a', c', he, st, pl, po, r, lc⟩ => ?_
  obtain ⟨b1, b2, b3, b4, b5, b6, b7, b8, b9⟩ := h.lok.issue h.inv h.key (by omega) t tw ep body
  exact ⟨o', _, _, ⟨_, a', c'⟩, _, he, st, ⟨pl, po, st.ok, b2, h.key.le b3, b1, by omega, h.ne⟩, ⟨r, lc, b9⟩, b8, b5, b6, fun h => (b7 h).1, b3, rfl⟩
end
end Go.Proofs.Ytfmdpjhkojbocaa

/- ChainAts. -/
set_option linter.unusedVariables false
set_option linter.unusedSimpArgs false
set_option maxRecDepth 20000
set_option maxHeartbeats 2000000
namespace Go.Proofs.Ytfmdpjhkojbocaa
open Go Go.Mx Go.Proofs
open W (OwnB GivesW numR countR doneR zig unzig intR)
section
variable {w : World}
end
end Go.Proofs.Ytfmdpjhkojbocaa

/- Two logs of one oracle; a log that is accepted whole; plain laws of all this. -/
set_option linter.unusedVariables false
set_option linter.unusedSimpArgs false
set_option maxRecDepth 20000
set_option maxHeartbeats 2000000
namespace Go.Proofs.Ytfmdpjhkojbocaa
open Go Go.Mx Go.Proofs
open W (OwnB GivesW numR countR doneR zig unzig intR)
/-- an oracle, a pair of keys, and a log. -/
theorem start7 {W : World} {da : Option Addr} {dc : Nat} {d : List Int} (hd : RowAt W da (d.map u64V)) (hl : d.length ≤ 1000000) (hr : ∀ x ∈ d, 0 ≤ x ∧ x < 18446744073709551616) {Φ : Option Addr → Int → Int → Option Addr → Int → World → Prop}
    (hΦ : ∀ (w : World) (o : Own) (k q : Nat) (s p : Int) (S : OS), W.heap.size ≤ k → W.heap.size ≤ q → Step no W (fun _ => none) w o → OneI w o q k s p S ⟨1, p, [], 0⟩ 2 → Φ (some (blk k)) s p (some (blk q)) 0 w) :
    Calls Try.prog 6 #[.slice da d.length dc] W fun ee w1 => ∃ (a : Option Addr), ee = .returned (.pointer a) ∧
    Calls Try.prog 7 #[.pointer a] w1 fun ee w2 => ∃ (s : Int) (p : Int), ee = .returned (.tuple #[.int .u64 s, .int .u64 p]) ∧
    Calls Try.prog 8 #[.pointer a, .int .i64 1, .int .u64 p] w2 fun ee w3 => ∃ (q : Option Addr) (cd : Int), ee = .returned (.tuple #[.pointer q, .int .i64 cd]) ∧ Φ a s p q cd w3 := by
  have ok0 : Tags W (fun _ => none) := fun b j _ h => by cases h
  refine (NewO (c := dc) ok0 hd hl).mono fun v w12 ⟨k, o12, hx, hk, s12, P12⟩ => ⟨_, hx, ?_⟩
  have i0 : OInv (OS.init d) := OInv.init hr
  have u0 : (OS.init d).used.length = 0 := rfl
  refine (PairO P12 s12.ok i0.ok (by omega)).mono fun v w16 ⟨o16, hx, s16', P16⟩ => ⟨_, _, hx, ?_⟩
  obtain ⟨i1, _, kp, ks, _⟩ := pair_inv i0
  have u1 : (pairOf (OS.init d)).2.used.length ≤ 2 := by have := (pairOf_ok i0.ok).2; omega
  have s16 : Step no W (fun _ => none) w16 o16 := s12.trans' s16' fun i hi => .inr (by omega)
  refine (cNew_spec (k := k) s16.ok 1 (pairOf (OS.init d)).1.2).mono fun v w20 h => ?_
  rcases h with ⟨h, _⟩ | ⟨_, q, o20, hx, hq, s20', PL20⟩
  · exact absurd ⟨by decide, by decide⟩ h
  have s20 := s16.trans s20'
  have hkl := P16.lt
  have l16 := s16.size
  exact ⟨_, _, hx, hΦ w20 o20 k q _ _ _ hk (by omega) s20 ⟨PL20, P16.step s20' id, s20.ok, i1, ⟨ks, kp⟩, LOk.nil 1, u1, by omega⟩⟩
/-- two logs of one oracle. -/
structure DuoI (w : World) (o : Own) (qa qb k : Nat) (s p : Int) (S : OS) (La Lb : CL) (n : Nat) : Prop where
  a : OneI w o qa k s p S La n
  b : OneI w o qb k s p S Lb n
  ab : qa ≠ qb
section
variable {w w' w1 W0 : World} {o o' o1 : Own} {q qa qb k n n' N : Nat} {K : Nat → Prop} {s p : Int} {S S' : OS} {L L' La Lb La' Lb' : CL} {e : Ent} {a : Option Addr} {c : Nat} {l : List PE} {es es1 es2 : List Ent}
theorem DuoI.step (h : DuoI w o qa qb k s p S La Lb n) (t : Step K w o w' o') (ha : ¬ K qa) (hb : ¬ K qb) (hk : ¬ K k) : DuoI w' o' qa qb k s p S La Lb n := ⟨h.a.step t ha hk, h.b.step t hb hk, h.ab⟩
theorem DuoI.mono (h : DuoI w o qa qb k s p S La Lb n) (hm : n ≤ n') : DuoI w o qa qb k s p S La Lb n' := ⟨h.a.mono hm, h.b.mono hm, h.ab⟩
theorem DuoI.onA (h : DuoI w o qa qb k s p S La Lb n) (t : Step (fun i => i = qa ∨ i = k) w o w' o') (one : OneI w' o' qa k s p S' La' n') (le : OS.le S S') : DuoI w' o' qa qb k s p S' La' Lb n' :=
  ⟨one, ⟨h.b.log.step t (by have := h.ab; have := h.b.ne; omega), one.orc, one.ok, one.inv, one.key, h.b.lok.le le, one.len, h.b.ne⟩, h.ab⟩
theorem DuoI.onB (h : DuoI w o qa qb k s p S La Lb n) (t : Step (fun i => i = qb ∨ i = k) w o w' o') (one : OneI w' o' qb k s p S' Lb' n') (le : OS.le S S') : DuoI w' o' qa qb k s p S' La Lb' n' :=
  ⟨⟨h.a.log.step t (by have := h.ab; have := h.a.ne; omega), one.orc, one.ok, one.inv, one.key, h.a.lok.le le, one.len, h.a.ne⟩, one, h.ab⟩
/-- a second log of the same oracle. -/
theorem OneI.second (h : OneI w o q k s p S L n) : Calls Try.prog 8 #[.pointer (some (blk k)), .int .i64 1, .int .u64 p] w (fun x w' => ∃ qb o', x = .returned (.tuple #[.pointer (some (blk qb)), .int .i64 0]) ∧ w.heap.size ≤ qb ∧ Step no w o w' o' ∧ DuoI w' o' q qb k s p S L ⟨1, p, [], 0⟩ n) := by
  refine (cNew_spec (k := k) h.ok 1 p).mono fun v w20 hh => ?_
  rcases hh with ⟨h, _⟩ | ⟨_, qb, o20, hx, hq, s20, PL⟩
  · exact absurd ⟨by decide, by decide⟩ h
  have h20 := h.step s20 id id
  have l1 := h.log.lt
  have l2 := h.orc.lt
  exact ⟨qb, o20, hx, hq, s20, h20, ⟨PL, h20.orc, h20.ok, h20.inv, h20.key, LOk.nil 1, h20.len, by omega⟩, by omega⟩
theorem OneI.accept (h : OneI w o q k s p S L n) (hn : n + 2 < 1000000) (hf : entRight e = true → e.fit) (hb : Row w o a (bytesV e.body)) :
    Calls Try.prog 10 #[.pointer (some (blk q)), entV e a c] w (fun x w' => ∃ (o' : Own) (S' : OS) (L' : CL) (cd : Int), x = .returned (.int .i64 cd) ∧ Step (fun i => i = q ∨ i = k) w o w' o' ∧ OneI w' o' q k s p S' L' (n + 1) ∧ OS.le S S' ∧ L'.wr = L.wr ∧ L'.es = (if cd = 0 then L.es ++ [e] else L.es) ∧ acceptC S L e = (cd, L', S')) := by
  have hu := h.len
  refine (cAccept_spec h.log h.orc h.ok h.ne h.inv.ok (by omega) hf hb).mono fun x w' ⟨o', he, st, pl, po⟩ => ?_
  obtain ⟨b1, b2, b3, b4, b5, b6⟩ := h.lok.accept h.inv h.key hf
  exact ⟨o', _, _, _, he, st, ⟨pl, po, st.ok, b2, h.key.le b3, b1, by omega, h.ne⟩, b3, b5, b6, rfl⟩
/-- the next one of a log that is good. -/
theorem Good.next (g : Good S L.wr s es) (inv : OInv S) (hk : Keyed S s p) {t : Nat} (he : es[t]? = some e) (hL : L.es = es.take t) (hs : L.sum = sumS S L.es) (hp : L.pb = p) (hf : es.length ≤ 200) :
    acceptC S L e = (0, { L with es := es.take (t + 1), sum := sumS S (es.take (t + 1)) }, S) := by
  obtain ⟨h1, x, hx⟩ := g t e he
  have hlok : LOk S s p L := ⟨by rw [hL]; exact g.take t, hs, hp, by rw [hL, List.length_take]; omega⟩
  have hc := hlok.accepts hk (by rw [hL]; exact h1)
  unfold acceptC
  rw [if_pos hc]
  unfold putC
  rw [sumE_right h1.right, hash_eq hx, hL]
  have : es.take (t + 1) = es.take t ++ [e] := by rw [List.take_add_one, he]; rfl
  rw [this]
  have : sumS S (es.take t ++ [e]) = x := by unfold sumS; rw [List.getLast?_append]; simp [hv, hx]
  rw [this]
/-- an entry for the next place of a log, as another one that would fit there, but with another body. -/
theorem issue_as (h : LOk S s p L) (inv : OInv S) (hk : Keyed S s p) {x : Ent} (hx : OkAt S L.wr s L.es x) (hl : L.es.length < 200) {body : List UInt8} (hb : body.length ≤ 1000) :
    (issueC S L s x.t x.tw x.ep body).1 = ({ x with body := body, sg := (signOf S s (textL { x with body := body })).1.1 }, 0) := by
  have hn : nextE L x.t x.tw x.ep body = { x with body := body, sg := 0 } := by
    unfold nextE
    rw [← hx.w, ← hx.i, h.sum, ← hx.pv]
  obtain ⟨q1, q2, q3, q4, q5, q6, q7, q8, q9, q10, q11⟩ := (entRight_iff _).1 hx.right
  have hr : entRight (nextE L x.t x.tw x.ep body) = true := by
    rw [hn]; exact (entRight_iff _).2 ⟨q1, q2, q3, q4, q5, q6, q7, q8, q9, by show body.length ≤ 1100; omega, q11⟩
  have hb0 : behindC L (nextE L x.t x.tw x.ep body) = 0 := by
    rw [hn]; exact behind_ok (by show x.pv = _; rw [hx.pv, h.sum]) hx.late
  obtain ⟨a1, a2, a3, a4, a5, a6, a7, a8⟩ := sign_inv inv hk.sec (textL (nextE L x.t x.tw x.ep body))
  unfold issueC
  rw [if_neg (by omega), if_pos hr, if_neg (not_not_intro hb0)]
  have hs : signE S s (nextE L x.t x.tw x.ep body) = (({ nextE L x.t x.tw x.ep body with sg := (signOf S s (textL (nextE L x.t x.tw x.ep body))).1.1 }, 0), (signOf S s (textL (nextE L x.t x.tw x.ep body))).2) := by
    unfold signE; rw [if_pos hr, if_pos a3]
  rw [hs, if_neg (by simp)]
  rw [hn]; rfl
theorem sign_again (inv : OInv S) (hk : Keyed S s p) (hsg : alook S.signed e.sg = some (s, textL e)) : (signOf S s (textL e)).1.1 = e.sg := by
  rw [sign_eq hk.sec (inv.gs _ _ hsg)]
end
end Go.Proofs.Ytfmdpjhkojbocaa

/- ForkcheckProves: predicate. -/
set_option linter.unusedVariables false
set_option linter.unusedSimpArgs false
set_option maxRecDepth 20000
set_option maxHeartbeats 2000000
namespace Go.Proofs.Ytfmdpjhkojbocaa
open Go Go.Mx Go.Proofs
open W (OwnB GivesW numR countR doneR zig unzig intR)
/-- cachettelaw23.ForkcheckProves -/
def cachettelaw23_ForkcheckProves.M (l1a : Option Addr) (md : Nat) (l1c : Nat) (ah : Int) (u7 : Option Addr) (et : Nat) (u6 : Nat) (jy : Option Addr) (ac : Nat) (bz2 : Nat) (R : Value → World → Prop) (w : World) : Prop :=
 bif decide ((md : Int) > 20) then (
 Calls Try.prog 5 #[] w fun ee6 ww7 => ∃ (aw9 : Bool), ee6 = .returned (.bool aw9) ∧
 R (.bool aw9) ww7) else (
 bif decide ((ac : Int) > 20) then (
 Calls Try.prog 5 #[] w fun ee9 bz0 => ∃ (au2 : Bool), ee9 = .returned (.bool au2) ∧
 R (.bool au2) bz0) else (
 bif decide ((et : Int) > 300) then (
 Calls Try.prog 5 #[] w fun bz9 c05 => ∃ (al3 : Bool), bz9 = .returned (.bool al3) ∧
 R (.bool al3) c05) else (
 ∃ (I0 : Nat → List Value → World → Prop) (m15 : Nat), I0 m15 [.int .i64 0] w ∧ ∀ (m16 : Nat) (e4 : World) (u8 : Int), I0 m16 [.int .i64 u8] e4 →
 bif decide (u8 < (IntKind.i64.wrap ((md : Int) + (ac : Int)))) then (
 bif decide (u8 < (md : Int)) then (
 l1a.elim False fun a18 =>
 0 ≤ (u8 : Int) ∧ (u8 : Int) < (md : Int) ∧
 ∃ (az3 : Option Addr) (ab2 : Nat) (az8 : Nat), e4.cell? ((a18.add (Int.toNat u8 * 14)).add 3) = some (.slice az3 ab2 az8) ∧
 bif decide ((ab2 : Int) > 300) then (
 Calls Try.prog 5 #[] e4 fun bz1 c09 => ∃ (aj4 : Bool), bz1 = .returned (.bool aj4) ∧
 R (.bool aj4) c09) else (
 bif decide (u8 ≥ (md : Int)) then (
 jy.elim False fun a23 =>
 0 ≤ ((IntKind.i64.wrap (u8 - (md : Int))) : Int) ∧ ((IntKind.i64.wrap (u8 - (md : Int))) : Int) < (ac : Int) ∧
 ∃ (az5 : Option Addr) (ap4 : Nat) (b00 : Nat), e4.cell? ((a23.add (Int.toNat (IntKind.i64.wrap (u8 - (md : Int))) * 14)).add 3) = some (.slice az5 ap4 b00) ∧
 bif decide ((ap4 : Int) > 300) then (
 Calls Try.prog 5 #[] e4 fun c16 bz7 => ∃ (ab8 : Bool), c16 = .returned (.bool ab8) ∧
 R (.bool ab8) bz7) else (
 ∃ m28, m28 < m16 ∧ I0 m28 [.int .i64 (IntKind.i64.wrap (u8 + 1))] e4)) else (
 ∃ m29, m29 < m16 ∧ I0 m29 [.int .i64 (IntKind.i64.wrap (u8 + 1))] e4))) else (
 bif decide (u8 ≥ (md : Int)) then (
 jy.elim False fun a30 =>
 0 ≤ ((IntKind.i64.wrap (u8 - (md : Int))) : Int) ∧ ((IntKind.i64.wrap (u8 - (md : Int))) : Int) < (ac : Int) ∧
 ∃ (b02 : Option Addr) (ae6 : Nat) (az2 : Nat), e4.cell? ((a30.add (Int.toNat (IntKind.i64.wrap (u8 - (md : Int))) * 14)).add 3) = some (.slice b02 ae6 az2) ∧
 bif decide ((ae6 : Int) > 300) then (
 Calls Try.prog 5 #[] e4 fun bz4 c08 => ∃ (ae0 : Bool), bz4 = .returned (.bool ae0) ∧
 R (.bool ae0) c08) else (
 ∃ m35, m35 < m16 ∧ I0 m35 [.int .i64 (IntKind.i64.wrap (u8 + 1))] e4)) else (
 ∃ m36, m36 < m16 ∧ I0 m36 [.int .i64 (IntKind.i64.wrap (u8 + 1))] e4))) else (
 Calls Try.prog 6 #[.slice none 0 0] e4 fun c14 c10 => ∃ (ag : Option Addr), c14 = .returned (.pointer ag) ∧
 Calls Try.prog 7 #[.pointer ag] c10 fun c17 c01 => ∃ (b0 : Int) (ae : Int), c17 = .returned (.tuple #[.int .u64 b0, .int .u64 ae]) ∧
 Calls Try.prog 8 #[.pointer ag, .int .i64 1, .int .u64 ae] c01 fun bz6 c07 => ∃ (ad : Option Addr) (bs2 : Int), bz6 = .returned (.tuple #[.pointer ad, .int .i64 bs2]) ∧
 Calls Try.prog 8 #[.pointer ag, .int .i64 1, .int .u64 ae] c07 fun c03 c00 => ∃ (aw : Option Addr) (bx6 : Int), c03 = .returned (.tuple #[.pointer aw, .int .i64 bx6]) ∧
 ∃ (I2 : Nat → List Value → World → Prop) (m53 : Nat), I2 m53 [.int .i64 0] c00 ∧ ∀ (m54 : Nat) (aq3 : World) (i52 : Int), I2 m54 [.int .i64 i52] aq3 →
 bif decide (i52 < (md : Int)) then (
 l1a.elim False fun a56 =>
 0 ≤ (i52 : Int) ∧ (i52 : Int) < (md : Int) ∧
 ∃ (ag2 : Option Addr) (a93 : Nat) (ak4 : Nat), aq3.cell? ((a56.add (Int.toNat i52 * 14)).add 3) = some (.slice ag2 a93 ak4) ∧
 Calls Try.prog 9 #[.pointer ad, .int .u64 b0, .agg #[.int .i64 (IntKind.i64.wrap (i52 + 1)), .int .i64 1], .int .i64 0, .slice ag2 a93 ak4] aq3 fun c04 ai => ∃ (v5 : Int) (aa7 : Int) (aw0 : Int) (b19 : Int) (b21 : Int) (ae8 : Int) (af7 : Option Addr) (ao5 : Nat) (ab5 : Nat) (b60 : Int) (ao0 : Int), c04 = .returned (.tuple #[.agg #[.int .i64 v5, .int .i64 aa7, .int .u64 aw0, .int .i64 b19, .int .i64 b21, .int .i64 ae8, .slice af7 ao5 ab5, .int .u64 b60], .int .i64 ao0]) ∧
 thenW (ai.alloc (.cells #[.int .i64 0, .int .i64 0, .int .u64 0, .int .i64 0, .int .i64 0, .int .i64 0, .slice none 0 0, .int .u64 0] 29)) fun bu9 =>
 canStore bu9 ((blk ai.heap.size).add 0) ∧
 thenW (bu9.setCell ((blk ai.heap.size).add 0) (.int .i64 v5)) fun bo5 =>
 canStore bo5 ((blk ai.heap.size).add 1) ∧
 thenW (bo5.setCell ((blk ai.heap.size).add 1) (.int .i64 aa7)) fun bm6 =>
 canStore bm6 ((blk ai.heap.size).add 2) ∧
 thenW (bm6.setCell ((blk ai.heap.size).add 2) (.int .u64 aw0)) fun bq3 =>
 canStore bq3 ((blk ai.heap.size).add 3) ∧
 thenW (bq3.setCell ((blk ai.heap.size).add 3) (.int .i64 b19)) fun bx8 =>
 canStore bx8 ((blk ai.heap.size).add 4) ∧
 thenW (bx8.setCell ((blk ai.heap.size).add 4) (.int .i64 b21)) fun bx7 =>
 canStore bx7 ((blk ai.heap.size).add 5) ∧
 thenW (bx7.setCell ((blk ai.heap.size).add 5) (.int .i64 ae8)) fun bp0 =>
 canStore bp0 ((blk ai.heap.size).add 6) ∧
 thenW (bp0.setCell ((blk ai.heap.size).add 6) (.slice af7 ao5 ab5)) fun bp2 =>
 canStore bp2 ((blk ai.heap.size).add 7) ∧
 thenW (bp2.setCell ((blk ai.heap.size).add 7) (.int .u64 b60)) fun az9 =>
 bif ao0 != 0 then (
 R (.bool false) az9) else (
 bif decide (i52 < ah) then (
 ∃ (s8 : Int) (vh : Int) (ao1 : Int) (at7 : Int) (aw1 : Int) (z7 : Int) (za : Option Addr) (yo : Nat) (a04 : Nat) (ar8 : Int), cellsAt az9 (blk ai.heap.size) [.int .i64 s8, .int .i64 vh, .int .u64 ao1, .int .i64 at7, .int .i64 aw1, .int .i64 z7, .slice za yo a04, .int .u64 ar8] 0 ∧
 Calls Try.prog 10 #[.pointer aw, .agg #[.int .i64 s8, .int .i64 vh, .int .u64 ao1, .int .i64 at7, .int .i64 aw1, .int .i64 z7, .slice za yo a04, .int .u64 ar8]] az9 fun c15 bv7 => ∃ (vs : Int), c15 = .returned (.int .i64 vs) ∧
 bif vs != 0 then (
 R (.bool false) bv7) else (
 ∃ m89, m89 < m54 ∧ I2 m89 [.int .i64 (IntKind.i64.wrap (i52 + 1))] bv7)) else (
 ∃ m90, m90 < m54 ∧ I2 m90 [.int .i64 (IntKind.i64.wrap (i52 + 1))] az9))) else (
 bif decide (ah ≥ 0) then (
 bif decide (ah < (md : Int)) then (
 Calls Try.prog 9 #[.pointer aw, .int .u64 b0, .agg #[.int .i64 (IntKind.i64.wrap (ah + 1)), .int .i64 1], .int .i64 0, .slice u7 et u6] aq3 fun br8 af => ∃ (z9 : Int) (ao6 : Int) (aq8 : Int) (b91 : Int) (bg7 : Int) (ao2 : Int) (a96 : Option Addr) (af5 : Nat) (a95 : Nat) (bf3 : Int) (ag1 : Int), br8 = .returned (.tuple #[.agg #[.int .i64 z9, .int .i64 ao6, .int .u64 aq8, .int .i64 b91, .int .i64 bg7, .int .i64 ao2, .slice a96 af5 a95, .int .u64 bf3], .int .i64 ag1]) ∧
 thenW (af.alloc (.cells #[.int .i64 0, .int .i64 0, .int .u64 0, .int .i64 0, .int .i64 0, .int .i64 0, .slice none 0 0, .int .u64 0] 29)) fun b15 =>
 canStore b15 ((blk af.heap.size).add 0) ∧
 thenW (b15.setCell ((blk af.heap.size).add 0) (.int .i64 z9)) fun bg6 =>
 canStore bg6 ((blk af.heap.size).add 1) ∧
 thenW (bg6.setCell ((blk af.heap.size).add 1) (.int .i64 ao6)) fun be0 =>
 canStore be0 ((blk af.heap.size).add 2) ∧
 thenW (be0.setCell ((blk af.heap.size).add 2) (.int .u64 aq8)) fun be5 =>
 canStore be5 ((blk af.heap.size).add 3) ∧
 thenW (be5.setCell ((blk af.heap.size).add 3) (.int .i64 b91)) fun b04 =>
 canStore b04 ((blk af.heap.size).add 4) ∧
 thenW (b04.setCell ((blk af.heap.size).add 4) (.int .i64 bg7)) fun b31 =>
 canStore b31 ((blk af.heap.size).add 5) ∧
 thenW (b31.setCell ((blk af.heap.size).add 5) (.int .i64 ao2)) fun bg2 =>
 canStore bg2 ((blk af.heap.size).add 6) ∧
 thenW (bg2.setCell ((blk af.heap.size).add 6) (.slice a96 af5 a95)) fun bf2 =>
 canStore bf2 ((blk af.heap.size).add 7) ∧
 thenW (bf2.setCell ((blk af.heap.size).add 7) (.int .u64 bf3)) fun bc1 =>
 bif ag1 != 0 then (
 R (.bool false) bc1) else (
 ∃ (I4 : Nat → List Value → World → Prop) (c12 : Nat), I4 c12 [.int .i64 0] bc1 ∧ ∀ (by2 : Nat) (ag6 : World) (a69 : Int), I4 by2 [.int .i64 a69] ag6 →
 bif decide (a69 < (ac : Int)) then (
 jy.elim False fun c18 =>
 0 ≤ (a69 : Int) ∧ (a69 : Int) < (ac : Int) ∧
 ∃ (x9 : Option Addr) (x4 : Nat) (a41 : Nat), ag6.cell? ((c18.add (Int.toNat a69 * 14)).add 3) = some (.slice x9 x4 a41) ∧
 Calls Try.prog 9 #[.pointer aw, .int .u64 b0, .agg #[.int .i64 (IntKind.i64.wrap ((100 : Int) + a69)), .int .i64 1], .int .i64 0, .slice x9 x4 a41] ag6 fun bu1 bp1 => ∃ (aq0 : Int) (ay3 : Int) (b01 : Int) (bk3 : Int) (bl0 : Int) (at6 : Int) (at1 : Option Addr) (ax8 : Nat) (at3 : Nat) (bj5 : Int) (as2 : Int), bu1 = .returned (.tuple #[.agg #[.int .i64 aq0, .int .i64 ay3, .int .u64 b01, .int .i64 bk3, .int .i64 bl0, .int .i64 at6, .slice at1 ax8 at3, .int .u64 bj5], .int .i64 as2]) ∧
 ∃ bw3, bw3 < by2 ∧ I4 bw3 [.int .i64 (IntKind.i64.wrap (a69 + 1))] bp1) else (
 Calls Try.prog 12 #[.pointer ad] ag6 fun bo3 bp5 => ∃ (ap5 : Option Addr) (am7 : Nat) (ai5 : Nat), bo3 = .returned (.slice ap5 am7 ai5) ∧
 Calls Try.prog 12 #[.pointer aw] bp5 fun bm5 bm0 => ∃ (aj7 : Option Addr) (am0 : Nat) (ai4 : Nat), bm5 = .returned (.slice aj7 am0 ai4) ∧
 Calls Try.prog 11 #[.slice ap5 am7 ai5, .slice aj7 am0 ai4] bm0 fun bq2 a5 => ∃ (fv : Int) (my : Int) (ur : Int) (af4 : Int) (an2 : Int) (t8 : Int) (sp : Option Addr) (o6 : Nat) (p0 : Nat) (ad2 : Int) (lu : Int) (tu : Int) (y8 : Int) (al8 : Int) (ac1 : Int) (mt : Int) (ns : Option Addr) (o9 : Nat) (mp : Nat) (an4 : Int) (ar : Bool), bq2 = .returned (.tuple #[.agg #[.int .i64 fv, .int .i64 my, .int .u64 ur, .int .i64 af4, .int .i64 an2, .int .i64 t8, .slice sp o6 p0, .int .u64 ad2, .int .i64 lu, .int .i64 tu, .int .u64 y8, .int .i64 al8, .int .i64 ac1, .int .i64 mt, .slice ns o9 mp, .int .u64 an4], .bool ar]) ∧
 thenW (a5.alloc (.cells #[.int .i64 0, .int .i64 0, .int .u64 0, .int .i64 0, .int .i64 0, .int .i64 0, .slice none 0 0, .int .u64 0, .int .i64 0, .int .i64 0, .int .u64 0, .int .i64 0, .int .i64 0, .int .i64 0, .slice none 0 0, .int .u64 0] 44)) fun ba2 =>
 canStore ba2 ((blk a5.heap.size).add 0) ∧
 thenW (ba2.setCell ((blk a5.heap.size).add 0) (.int .i64 fv)) fun bd9 =>
 canStore bd9 ((blk a5.heap.size).add 1) ∧
 thenW (bd9.setCell ((blk a5.heap.size).add 1) (.int .i64 my)) fun b42 =>
 canStore b42 ((blk a5.heap.size).add 2) ∧
 thenW (b42.setCell ((blk a5.heap.size).add 2) (.int .u64 ur)) fun be2 =>
 canStore be2 ((blk a5.heap.size).add 3) ∧
 thenW (be2.setCell ((blk a5.heap.size).add 3) (.int .i64 af4)) fun bd1 =>
 canStore bd1 ((blk a5.heap.size).add 4) ∧
 thenW (bd1.setCell ((blk a5.heap.size).add 4) (.int .i64 an2)) fun b65 =>
 canStore b65 ((blk a5.heap.size).add 5) ∧
 thenW (b65.setCell ((blk a5.heap.size).add 5) (.int .i64 t8)) fun bd6 =>
 canStore bd6 ((blk a5.heap.size).add 6) ∧
 thenW (bd6.setCell ((blk a5.heap.size).add 6) (.slice sp o6 p0)) fun bf4 =>
 canStore bf4 ((blk a5.heap.size).add 7) ∧
 thenW (bf4.setCell ((blk a5.heap.size).add 7) (.int .u64 ad2)) fun b25 =>
 canStore b25 ((blk a5.heap.size).add 8) ∧
 thenW (b25.setCell ((blk a5.heap.size).add 8) (.int .i64 lu)) fun b92 =>
 canStore b92 ((blk a5.heap.size).add 9) ∧
 thenW (b92.setCell ((blk a5.heap.size).add 9) (.int .i64 tu)) fun bc2 =>
 canStore bc2 ((blk a5.heap.size).add 10) ∧
 thenW (bc2.setCell ((blk a5.heap.size).add 10) (.int .u64 y8)) fun b07 =>
 canStore b07 ((blk a5.heap.size).add 11) ∧
 thenW (b07.setCell ((blk a5.heap.size).add 11) (.int .i64 al8)) fun be4 =>
 canStore be4 ((blk a5.heap.size).add 12) ∧
 thenW (be4.setCell ((blk a5.heap.size).add 12) (.int .i64 ac1)) fun b64 =>
 canStore b64 ((blk a5.heap.size).add 13) ∧
 thenW (b64.setCell ((blk a5.heap.size).add 13) (.int .i64 mt)) fun b17 =>
 canStore b17 ((blk a5.heap.size).add 14) ∧
 thenW (b17.setCell ((blk a5.heap.size).add 14) (.slice ns o9 mp)) fun b16 =>
 canStore b16 ((blk a5.heap.size).add 15) ∧
 thenW (b16.setCell ((blk a5.heap.size).add 15) (.int .u64 an4)) fun cp =>
 bif decide (ah ≥ 0) then (
 bif decide (ah < (md : Int)) then (
 l1a.elim False fun c11 =>
 0 ≤ (ah : Int) ∧ (ah : Int) < (md : Int) ∧
 ∃ (a34 : Option Addr) (a42 : Nat) (a12 : Nat), cp.cell? ((c11.add (Int.toNat ah * 14)).add 3) = some (.slice a34 a42 a12) ∧
 Calls Try.prog 13 #[.slice u7 et u6, .slice a34 a42 a12] cp fun bq0 b6 => ∃ (ak6 : Bool), bq0 = .returned (.bool ak6) ∧
 bif !ak6 then (
 bif ar then (
 ∃ (v6 : Int), b6.cell? (((blk a5.heap.size).add 0).add 1) = some (.int .i64 v6) ∧
 bif v6 == ah then (
 ∃ (cq : Int) (jt : Int) (nm : Int) (ve : Int) (ul : Int) (ed : Int) (j3 : Option Addr) (kt : Nat) (lp : Nat) (a28 : Int) (bm : Int) (fe : Int) (nb : Int) (yf : Int) (y1 : Int) (k9 : Int) (kh : Option Addr) (k5 : Nat) (jp : Nat) (u9 : Int), cellsAt b6 (blk a5.heap.size) [.int .i64 cq, .int .i64 jt, .int .u64 nm, .int .i64 ve, .int .i64 ul, .int .i64 ed, .slice j3 kt lp, .int .u64 a28, .int .i64 bm, .int .i64 fe, .int .u64 nb, .int .i64 yf, .int .i64 y1, .int .i64 k9, .slice kh k5 jp, .int .u64 u9] 0 ∧
 Calls Try.prog 14 #[.pointer ag, .int .u64 ae, .agg #[.int .i64 cq, .int .i64 jt, .int .u64 nm, .int .i64 ve, .int .i64 ul, .int .i64 ed, .slice j3 kt lp, .int .u64 a28, .int .i64 bm, .int .i64 fe, .int .u64 nb, .int .i64 yf, .int .i64 y1, .int .i64 k9, .slice kh k5 jp, .int .u64 u9]] b6 fun bu5 b05 => ∃ (a08 : Int), bu5 = .returned (.int .i64 a08) ∧
 bif a08 == 0 then (
 Calls Try.prog 5 #[] b05 fun bt0 bo2 => ∃ (zu : Bool), bt0 = .returned (.bool zu) ∧
 R (.bool zu) bo2) else (
 R (.bool false) b05)) else (
 R (.bool false) b6)) else (
 R (.bool false) b6)) else (
 bif ar then (
 ∃ (d9 : Int) (im : Int) (t6 : Int) (a29 : Int) (vv : Int) (ef : Int) (fh : Option Addr) (ey : Nat) (l0 : Nat) (us : Int) (ba : Int) (j2 : Int) (nr : Int) (zv : Int) (z5 : Int) (gc : Int) (iq : Option Addr) (g2 : Nat) (iw : Nat) (vp : Int), cellsAt b6 (blk a5.heap.size) [.int .i64 d9, .int .i64 im, .int .u64 t6, .int .i64 a29, .int .i64 vv, .int .i64 ef, .slice fh ey l0, .int .u64 us, .int .i64 ba, .int .i64 j2, .int .u64 nr, .int .i64 zv, .int .i64 z5, .int .i64 gc, .slice iq g2 iw, .int .u64 vp] 0 ∧
 Calls Try.prog 14 #[.pointer ag, .int .u64 ae, .agg #[.int .i64 d9, .int .i64 im, .int .u64 t6, .int .i64 a29, .int .i64 vv, .int .i64 ef, .slice fh ey l0, .int .u64 us, .int .i64 ba, .int .i64 j2, .int .u64 nr, .int .i64 zv, .int .i64 z5, .int .i64 gc, .slice iq g2 iw, .int .u64 vp]] b6 fun bm1 as5 => ∃ (a25 : Int), bm1 = .returned (.int .i64 a25) ∧
 bif a25 == 0 then (
 bif decide ((ac : Int) > 0) then (
 Calls Try.prog 5 #[] as5 fun bo4 bs7 => ∃ (ua : Bool), bo4 = .returned (.bool ua) ∧
 R (.bool ua) bs7) else (
 R (.bool false) as5)) else (
 R (.bool false) as5)) else (
 Calls Try.prog 12 #[.pointer ad] b6 fun br2 bq6 => ∃ (af1 : Option Addr) (a90 : Nat) (ap3 : Nat), br2 = .returned (.slice af1 a90 ap3) ∧
 Calls Try.prog 12 #[.pointer ad] bq6 fun bs5 bn3 => ∃ (ah3 : Option Addr) (ag9 : Nat) (ah4 : Nat), bs5 = .returned (.slice ah3 ag9 ah4) ∧
 Calls Try.prog 11 #[.slice af1 a90 ap3, .slice ah3 ag9 ah4] bn3 fun bo6 a6 => ∃ (il : Int) (t5 : Int) (a52 : Int) (al6 : Int) (af3 : Int) (p7 : Int) (ou : Option Addr) (tp : Nat) (mq : Nat) (aa4 : Int) (fc : Int) (sa : Int) (a37 : Int) (ai0 : Int) (ag4 : Int) (sy : Int) (n1 : Option Addr) (mf : Nat) (tt : Nat) (ak7 : Int) (an8 : Bool), bo6 = .returned (.tuple #[.agg #[.int .i64 il, .int .i64 t5, .int .u64 a52, .int .i64 al6, .int .i64 af3, .int .i64 p7, .slice ou tp mq, .int .u64 aa4, .int .i64 fc, .int .i64 sa, .int .u64 a37, .int .i64 ai0, .int .i64 ag4, .int .i64 sy, .slice n1 mf tt, .int .u64 ak7], .bool an8]) ∧
 thenW (a6.alloc (.cells #[.int .i64 0, .int .i64 0, .int .u64 0, .int .i64 0, .int .i64 0, .int .i64 0, .slice none 0 0, .int .u64 0, .int .i64 0, .int .i64 0, .int .u64 0, .int .i64 0, .int .i64 0, .int .i64 0, .slice none 0 0, .int .u64 0] 44)) fun b99 =>
 canStore b99 ((blk a6.heap.size).add 0) ∧
 thenW (b99.setCell ((blk a6.heap.size).add 0) (.int .i64 il)) fun bb6 =>
 canStore bb6 ((blk a6.heap.size).add 1) ∧
 thenW (bb6.setCell ((blk a6.heap.size).add 1) (.int .i64 t5)) fun bg0 =>
 canStore bg0 ((blk a6.heap.size).add 2) ∧
 thenW (bg0.setCell ((blk a6.heap.size).add 2) (.int .u64 a52)) fun b88 =>
 canStore b88 ((blk a6.heap.size).add 3) ∧
 thenW (b88.setCell ((blk a6.heap.size).add 3) (.int .i64 al6)) fun ba3 =>
 canStore ba3 ((blk a6.heap.size).add 4) ∧
 thenW (ba3.setCell ((blk a6.heap.size).add 4) (.int .i64 af3)) fun b86 =>
 canStore b86 ((blk a6.heap.size).add 5) ∧
 thenW (b86.setCell ((blk a6.heap.size).add 5) (.int .i64 p7)) fun b59 =>
 canStore b59 ((blk a6.heap.size).add 6) ∧
 thenW (b59.setCell ((blk a6.heap.size).add 6) (.slice ou tp mq)) fun bb0 =>
 canStore bb0 ((blk a6.heap.size).add 7) ∧
 thenW (bb0.setCell ((blk a6.heap.size).add 7) (.int .u64 aa4)) fun b36 =>
 canStore b36 ((blk a6.heap.size).add 8) ∧
 thenW (b36.setCell ((blk a6.heap.size).add 8) (.int .i64 fc)) fun bc9 =>
 canStore bc9 ((blk a6.heap.size).add 9) ∧
 thenW (bc9.setCell ((blk a6.heap.size).add 9) (.int .i64 sa)) fun bb2 =>
 canStore bb2 ((blk a6.heap.size).add 10) ∧
 thenW (bb2.setCell ((blk a6.heap.size).add 10) (.int .u64 a37)) fun b54 =>
 canStore b54 ((blk a6.heap.size).add 11) ∧
 thenW (b54.setCell ((blk a6.heap.size).add 11) (.int .i64 ai0)) fun b44 =>
 canStore b44 ((blk a6.heap.size).add 12) ∧
 thenW (b44.setCell ((blk a6.heap.size).add 12) (.int .i64 ag4)) fun bh0 =>
 canStore bh0 ((blk a6.heap.size).add 13) ∧
 thenW (bh0.setCell ((blk a6.heap.size).add 13) (.int .i64 sy)) fun ba9 =>
 canStore ba9 ((blk a6.heap.size).add 14) ∧
 thenW (ba9.setCell ((blk a6.heap.size).add 14) (.slice n1 mf tt)) fun bg5 =>
 canStore bg5 ((blk a6.heap.size).add 15) ∧
 thenW (bg5.setCell ((blk a6.heap.size).add 15) (.int .u64 ak7)) fun au5 =>
 bif !an8 then (
 ∃ (b8 : Int) (ke : Int) (o2 : Int) (xw : Int) (yg : Int) (gi : Int) (ly : Option Addr) (ir : Nat) (jn : Nat) (vw : Int) (c1 : Int) (m5 : Int) (sm : Int) (xk : Int) (xq : Int) (ik : Int) (i5 : Option Addr) (ei : Nat) (fo : Nat) (a02 : Int), cellsAt au5 (blk a6.heap.size) [.int .i64 b8, .int .i64 ke, .int .u64 o2, .int .i64 xw, .int .i64 yg, .int .i64 gi, .slice ly ir jn, .int .u64 vw, .int .i64 c1, .int .i64 m5, .int .u64 sm, .int .i64 xk, .int .i64 xq, .int .i64 ik, .slice i5 ei fo, .int .u64 a02] 0 ∧
 Calls Try.prog 16 #[.agg #[.int .i64 b8, .int .i64 ke, .int .u64 o2, .int .i64 xw, .int .i64 yg, .int .i64 gi, .slice ly ir jn, .int .u64 vw, .int .i64 c1, .int .i64 m5, .int .u64 sm, .int .i64 xk, .int .i64 xq, .int .i64 ik, .slice i5 ei fo, .int .u64 a02]] au5 fun by8 bp7 => ∃ (fb : Int) (p2 : Int) (zo : Int) (am3 : Int) (a82 : Int) (t9 : Int) (qr : Option Addr) (qf : Nat) (qd : Nat) (a97 : Int) (e9 : Int) (n7 : Int) (ya : Int) (ac9 : Int) (am2 : Int) (ot : Int) (mw : Option Addr) (nj : Nat) (oi : Nat) (aa6 : Int), by8 = .returned (.agg #[.int .i64 fb, .int .i64 p2, .int .u64 zo, .int .i64 am3, .int .i64 a82, .int .i64 t9, .slice qr qf qd, .int .u64 a97, .int .i64 e9, .int .i64 n7, .int .u64 ya, .int .i64 ac9, .int .i64 am2, .int .i64 ot, .slice mw nj oi, .int .u64 aa6]) ∧
 Calls Try.prog 15 #[.agg #[.int .i64 fb, .int .i64 p2, .int .u64 zo, .int .i64 am3, .int .i64 a82, .int .i64 t9, .slice qr qf qd, .int .u64 a97, .int .i64 e9, .int .i64 n7, .int .u64 ya, .int .i64 ac9, .int .i64 am2, .int .i64 ot, .slice mw nj oi, .int .u64 aa6], .agg #[.int .i64 0, .int .i64 0, .int .u64 0, .int .i64 0, .int .i64 0, .int .i64 0, .slice none 0 0, .int .u64 0, .int .i64 0, .int .i64 0, .int .u64 0, .int .i64 0, .int .i64 0, .int .i64 0, .slice none 0 0, .int .u64 0]] bp7 fun bp6 bf0 => ∃ (aj6 : Bool), bp6 = .returned (.bool aj6) ∧
 bif aj6 then (
 Calls Try.prog 5 #[] bf0 fun by6 bw4 => ∃ (zl : Bool), by6 = .returned (.bool zl) ∧
 R (.bool zl) bw4) else (
 R (.bool false) bf0)) else (
 R (.bool false) au5)))) else (
 bif ar then (
 ∃ (cx : Int) (lc : Int) (nk : Int) (uy : Int) (xd : Int) (i0 : Int) (jq : Option Addr) (lq : Nat) (gy : Nat) (a35 : Int) (bg : Int) (lt : Int) (sc : Int) (y5 : Int) (zh : Int) (ki : Int) (m0 : Option Addr) (eh : Nat) (g6 : Nat) (a05 : Int), cellsAt cp (blk a5.heap.size) [.int .i64 cx, .int .i64 lc, .int .u64 nk, .int .i64 uy, .int .i64 xd, .int .i64 i0, .slice jq lq gy, .int .u64 a35, .int .i64 bg, .int .i64 lt, .int .u64 sc, .int .i64 y5, .int .i64 zh, .int .i64 ki, .slice m0 eh g6, .int .u64 a05] 0 ∧
 Calls Try.prog 14 #[.pointer ag, .int .u64 ae, .agg #[.int .i64 cx, .int .i64 lc, .int .u64 nk, .int .i64 uy, .int .i64 xd, .int .i64 i0, .slice jq lq gy, .int .u64 a35, .int .i64 bg, .int .i64 lt, .int .u64 sc, .int .i64 y5, .int .i64 zh, .int .i64 ki, .slice m0 eh g6, .int .u64 a05]] cp fun br4 ax4 => ∃ (zt : Int), br4 = .returned (.int .i64 zt) ∧
 bif zt == 0 then (
 bif decide ((ac : Int) > 0) then (
 Calls Try.prog 5 #[] ax4 fun bu8 bq8 => ∃ (a21 : Bool), bu8 = .returned (.bool a21) ∧
 R (.bool a21) bq8) else (
 R (.bool false) ax4)) else (
 R (.bool false) ax4)) else (
 Calls Try.prog 12 #[.pointer ad] cp fun bv0 bu4 => ∃ (ac4 : Option Addr) (ap1 : Nat) (ap0 : Nat), bv0 = .returned (.slice ac4 ap1 ap0) ∧
 Calls Try.prog 12 #[.pointer ad] bu4 fun br3 bm3 => ∃ (ai3 : Option Addr) (ae9 : Nat) (am5 : Nat), br3 = .returned (.slice ai3 ae9 am5) ∧
 Calls Try.prog 11 #[.slice ac4 ap1 ap0, .slice ai3 ae9 am5] bm3 fun bv2 a8 => ∃ (jm : Int) (ph : Int) (x2 : Int) (an9 : Int) (a78 : Int) (qq : Int) (mz : Option Addr) (u0 : Nat) (ov : Nat) (a76 : Int) (g5 : Int) (u5 : Int) (vz : Int) (ae1 : Int) (ad4 : Int) (mv : Int) (ok : Option Addr) (tk : Nat) (ml : Nat) (ak9 : Int) (a77 : Bool), bv2 = .returned (.tuple #[.agg #[.int .i64 jm, .int .i64 ph, .int .u64 x2, .int .i64 an9, .int .i64 a78, .int .i64 qq, .slice mz u0 ov, .int .u64 a76, .int .i64 g5, .int .i64 u5, .int .u64 vz, .int .i64 ae1, .int .i64 ad4, .int .i64 mv, .slice ok tk ml, .int .u64 ak9], .bool a77]) ∧
 thenW (a8.alloc (.cells #[.int .i64 0, .int .i64 0, .int .u64 0, .int .i64 0, .int .i64 0, .int .i64 0, .slice none 0 0, .int .u64 0, .int .i64 0, .int .i64 0, .int .u64 0, .int .i64 0, .int .i64 0, .int .i64 0, .slice none 0 0, .int .u64 0] 44)) fun bb7 =>
 canStore bb7 ((blk a8.heap.size).add 0) ∧
 thenW (bb7.setCell ((blk a8.heap.size).add 0) (.int .i64 jm)) fun bg3 =>
 canStore bg3 ((blk a8.heap.size).add 1) ∧
 thenW (bg3.setCell ((blk a8.heap.size).add 1) (.int .i64 ph)) fun b32 =>
 canStore b32 ((blk a8.heap.size).add 2) ∧
 thenW (b32.setCell ((blk a8.heap.size).add 2) (.int .u64 x2)) fun be8 =>
 canStore be8 ((blk a8.heap.size).add 3) ∧
 thenW (be8.setCell ((blk a8.heap.size).add 3) (.int .i64 an9)) fun bf7 =>
 canStore bf7 ((blk a8.heap.size).add 4) ∧
 thenW (bf7.setCell ((blk a8.heap.size).add 4) (.int .i64 a78)) fun b20 =>
 canStore b20 ((blk a8.heap.size).add 5) ∧
 thenW (b20.setCell ((blk a8.heap.size).add 5) (.int .i64 qq)) fun bc8 =>
 canStore bc8 ((blk a8.heap.size).add 6) ∧
 thenW (bc8.setCell ((blk a8.heap.size).add 6) (.slice mz u0 ov)) fun bb8 =>
 canStore bb8 ((blk a8.heap.size).add 7) ∧
 thenW (bb8.setCell ((blk a8.heap.size).add 7) (.int .u64 a76)) fun b63 =>
 canStore b63 ((blk a8.heap.size).add 8) ∧
 thenW (b63.setCell ((blk a8.heap.size).add 8) (.int .i64 g5)) fun b26 =>
 canStore b26 ((blk a8.heap.size).add 9) ∧
 thenW (b26.setCell ((blk a8.heap.size).add 9) (.int .i64 u5)) fun bd3 =>
 canStore bd3 ((blk a8.heap.size).add 10) ∧
 thenW (bd3.setCell ((blk a8.heap.size).add 10) (.int .u64 vz)) fun b10 =>
 canStore b10 ((blk a8.heap.size).add 11) ∧
 thenW (b10.setCell ((blk a8.heap.size).add 11) (.int .i64 ae1)) fun b79 =>
 canStore b79 ((blk a8.heap.size).add 12) ∧
 thenW (b79.setCell ((blk a8.heap.size).add 12) (.int .i64 ad4)) fun b85 =>
 canStore b85 ((blk a8.heap.size).add 13) ∧
 thenW (b85.setCell ((blk a8.heap.size).add 13) (.int .i64 mv)) fun b50 =>
 canStore b50 ((blk a8.heap.size).add 14) ∧
 thenW (b50.setCell ((blk a8.heap.size).add 14) (.slice ok tk ml)) fun bd7 =>
 canStore bd7 ((blk a8.heap.size).add 15) ∧
 thenW (bd7.setCell ((blk a8.heap.size).add 15) (.int .u64 ak9)) fun au6 =>
 bif !a77 then (
 ∃ (dg : Int) (f9 : Int) (qn : Int) (zs : Int) (a49 : Int) (fu : Int) (ez : Option Addr) (gj : Nat) (gf : Nat) (vb : Int) (bb : Int) (i1 : Int) (pr : Int) (ug : Int) (a50 : Int) (f8 : Int) (l3 : Option Addr) (j5 : Nat) (f1 : Nat) (xn : Int), cellsAt au6 (blk a8.heap.size) [.int .i64 dg, .int .i64 f9, .int .u64 qn, .int .i64 zs, .int .i64 a49, .int .i64 fu, .slice ez gj gf, .int .u64 vb, .int .i64 bb, .int .i64 i1, .int .u64 pr, .int .i64 ug, .int .i64 a50, .int .i64 f8, .slice l3 j5 f1, .int .u64 xn] 0 ∧
 Calls Try.prog 16 #[.agg #[.int .i64 dg, .int .i64 f9, .int .u64 qn, .int .i64 zs, .int .i64 a49, .int .i64 fu, .slice ez gj gf, .int .u64 vb, .int .i64 bb, .int .i64 i1, .int .u64 pr, .int .i64 ug, .int .i64 a50, .int .i64 f8, .slice l3 j5 f1, .int .u64 xn]] au6 fun bw2 br0 => ∃ (ih : Int) (t2 : Int) (vo : Int) (a92 : Int) (ae7 : Int) (se : Int) (pt : Option Addr) (s9 : Nat) (q4 : Nat) (al9 : Int) (gz : Int) (pd : Int) (vm : Int) (aa9 : Int) (ad9 : Int) (ql : Int) (su : Option Addr) (n5 : Nat) (px : Nat) (ab4 : Int), bw2 = .returned (.agg #[.int .i64 ih, .int .i64 t2, .int .u64 vo, .int .i64 a92, .int .i64 ae7, .int .i64 se, .slice pt s9 q4, .int .u64 al9, .int .i64 gz, .int .i64 pd, .int .u64 vm, .int .i64 aa9, .int .i64 ad9, .int .i64 ql, .slice su n5 px, .int .u64 ab4]) ∧
 Calls Try.prog 15 #[.agg #[.int .i64 ih, .int .i64 t2, .int .u64 vo, .int .i64 a92, .int .i64 ae7, .int .i64 se, .slice pt s9 q4, .int .u64 al9, .int .i64 gz, .int .i64 pd, .int .u64 vm, .int .i64 aa9, .int .i64 ad9, .int .i64 ql, .slice su n5 px, .int .u64 ab4], .agg #[.int .i64 0, .int .i64 0, .int .u64 0, .int .i64 0, .int .i64 0, .int .i64 0, .slice none 0 0, .int .u64 0, .int .i64 0, .int .i64 0, .int .u64 0, .int .i64 0, .int .i64 0, .int .i64 0, .slice none 0 0, .int .u64 0]] br0 fun bs6 bd2 => ∃ (ab9 : Bool), bs6 = .returned (.bool ab9) ∧
 bif ab9 then (
 Calls Try.prog 5 #[] bd2 fun bq4 bq7 => ∃ (a11 : Bool), bq4 = .returned (.bool a11) ∧
 R (.bool a11) bq7) else (
 R (.bool false) bd2)) else (
 R (.bool false) au6)))) else (
 bif ar then (
 ∃ (bj : Int) (jb : Int) (n4 : Int) (a22 : Int) (z2 : Int) (kw : Int) (fd : Option Addr) (jx : Nat) (ix : Nat) (yp : Int) (df : Int) (eo : Int) (pc : Int) (a31 : Int) (zb : Int) (je : Int) (kq : Option Addr) (g4 : Nat) (fl : Nat) (x3 : Int), cellsAt cp (blk a5.heap.size) [.int .i64 bj, .int .i64 jb, .int .u64 n4, .int .i64 a22, .int .i64 z2, .int .i64 kw, .slice fd jx ix, .int .u64 yp, .int .i64 df, .int .i64 eo, .int .u64 pc, .int .i64 a31, .int .i64 zb, .int .i64 je, .slice kq g4 fl, .int .u64 x3] 0 ∧
 Calls Try.prog 14 #[.pointer ag, .int .u64 ae, .agg #[.int .i64 bj, .int .i64 jb, .int .u64 n4, .int .i64 a22, .int .i64 z2, .int .i64 kw, .slice fd jx ix, .int .u64 yp, .int .i64 df, .int .i64 eo, .int .u64 pc, .int .i64 a31, .int .i64 zb, .int .i64 je, .slice kq g4 fl, .int .u64 x3]] cp fun bv5 ax5 => ∃ (uz : Int), bv5 = .returned (.int .i64 uz) ∧
 bif uz == 0 then (
 bif decide ((ac : Int) > 0) then (
 Calls Try.prog 5 #[] ax5 fun bx3 bt1 => ∃ (a48 : Bool), bx3 = .returned (.bool a48) ∧
 R (.bool a48) bt1) else (
 R (.bool false) ax5)) else (
 R (.bool false) ax5)) else (
 Calls Try.prog 12 #[.pointer ad] cp fun bv4 bo1 => ∃ (ae2 : Option Addr) (a91 : Nat) (ap9 : Nat), bv4 = .returned (.slice ae2 a91 ap9) ∧
 Calls Try.prog 12 #[.pointer ad] bo1 fun bn5 bn2 => ∃ (ak2 : Option Addr) (an7 : Nat) (ae4 : Nat), bn5 = .returned (.slice ak2 an7 ae4) ∧
 Calls Try.prog 11 #[.slice ae2 a91 ap9, .slice ak2 an7 ae4] bn2 fun br9 aa => ∃ (eg : Int) (sv : Int) (vx : Int) (ad0 : Int) (am6 : Int) (p5 : Int) (oz : Option Addr) (sr : Nat) (nf : Nat) (ak5 : Int) (iz : Int) (po : Int) (zq : Int) (ai8 : Int) (a75 : Int) (tj : Int) (te : Option Addr) (sj : Nat) (pj : Nat) (a81 : Int) (ap2 : Bool), br9 = .returned (.tuple #[.agg #[.int .i64 eg, .int .i64 sv, .int .u64 vx, .int .i64 ad0, .int .i64 am6, .int .i64 p5, .slice oz sr nf, .int .u64 ak5, .int .i64 iz, .int .i64 po, .int .u64 zq, .int .i64 ai8, .int .i64 a75, .int .i64 tj, .slice te sj pj, .int .u64 a81], .bool ap2]) ∧
 thenW (aa.alloc (.cells #[.int .i64 0, .int .i64 0, .int .u64 0, .int .i64 0, .int .i64 0, .int .i64 0, .slice none 0 0, .int .u64 0, .int .i64 0, .int .i64 0, .int .u64 0, .int .i64 0, .int .i64 0, .int .i64 0, .slice none 0 0, .int .u64 0] 44)) fun b48 =>
 canStore b48 ((blk aa.heap.size).add 0) ∧
 thenW (b48.setCell ((blk aa.heap.size).add 0) (.int .i64 eg)) fun ba1 =>
 canStore ba1 ((blk aa.heap.size).add 1) ∧
 thenW (ba1.setCell ((blk aa.heap.size).add 1) (.int .i64 sv)) fun b45 =>
 canStore b45 ((blk aa.heap.size).add 2) ∧
 thenW (b45.setCell ((blk aa.heap.size).add 2) (.int .u64 vx)) fun bb3 =>
 canStore bb3 ((blk aa.heap.size).add 3) ∧
 thenW (bb3.setCell ((blk aa.heap.size).add 3) (.int .i64 ad0)) fun b87 =>
 canStore b87 ((blk aa.heap.size).add 4) ∧
 thenW (b87.setCell ((blk aa.heap.size).add 4) (.int .i64 am6)) fun b30 =>
 canStore b30 ((blk aa.heap.size).add 5) ∧
 thenW (b30.setCell ((blk aa.heap.size).add 5) (.int .i64 p5)) fun b03 =>
 canStore b03 ((blk aa.heap.size).add 6) ∧
 thenW (b03.setCell ((blk aa.heap.size).add 6) (.slice oz sr nf)) fun ba5 =>
 canStore ba5 ((blk aa.heap.size).add 7) ∧
 thenW (ba5.setCell ((blk aa.heap.size).add 7) (.int .u64 ak5)) fun bc5 =>
 canStore bc5 ((blk aa.heap.size).add 8) ∧
 thenW (bc5.setCell ((blk aa.heap.size).add 8) (.int .i64 iz)) fun b29 =>
 canStore b29 ((blk aa.heap.size).add 9) ∧
 thenW (b29.setCell ((blk aa.heap.size).add 9) (.int .i64 po)) fun bd0 =>
 canStore bd0 ((blk aa.heap.size).add 10) ∧
 thenW (bd0.setCell ((blk aa.heap.size).add 10) (.int .u64 zq)) fun bg9 =>
 canStore bg9 ((blk aa.heap.size).add 11) ∧
 thenW (bg9.setCell ((blk aa.heap.size).add 11) (.int .i64 ai8)) fun ba8 =>
 canStore ba8 ((blk aa.heap.size).add 12) ∧
 thenW (ba8.setCell ((blk aa.heap.size).add 12) (.int .i64 a75)) fun b35 =>
 canStore b35 ((blk aa.heap.size).add 13) ∧
 thenW (b35.setCell ((blk aa.heap.size).add 13) (.int .i64 tj)) fun b55 =>
 canStore b55 ((blk aa.heap.size).add 14) ∧
 thenW (b55.setCell ((blk aa.heap.size).add 14) (.slice te sj pj)) fun b67 =>
 canStore b67 ((blk aa.heap.size).add 15) ∧
 thenW (b67.setCell ((blk aa.heap.size).add 15) (.int .u64 a81)) fun at2 =>
 bif !ap2 then (
 ∃ (dp : Int) (jl : Int) (o3 : Int) (yc : Int) (yb : Int) (gw : Int) (kc : Option Addr) (jg : Nat) (gm : Nat) (xo : Int) (cu : Int) (gl : Int) (pz : Int) (v3 : Int) (xz : Int) (ip : Int) (ie : Option Addr) (m4 : Nat) (kz : Nat) (a03 : Int), cellsAt at2 (blk aa.heap.size) [.int .i64 dp, .int .i64 jl, .int .u64 o3, .int .i64 yc, .int .i64 yb, .int .i64 gw, .slice kc jg gm, .int .u64 xo, .int .i64 cu, .int .i64 gl, .int .u64 pz, .int .i64 v3, .int .i64 xz, .int .i64 ip, .slice ie m4 kz, .int .u64 a03] 0 ∧
 Calls Try.prog 16 #[.agg #[.int .i64 dp, .int .i64 jl, .int .u64 o3, .int .i64 yc, .int .i64 yb, .int .i64 gw, .slice kc jg gm, .int .u64 xo, .int .i64 cu, .int .i64 gl, .int .u64 pz, .int .i64 v3, .int .i64 xz, .int .i64 ip, .slice ie m4 kz, .int .u64 a03]] at2 fun bt7 bs0 => ∃ (kr : Int) (sb : Int) (xp : Int) (ao4 : Int) (am1 : Int) (qv : Int) (mh : Option Addr) (nu : Nat) (si : Nat) (a88 : Int) (f5 : Int) (t0 : Int) (a58 : Int) (aa2 : Int) (ao7 : Int) (sl : Int) (t4 : Option Addr) (nx : Nat) (q3 : Nat) (ai2 : Int), bt7 = .returned (.agg #[.int .i64 kr, .int .i64 sb, .int .u64 xp, .int .i64 ao4, .int .i64 am1, .int .i64 qv, .slice mh nu si, .int .u64 a88, .int .i64 f5, .int .i64 t0, .int .u64 a58, .int .i64 aa2, .int .i64 ao7, .int .i64 sl, .slice t4 nx q3, .int .u64 ai2]) ∧
 Calls Try.prog 15 #[.agg #[.int .i64 kr, .int .i64 sb, .int .u64 xp, .int .i64 ao4, .int .i64 am1, .int .i64 qv, .slice mh nu si, .int .u64 a88, .int .i64 f5, .int .i64 t0, .int .u64 a58, .int .i64 aa2, .int .i64 ao7, .int .i64 sl, .slice t4 nx q3, .int .u64 ai2], .agg #[.int .i64 0, .int .i64 0, .int .u64 0, .int .i64 0, .int .i64 0, .int .i64 0, .slice none 0 0, .int .u64 0, .int .i64 0, .int .i64 0, .int .u64 0, .int .i64 0, .int .i64 0, .int .i64 0, .slice none 0 0, .int .u64 0]] bs0 fun bt2 b53 => ∃ (a94 : Bool), bt2 = .returned (.bool a94) ∧
 bif a94 then (
 Calls Try.prog 5 #[] b53 fun bq9 br5 => ∃ (vn : Bool), bq9 = .returned (.bool vn) ∧
 R (.bool vn) br5) else (
 R (.bool false) b53)) else (
 R (.bool false) at2)))))) else (
 ∃ (I4 : Nat → List Value → World → Prop) (bz8 : Nat), I4 bz8 [.int .i64 0] aq3 ∧ ∀ (bw7 : Nat) (a80 : World) (a67 : Int), I4 bw7 [.int .i64 a67] a80 →
 bif decide (a67 < (ac : Int)) then (
 jy.elim False fun bz5 =>
 0 ≤ (a67 : Int) ∧ (a67 : Int) < (ac : Int) ∧
 ∃ (xx : Option Addr) (v4 : Nat) (a39 : Nat), a80.cell? ((bz5.add (Int.toNat a67 * 14)).add 3) = some (.slice xx v4 a39) ∧
 Calls Try.prog 9 #[.pointer aw, .int .u64 b0, .agg #[.int .i64 (IntKind.i64.wrap ((100 : Int) + a67)), .int .i64 1], .int .i64 0, .slice xx v4 a39] a80 fun by0 bt6 => ∃ (aq2 : Int) (au1 : Int) (az4 : Int) (bk0 : Int) (bi3 : Int) (at5 : Int) (aw3 : Option Addr) (aw6 : Nat) (az0 : Nat) (bj1 : Int) (aw4 : Int), by0 = .returned (.tuple #[.agg #[.int .i64 aq2, .int .i64 au1, .int .u64 az4, .int .i64 bk0, .int .i64 bi3, .int .i64 at5, .slice aw3 aw6 az0, .int .u64 bj1], .int .i64 aw4]) ∧
 ∃ bw9, bw9 < bw7 ∧ I4 bw9 [.int .i64 (IntKind.i64.wrap (a67 + 1))] bt6) else (
 Calls Try.prog 12 #[.pointer ad] a80 fun bp3 bu3 => ∃ (aa0 : Option Addr) (ah8 : Nat) (ae3 : Nat), bp3 = .returned (.slice aa0 ah8 ae3) ∧
 Calls Try.prog 12 #[.pointer aw] bu3 fun bn7 bx9 => ∃ (ad8 : Option Addr) (af6 : Nat) (a85 : Nat), bn7 = .returned (.slice ad8 af6 a85) ∧
 Calls Try.prog 11 #[.slice aa0 ah8 ae3, .slice ad8 af6 a85] bx9 fun bq5 a4 => ∃ (kl : Int) (pp : Int) (ze : Int) (ac2 : Int) (af8 : Int) (u4 : Int) (s1 : Option Addr) (qy : Nat) (qg : Nat) (al2 : Int) (m1 : Int) (qb : Int) (ue : Int) (ab0 : Int) (aa3 : Int) (ob : Int) (ny : Option Addr) (qa : Nat) (nd : Nat) (an5 : Int) (ay : Bool), bq5 = .returned (.tuple #[.agg #[.int .i64 kl, .int .i64 pp, .int .u64 ze, .int .i64 ac2, .int .i64 af8, .int .i64 u4, .slice s1 qy qg, .int .u64 al2, .int .i64 m1, .int .i64 qb, .int .u64 ue, .int .i64 ab0, .int .i64 aa3, .int .i64 ob, .slice ny qa nd, .int .u64 an5], .bool ay]) ∧
 thenW (a4.alloc (.cells #[.int .i64 0, .int .i64 0, .int .u64 0, .int .i64 0, .int .i64 0, .int .i64 0, .slice none 0 0, .int .u64 0, .int .i64 0, .int .i64 0, .int .u64 0, .int .i64 0, .int .i64 0, .int .i64 0, .slice none 0 0, .int .u64 0] 44)) fun bc0 =>
 canStore bc0 ((blk a4.heap.size).add 0) ∧
 thenW (bc0.setCell ((blk a4.heap.size).add 0) (.int .i64 kl)) fun b83 =>
 canStore b83 ((blk a4.heap.size).add 1) ∧
 thenW (b83.setCell ((blk a4.heap.size).add 1) (.int .i64 pp)) fun b08 =>
 canStore b08 ((blk a4.heap.size).add 2) ∧
 thenW (b08.setCell ((blk a4.heap.size).add 2) (.int .u64 ze)) fun ba4 =>
 canStore ba4 ((blk a4.heap.size).add 3) ∧
 thenW (ba4.setCell ((blk a4.heap.size).add 3) (.int .i64 ac2)) fun bc3 =>
 canStore bc3 ((blk a4.heap.size).add 4) ∧
 thenW (bc3.setCell ((blk a4.heap.size).add 4) (.int .i64 af8)) fun b84 =>
 canStore b84 ((blk a4.heap.size).add 5) ∧
 thenW (b84.setCell ((blk a4.heap.size).add 5) (.int .i64 u4)) fun b56 =>
 canStore b56 ((blk a4.heap.size).add 6) ∧
 thenW (b56.setCell ((blk a4.heap.size).add 6) (.slice s1 qy qg)) fun b18 =>
 canStore b18 ((blk a4.heap.size).add 7) ∧
 thenW (b18.setCell ((blk a4.heap.size).add 7) (.int .u64 al2)) fun b12 =>
 canStore b12 ((blk a4.heap.size).add 8) ∧
 thenW (b12.setCell ((blk a4.heap.size).add 8) (.int .i64 m1)) fun b81 =>
 canStore b81 ((blk a4.heap.size).add 9) ∧
 thenW (b81.setCell ((blk a4.heap.size).add 9) (.int .i64 qb)) fun bf9 =>
 canStore bf9 ((blk a4.heap.size).add 10) ∧
 thenW (bf9.setCell ((blk a4.heap.size).add 10) (.int .u64 ue)) fun be7 =>
 canStore be7 ((blk a4.heap.size).add 11) ∧
 thenW (be7.setCell ((blk a4.heap.size).add 11) (.int .i64 ab0)) fun b76 =>
 canStore b76 ((blk a4.heap.size).add 12) ∧
 thenW (b76.setCell ((blk a4.heap.size).add 12) (.int .i64 aa3)) fun b52 =>
 canStore b52 ((blk a4.heap.size).add 13) ∧
 thenW (b52.setCell ((blk a4.heap.size).add 13) (.int .i64 ob)) fun bb4 =>
 canStore bb4 ((blk a4.heap.size).add 14) ∧
 thenW (bb4.setCell ((blk a4.heap.size).add 14) (.slice ny qa nd)) fun b46 =>
 canStore b46 ((blk a4.heap.size).add 15) ∧
 thenW (b46.setCell ((blk a4.heap.size).add 15) (.int .u64 an5)) fun br =>
 bif decide (ah ≥ 0) then (
 bif decide (ah < (md : Int)) then (
 l1a.elim False fun c19 =>
 0 ≤ (ah : Int) ∧ (ah : Int) < (md : Int) ∧
 ∃ (y3 : Option Addr) (zi : Nat) (a24 : Nat), br.cell? ((c19.add (Int.toNat ah * 14)).add 3) = some (.slice y3 zi a24) ∧
 Calls Try.prog 13 #[.slice u7 et u6, .slice y3 zi a24] br fun bn6 e1 => ∃ (ah7 : Bool), bn6 = .returned (.bool ah7) ∧
 bif !ah7 then (
 bif ay then (
 ∃ (z8 : Int), e1.cell? (((blk a4.heap.size).add 0).add 1) = some (.int .i64 z8) ∧
 bif z8 == ah then (
 ∃ (cm : Int) (gr : Int) (pf : Int) (a00 : Int) (uu : Int) (fw : Int) (en : Option Addr) (ku : Nat) (iu : Nat) (ud : Int) (cy : Int) (gp : Int) (ps : Int) (a44 : Int) (zp : Int) (m9 : Int) (lx : Option Addr) (g8 : Nat) (eu : Nat) (y9 : Int), cellsAt e1 (blk a4.heap.size) [.int .i64 cm, .int .i64 gr, .int .u64 pf, .int .i64 a00, .int .i64 uu, .int .i64 fw, .slice en ku iu, .int .u64 ud, .int .i64 cy, .int .i64 gp, .int .u64 ps, .int .i64 a44, .int .i64 zp, .int .i64 m9, .slice lx g8 eu, .int .u64 y9] 0 ∧
 Calls Try.prog 14 #[.pointer ag, .int .u64 ae, .agg #[.int .i64 cm, .int .i64 gr, .int .u64 pf, .int .i64 a00, .int .i64 uu, .int .i64 fw, .slice en ku iu, .int .u64 ud, .int .i64 cy, .int .i64 gp, .int .u64 ps, .int .i64 a44, .int .i64 zp, .int .i64 m9, .slice lx g8 eu, .int .u64 y9]] e1 fun bm9 b97 => ∃ (vl : Int), bm9 = .returned (.int .i64 vl) ∧
 bif vl == 0 then (
 Calls Try.prog 5 #[] b97 fun bn9 bt3 => ∃ (a36 : Bool), bn9 = .returned (.bool a36) ∧
 R (.bool a36) bt3) else (
 R (.bool false) b97)) else (
 R (.bool false) e1)) else (
 R (.bool false) e1)) else (
 bif ay then (
 ∃ (d4 : Int) (jd : Int) (tx : Int) (xs : Int) (a15 : Int) (li : Int) (fk : Option Addr) (m8 : Nat) (k0 : Nat) (yj : Int) (bn : Int) (k1 : Int) (og : Int) (a38 : Int) (x5 : Int) (kj : Int) (kd : Option Addr) (eq : Nat) (ls : Nat) (ut : Int), cellsAt e1 (blk a4.heap.size) [.int .i64 d4, .int .i64 jd, .int .u64 tx, .int .i64 xs, .int .i64 a15, .int .i64 li, .slice fk m8 k0, .int .u64 yj, .int .i64 bn, .int .i64 k1, .int .u64 og, .int .i64 a38, .int .i64 x5, .int .i64 kj, .slice kd eq ls, .int .u64 ut] 0 ∧
 Calls Try.prog 14 #[.pointer ag, .int .u64 ae, .agg #[.int .i64 d4, .int .i64 jd, .int .u64 tx, .int .i64 xs, .int .i64 a15, .int .i64 li, .slice fk m8 k0, .int .u64 yj, .int .i64 bn, .int .i64 k1, .int .u64 og, .int .i64 a38, .int .i64 x5, .int .i64 kj, .slice kd eq ls, .int .u64 ut]] e1 fun bs1 aw5 => ∃ (a40 : Int), bs1 = .returned (.int .i64 a40) ∧
 bif a40 == 0 then (
 bif decide ((ac : Int) > 0) then (
 Calls Try.prog 5 #[] aw5 fun bx2 bv1 => ∃ (a27 : Bool), bx2 = .returned (.bool a27) ∧
 R (.bool a27) bv1) else (
 R (.bool false) aw5)) else (
 R (.bool false) aw5)) else (
 Calls Try.prog 12 #[.pointer ad] e1 fun br1 bo9 => ∃ (a87 : Option Addr) (ab3 : Nat) (ap7 : Nat), br1 = .returned (.slice a87 ab3 ap7) ∧
 Calls Try.prog 12 #[.pointer ad] bo9 fun bs8 bm8 => ∃ (al7 : Option Addr) (ai9 : Nat) (aj9 : Nat), bs8 = .returned (.slice al7 ai9 aj9) ∧
 Calls Try.prog 11 #[.slice a87 ab3 ap7, .slice al7 ai9 aj9] bm8 fun bl9 ab => ∃ (gk : Int) (qe : Int) (xc : Int) (ao9 : Int) (ak8 : Int) (nq : Int) (np : Option Addr) (st : Nat) (nv : Nat) (aa1 : Int) (fs : Int) (q0 : Int) (v7 : Int) (ac8 : Int) (an3 : Int) (pu : Int) (pw : Option Addr) (th : Nat) (t7 : Nat) (af9 : Int) (ad5 : Bool), bl9 = .returned (.tuple #[.agg #[.int .i64 gk, .int .i64 qe, .int .u64 xc, .int .i64 ao9, .int .i64 ak8, .int .i64 nq, .slice np st nv, .int .u64 aa1, .int .i64 fs, .int .i64 q0, .int .u64 v7, .int .i64 ac8, .int .i64 an3, .int .i64 pu, .slice pw th t7, .int .u64 af9], .bool ad5]) ∧
 thenW (ab.alloc (.cells #[.int .i64 0, .int .i64 0, .int .u64 0, .int .i64 0, .int .i64 0, .int .i64 0, .slice none 0 0, .int .u64 0, .int .i64 0, .int .i64 0, .int .u64 0, .int .i64 0, .int .i64 0, .int .i64 0, .slice none 0 0, .int .u64 0] 44)) fun b61 =>
 canStore b61 ((blk ab.heap.size).add 0) ∧
 thenW (b61.setCell ((blk ab.heap.size).add 0) (.int .i64 gk)) fun bf8 =>
 canStore bf8 ((blk ab.heap.size).add 1) ∧
 thenW (bf8.setCell ((blk ab.heap.size).add 1) (.int .i64 qe)) fun bb1 =>
 canStore bb1 ((blk ab.heap.size).add 2) ∧
 thenW (bb1.setCell ((blk ab.heap.size).add 2) (.int .u64 xc)) fun b72 =>
 canStore b72 ((blk ab.heap.size).add 3) ∧
 thenW (b72.setCell ((blk ab.heap.size).add 3) (.int .i64 ao9)) fun b14 =>
 canStore b14 ((blk ab.heap.size).add 4) ∧
 thenW (b14.setCell ((blk ab.heap.size).add 4) (.int .i64 ak8)) fun b38 =>
 canStore b38 ((blk ab.heap.size).add 5) ∧
 thenW (b38.setCell ((blk ab.heap.size).add 5) (.int .i64 nq)) fun b70 =>
 canStore b70 ((blk ab.heap.size).add 6) ∧
 thenW (b70.setCell ((blk ab.heap.size).add 6) (.slice np st nv)) fun b66 =>
 canStore b66 ((blk ab.heap.size).add 7) ∧
 thenW (b66.setCell ((blk ab.heap.size).add 7) (.int .u64 aa1)) fun b74 =>
 canStore b74 ((blk ab.heap.size).add 8) ∧
 thenW (b74.setCell ((blk ab.heap.size).add 8) (.int .i64 fs)) fun bf6 =>
 canStore bf6 ((blk ab.heap.size).add 9) ∧
 thenW (bf6.setCell ((blk ab.heap.size).add 9) (.int .i64 q0)) fun bg4 =>
 canStore bg4 ((blk ab.heap.size).add 10) ∧
 thenW (bg4.setCell ((blk ab.heap.size).add 10) (.int .u64 v7)) fun b33 =>
 canStore b33 ((blk ab.heap.size).add 11) ∧
 thenW (b33.setCell ((blk ab.heap.size).add 11) (.int .i64 ac8)) fun b43 =>
 canStore b43 ((blk ab.heap.size).add 12) ∧
 thenW (b43.setCell ((blk ab.heap.size).add 12) (.int .i64 an3)) fun b37 =>
 canStore b37 ((blk ab.heap.size).add 13) ∧
 thenW (b37.setCell ((blk ab.heap.size).add 13) (.int .i64 pu)) fun b71 =>
 canStore b71 ((blk ab.heap.size).add 14) ∧
 thenW (b71.setCell ((blk ab.heap.size).add 14) (.slice pw th t7)) fun bc4 =>
 canStore bc4 ((blk ab.heap.size).add 15) ∧
 thenW (bc4.setCell ((blk ab.heap.size).add 15) (.int .u64 af9)) fun av5 =>
 bif !ad5 then (
 ∃ (cz : Int) (gq : Int) (qm : Int) (zk : Int) (a63 : Int) (gn : Int) (g3 : Option Addr) (k2 : Nat) (jk : Nat) (a47 : Int) (bq : Int) (e7 : Int) (u2 : Int) (x8 : Int) (a62 : Int) (lw : Int) (g1 : Option Addr) (fr : Nat) (i8 : Nat) (v0 : Int), cellsAt av5 (blk ab.heap.size) [.int .i64 cz, .int .i64 gq, .int .u64 qm, .int .i64 zk, .int .i64 a63, .int .i64 gn, .slice g3 k2 jk, .int .u64 a47, .int .i64 bq, .int .i64 e7, .int .u64 u2, .int .i64 x8, .int .i64 a62, .int .i64 lw, .slice g1 fr i8, .int .u64 v0] 0 ∧
 Calls Try.prog 16 #[.agg #[.int .i64 cz, .int .i64 gq, .int .u64 qm, .int .i64 zk, .int .i64 a63, .int .i64 gn, .slice g3 k2 jk, .int .u64 a47, .int .i64 bq, .int .i64 e7, .int .u64 u2, .int .i64 x8, .int .i64 a62, .int .i64 lw, .slice g1 fr i8, .int .u64 v0]] av5 fun bm4 br6 => ∃ (lg : Int) (op : Int) (zx : Int) (ad7 : Int) (ah6 : Int) (sf : Int) (oo : Option Addr) (oc : Nat) (mn : Nat) (ag3 : Int) (kx : Int) (nz : Int) (yr : Int) (ap6 : Int) (am9 : Int) (oa : Int) (o0 : Option Addr) (qt : Nat) (n9 : Nat) (al1 : Int), bm4 = .returned (.agg #[.int .i64 lg, .int .i64 op, .int .u64 zx, .int .i64 ad7, .int .i64 ah6, .int .i64 sf, .slice oo oc mn, .int .u64 ag3, .int .i64 kx, .int .i64 nz, .int .u64 yr, .int .i64 ap6, .int .i64 am9, .int .i64 oa, .slice o0 qt n9, .int .u64 al1]) ∧
 Calls Try.prog 15 #[.agg #[.int .i64 lg, .int .i64 op, .int .u64 zx, .int .i64 ad7, .int .i64 ah6, .int .i64 sf, .slice oo oc mn, .int .u64 ag3, .int .i64 kx, .int .i64 nz, .int .u64 yr, .int .i64 ap6, .int .i64 am9, .int .i64 oa, .slice o0 qt n9, .int .u64 al1], .agg #[.int .i64 0, .int .i64 0, .int .u64 0, .int .i64 0, .int .i64 0, .int .i64 0, .slice none 0 0, .int .u64 0, .int .i64 0, .int .i64 0, .int .u64 0, .int .i64 0, .int .i64 0, .int .i64 0, .slice none 0 0, .int .u64 0]] br6 fun by4 bd8 => ∃ (an1 : Bool), by4 = .returned (.bool an1) ∧
 bif an1 then (
 Calls Try.prog 5 #[] bd8 fun bo7 bw0 => ∃ (xi : Bool), bo7 = .returned (.bool xi) ∧
 R (.bool xi) bw0) else (
 R (.bool false) bd8)) else (
 R (.bool false) av5)))) else (
 bif ay then (
 ∃ (ck : Int) (jc : Int) (mj : Int) (a45 : Int) (z0 : Int) (le : Int) (mb : Option Addr) (kp : Nat) (mc : Nat) (ub : Int) (dz : Int) (gh : Int) (ox : Int) (xa : Int) (a65 : Int) (fj : Int) (ek : Option Addr) (jj : Nat) (es : Nat) (uw : Int), cellsAt br (blk a4.heap.size) [.int .i64 ck, .int .i64 jc, .int .u64 mj, .int .i64 a45, .int .i64 z0, .int .i64 le, .slice mb kp mc, .int .u64 ub, .int .i64 dz, .int .i64 gh, .int .u64 ox, .int .i64 xa, .int .i64 a65, .int .i64 fj, .slice ek jj es, .int .u64 uw] 0 ∧
 Calls Try.prog 14 #[.pointer ag, .int .u64 ae, .agg #[.int .i64 ck, .int .i64 jc, .int .u64 mj, .int .i64 a45, .int .i64 z0, .int .i64 le, .slice mb kp mc, .int .u64 ub, .int .i64 dz, .int .i64 gh, .int .u64 ox, .int .i64 xa, .int .i64 a65, .int .i64 fj, .slice ek jj es, .int .u64 uw]] br fun bo0 ar7 => ∃ (zf : Int), bo0 = .returned (.int .i64 zf) ∧
 bif zf == 0 then (
 bif decide ((ac : Int) > 0) then (
 Calls Try.prog 5 #[] ar7 fun bt8 bt5 => ∃ (zj : Bool), bt8 = .returned (.bool zj) ∧
 R (.bool zj) bt5) else (
 R (.bool false) ar7)) else (
 R (.bool false) ar7)) else (
 Calls Try.prog 12 #[.pointer ad] br fun bn1 bm2 => ∃ (ao8 : Option Addr) (ab6 : Nat) (an6 : Nat), bn1 = .returned (.slice ao8 ab6 an6) ∧
 Calls Try.prog 12 #[.pointer ad] bm2 fun bv9 bs4 => ∃ (a83 : Option Addr) (ah9 : Nat) (aj0 : Nat), bv9 = .returned (.slice a83 ah9 aj0) ∧
 Calls Try.prog 11 #[.slice ao8 ab6 an6, .slice a83 ah9 aj0] bs4 fun bu7 a9 => ∃ (gv : Int) (mm : Int) (xj : Int) (af2 : Int) (ag5 : Int) (pi : Int) (tz : Option Addr) (s0 : Nat) (sq : Nat) (ae5 : Int) (la : Int) (oe : Int) (xv : Int) (a86 : Int) (a99 : Int) (n8 : Int) (t3 : Option Addr) (ol : Nat) (tg : Nat) (am4 : Int) (ac5 : Bool), bu7 = .returned (.tuple #[.agg #[.int .i64 gv, .int .i64 mm, .int .u64 xj, .int .i64 af2, .int .i64 ag5, .int .i64 pi, .slice tz s0 sq, .int .u64 ae5, .int .i64 la, .int .i64 oe, .int .u64 xv, .int .i64 a86, .int .i64 a99, .int .i64 n8, .slice t3 ol tg, .int .u64 am4], .bool ac5]) ∧
 thenW (a9.alloc (.cells #[.int .i64 0, .int .i64 0, .int .u64 0, .int .i64 0, .int .i64 0, .int .i64 0, .slice none 0 0, .int .u64 0, .int .i64 0, .int .i64 0, .int .u64 0, .int .i64 0, .int .i64 0, .int .i64 0, .slice none 0 0, .int .u64 0] 44)) fun b95 =>
 canStore b95 ((blk a9.heap.size).add 0) ∧
 thenW (b95.setCell ((blk a9.heap.size).add 0) (.int .i64 gv)) fun bb5 =>
 canStore bb5 ((blk a9.heap.size).add 1) ∧
 thenW (bb5.setCell ((blk a9.heap.size).add 1) (.int .i64 mm)) fun ba0 =>
 canStore ba0 ((blk a9.heap.size).add 2) ∧
 thenW (ba0.setCell ((blk a9.heap.size).add 2) (.int .u64 xj)) fun b96 =>
 canStore b96 ((blk a9.heap.size).add 3) ∧
 thenW (b96.setCell ((blk a9.heap.size).add 3) (.int .i64 af2)) fun bc6 =>
 canStore bc6 ((blk a9.heap.size).add 4) ∧
 thenW (bc6.setCell ((blk a9.heap.size).add 4) (.int .i64 ag5)) fun b93 =>
 canStore b93 ((blk a9.heap.size).add 5) ∧
 thenW (b93.setCell ((blk a9.heap.size).add 5) (.int .i64 pi)) fun b58 =>
 canStore b58 ((blk a9.heap.size).add 6) ∧
 thenW (b58.setCell ((blk a9.heap.size).add 6) (.slice tz s0 sq)) fun be3 =>
 canStore be3 ((blk a9.heap.size).add 7) ∧
 thenW (be3.setCell ((blk a9.heap.size).add 7) (.int .u64 ae5)) fun b89 =>
 canStore b89 ((blk a9.heap.size).add 8) ∧
 thenW (b89.setCell ((blk a9.heap.size).add 8) (.int .i64 la)) fun b24 =>
 canStore b24 ((blk a9.heap.size).add 9) ∧
 thenW (b24.setCell ((blk a9.heap.size).add 9) (.int .i64 oe)) fun b57 =>
 canStore b57 ((blk a9.heap.size).add 10) ∧
 thenW (b57.setCell ((blk a9.heap.size).add 10) (.int .u64 xv)) fun b09 =>
 canStore b09 ((blk a9.heap.size).add 11) ∧
 thenW (b09.setCell ((blk a9.heap.size).add 11) (.int .i64 a86)) fun b47 =>
 canStore b47 ((blk a9.heap.size).add 12) ∧
 thenW (b47.setCell ((blk a9.heap.size).add 12) (.int .i64 a99)) fun b06 =>
 canStore b06 ((blk a9.heap.size).add 13) ∧
 thenW (b06.setCell ((blk a9.heap.size).add 13) (.int .i64 n8)) fun b77 =>
 canStore b77 ((blk a9.heap.size).add 14) ∧
 thenW (b77.setCell ((blk a9.heap.size).add 14) (.slice t3 ol tg)) fun b34 =>
 canStore b34 ((blk a9.heap.size).add 15) ∧
 thenW (b34.setCell ((blk a9.heap.size).add 15) (.int .u64 am4)) fun at4 =>
 bif !ac5 then (
 ∃ (ci : Int) (kn : Int) (oy : Int) (v1 : Int) (zw : Int) (ii : Int) (lr : Option Addr) (ia : Nat) (f2 : Nat) (a26 : Int) (bw : Int) (lh : Int) (sn : Int) (uq : Int) (ym : Int) (js : Int) (m7 : Option Addr) (ff : Nat) (jo : Nat) (x1 : Int), cellsAt at4 (blk a9.heap.size) [.int .i64 ci, .int .i64 kn, .int .u64 oy, .int .i64 v1, .int .i64 zw, .int .i64 ii, .slice lr ia f2, .int .u64 a26, .int .i64 bw, .int .i64 lh, .int .u64 sn, .int .i64 uq, .int .i64 ym, .int .i64 js, .slice m7 ff jo, .int .u64 x1] 0 ∧
 Calls Try.prog 16 #[.agg #[.int .i64 ci, .int .i64 kn, .int .u64 oy, .int .i64 v1, .int .i64 zw, .int .i64 ii, .slice lr ia f2, .int .u64 a26, .int .i64 bw, .int .i64 lh, .int .u64 sn, .int .i64 uq, .int .i64 ym, .int .i64 js, .slice m7 ff jo, .int .u64 x1]] at4 fun by9 bw6 => ∃ (fq : Int) (na : Int) (yx : Int) (ac6 : Int) (a89 : Int) (ti : Int) (mr : Option Addr) (me : Nat) (pq : Nat) (ah1 : Int) (gd : Int) (tb : Int) (uk : Int) (ai6 : Int) (ah2 : Int) (nn : Int) (tv : Option Addr) (pb : Nat) (qh : Nat) (aj8 : Int), by9 = .returned (.agg #[.int .i64 fq, .int .i64 na, .int .u64 yx, .int .i64 ac6, .int .i64 a89, .int .i64 ti, .slice mr me pq, .int .u64 ah1, .int .i64 gd, .int .i64 tb, .int .u64 uk, .int .i64 ai6, .int .i64 ah2, .int .i64 nn, .slice tv pb qh, .int .u64 aj8]) ∧
 Calls Try.prog 15 #[.agg #[.int .i64 fq, .int .i64 na, .int .u64 yx, .int .i64 ac6, .int .i64 a89, .int .i64 ti, .slice mr me pq, .int .u64 ah1, .int .i64 gd, .int .i64 tb, .int .u64 uk, .int .i64 ai6, .int .i64 ah2, .int .i64 nn, .slice tv pb qh, .int .u64 aj8], .agg #[.int .i64 0, .int .i64 0, .int .u64 0, .int .i64 0, .int .i64 0, .int .i64 0, .slice none 0 0, .int .u64 0, .int .i64 0, .int .i64 0, .int .u64 0, .int .i64 0, .int .i64 0, .int .i64 0, .slice none 0 0, .int .u64 0]] bw6 fun bu6 ba7 => ∃ (ai7 : Bool), bu6 = .returned (.bool ai7) ∧
 bif ai7 then (
 Calls Try.prog 5 #[] ba7 fun bt4 bw8 => ∃ (zz : Bool), bt4 = .returned (.bool zz) ∧
 R (.bool zz) bw8) else (
 R (.bool false) ba7)) else (
 R (.bool false) at4)))) else (
 bif ay then (
 ∃ (bf : Int) (fx : Int) (ty : Int) (a46 : Int) (up : Int) (j1 : Int) (f4 : Option Addr) (it : Nat) (ee : Nat) (a06 : Int) (bd : Int) (j0 : Int) (sw : Int) (xf : Int) (y7 : Int) (g7 : Int) (lz : Option Addr) (lj : Nat) (ll : Nat) (a13 : Int), cellsAt br (blk a4.heap.size) [.int .i64 bf, .int .i64 fx, .int .u64 ty, .int .i64 a46, .int .i64 up, .int .i64 j1, .slice f4 it ee, .int .u64 a06, .int .i64 bd, .int .i64 j0, .int .u64 sw, .int .i64 xf, .int .i64 y7, .int .i64 g7, .slice lz lj ll, .int .u64 a13] 0 ∧
 Calls Try.prog 14 #[.pointer ag, .int .u64 ae, .agg #[.int .i64 bf, .int .i64 fx, .int .u64 ty, .int .i64 a46, .int .i64 up, .int .i64 j1, .slice f4 it ee, .int .u64 a06, .int .i64 bd, .int .i64 j0, .int .u64 sw, .int .i64 xf, .int .i64 y7, .int .i64 g7, .slice lz lj ll, .int .u64 a13]] br fun by7 ay6 => ∃ (um : Int), by7 = .returned (.int .i64 um) ∧
 bif um == 0 then (
 bif decide ((ac : Int) > 0) then (
 Calls Try.prog 5 #[] ay6 fun by3 bv8 => ∃ (a10 : Bool), by3 = .returned (.bool a10) ∧
 R (.bool a10) bv8) else (
 R (.bool false) ay6)) else (
 R (.bool false) ay6)) else (
 Calls Try.prog 12 #[.pointer ad] br fun bx5 bn4 => ∃ (am8 : Option Addr) (a84 : Nat) (aj2 : Nat), bx5 = .returned (.slice am8 a84 aj2) ∧
 Calls Try.prog 12 #[.pointer ad] bn4 fun bq1 bn0 => ∃ (ad3 : Option Addr) (af0 : Nat) (ak0 : Nat), bq1 = .returned (.slice ad3 af0 ak0) ∧
 Calls Try.prog 11 #[.slice am8 a84 aj2, .slice ad3 af0 ak0] bn0 fun br7 a7 => ∃ (k4 : Int) (tl : Int) (a32 : Int) (ag8 : Int) (ad1 : Int) (q2 : Int) (p4 : Option Addr) (p3 : Nat) (qu : Nat) (aj5 : Int) (ej : Int) (od : Int) (vu : Int) (ag7 : Int) (an0 : Int) (s6 : Int) (sk : Option Addr) (mg : Nat) (s3 : Nat) (a79 : Int) (aa8 : Bool), br7 = .returned (.tuple #[.agg #[.int .i64 k4, .int .i64 tl, .int .u64 a32, .int .i64 ag8, .int .i64 ad1, .int .i64 q2, .slice p4 p3 qu, .int .u64 aj5, .int .i64 ej, .int .i64 od, .int .u64 vu, .int .i64 ag7, .int .i64 an0, .int .i64 s6, .slice sk mg s3, .int .u64 a79], .bool aa8]) ∧
 thenW (a7.alloc (.cells #[.int .i64 0, .int .i64 0, .int .u64 0, .int .i64 0, .int .i64 0, .int .i64 0, .slice none 0 0, .int .u64 0, .int .i64 0, .int .i64 0, .int .u64 0, .int .i64 0, .int .i64 0, .int .i64 0, .slice none 0 0, .int .u64 0] 44)) fun be9 =>
 canStore be9 ((blk a7.heap.size).add 0) ∧
 thenW (be9.setCell ((blk a7.heap.size).add 0) (.int .i64 k4)) fun be1 =>
 canStore be1 ((blk a7.heap.size).add 1) ∧
 thenW (be1.setCell ((blk a7.heap.size).add 1) (.int .i64 tl)) fun b82 =>
 canStore b82 ((blk a7.heap.size).add 2) ∧
 thenW (b82.setCell ((blk a7.heap.size).add 2) (.int .u64 a32)) fun b23 =>
 canStore b23 ((blk a7.heap.size).add 3) ∧
 thenW (b23.setCell ((blk a7.heap.size).add 3) (.int .i64 ag8)) fun b80 =>
 canStore b80 ((blk a7.heap.size).add 4) ∧
 thenW (b80.setCell ((blk a7.heap.size).add 4) (.int .i64 ad1)) fun b39 =>
 canStore b39 ((blk a7.heap.size).add 5) ∧
 thenW (b39.setCell ((blk a7.heap.size).add 5) (.int .i64 q2)) fun b69 =>
 canStore b69 ((blk a7.heap.size).add 6) ∧
 thenW (b69.setCell ((blk a7.heap.size).add 6) (.slice p4 p3 qu)) fun b94 =>
 canStore b94 ((blk a7.heap.size).add 7) ∧
 thenW (b94.setCell ((blk a7.heap.size).add 7) (.int .u64 aj5)) fun bb9 =>
 canStore bb9 ((blk a7.heap.size).add 8) ∧
 thenW (bb9.setCell ((blk a7.heap.size).add 8) (.int .i64 ej)) fun b49 =>
 canStore b49 ((blk a7.heap.size).add 9) ∧
 thenW (b49.setCell ((blk a7.heap.size).add 9) (.int .i64 od)) fun b98 =>
 canStore b98 ((blk a7.heap.size).add 10) ∧
 thenW (b98.setCell ((blk a7.heap.size).add 10) (.int .u64 vu)) fun bd4 =>
 canStore bd4 ((blk a7.heap.size).add 11) ∧
 thenW (bd4.setCell ((blk a7.heap.size).add 11) (.int .i64 ag7)) fun b40 =>
 canStore b40 ((blk a7.heap.size).add 12) ∧
 thenW (b40.setCell ((blk a7.heap.size).add 12) (.int .i64 an0)) fun b75 =>
 canStore b75 ((blk a7.heap.size).add 13) ∧
 thenW (b75.setCell ((blk a7.heap.size).add 13) (.int .i64 s6)) fun bd5 =>
 canStore bd5 ((blk a7.heap.size).add 14) ∧
 thenW (bd5.setCell ((blk a7.heap.size).add 14) (.slice sk mg s3)) fun b28 =>
 canStore b28 ((blk a7.heap.size).add 15) ∧
 thenW (b28.setCell ((blk a7.heap.size).add 15) (.int .u64 a79)) fun ar3 =>
 bif !aa8 then (
 ∃ (bz : Int) (kv : Int) (q1 : Int) (yd : Int) (v2 : Int) (er : Int) (e5 : Option Addr) (j6 : Nat) (gx : Nat) (a57 : Int) (dj : Int) (k7 : Int) (mk : Int) (a14 : Int) (a54 : Int) (fy : Int) (gs : Option Addr) (fp : Nat) (m3 : Nat) (zc : Int), cellsAt ar3 (blk a7.heap.size) [.int .i64 bz, .int .i64 kv, .int .u64 q1, .int .i64 yd, .int .i64 v2, .int .i64 er, .slice e5 j6 gx, .int .u64 a57, .int .i64 dj, .int .i64 k7, .int .u64 mk, .int .i64 a14, .int .i64 a54, .int .i64 fy, .slice gs fp m3, .int .u64 zc] 0 ∧
 Calls Try.prog 16 #[.agg #[.int .i64 bz, .int .i64 kv, .int .u64 q1, .int .i64 yd, .int .i64 v2, .int .i64 er, .slice e5 j6 gx, .int .u64 a57, .int .i64 dj, .int .i64 k7, .int .u64 mk, .int .i64 a14, .int .i64 a54, .int .i64 fy, .slice gs fp m3, .int .u64 zc]] ar3 fun bu2 bp9 => ∃ (kb : Int) (pv : Int) (vg : Int) (aa5 : Int) (ag0 : Int) (q5 : Int) (qx : Option Addr) (mx : Nat) (tc : Nat) (ap8 : Int) (ij : Int) (nw : Int) (xh : Int) (al0 : Int) (ah5 : Int) (s2 : Int) (n6 : Option Addr) (s5 : Nat) (o7 : Nat) (al4 : Int), bu2 = .returned (.agg #[.int .i64 kb, .int .i64 pv, .int .u64 vg, .int .i64 aa5, .int .i64 ag0, .int .i64 q5, .slice qx mx tc, .int .u64 ap8, .int .i64 ij, .int .i64 nw, .int .u64 xh, .int .i64 al0, .int .i64 ah5, .int .i64 s2, .slice n6 s5 o7, .int .u64 al4]) ∧
 Calls Try.prog 15 #[.agg #[.int .i64 kb, .int .i64 pv, .int .u64 vg, .int .i64 aa5, .int .i64 ag0, .int .i64 q5, .slice qx mx tc, .int .u64 ap8, .int .i64 ij, .int .i64 nw, .int .u64 xh, .int .i64 al0, .int .i64 ah5, .int .i64 s2, .slice n6 s5 o7, .int .u64 al4], .agg #[.int .i64 0, .int .i64 0, .int .u64 0, .int .i64 0, .int .i64 0, .int .i64 0, .slice none 0 0, .int .u64 0, .int .i64 0, .int .i64 0, .int .u64 0, .int .i64 0, .int .i64 0, .int .i64 0, .slice none 0 0, .int .u64 0]] bp9 fun bu0 b68 => ∃ (a98 : Bool), bu0 = .returned (.bool a98) ∧
 bif a98 then (
 Calls Try.prog 5 #[] b68 fun bx4 bv3 => ∃ (uc : Bool), bx4 = .returned (.bool uc) ∧
 R (.bool uc) bv3) else (
 R (.bool false) b68)) else (
 R (.bool false) ar3)))))) else (
 ∃ (I4 : Nat → List Value → World → Prop) (c06 : Nat), I4 c06 [.int .i64 0] aq3 ∧ ∀ (bs3 : Nat) (aj1 : World) (a73 : Int), I4 bs3 [.int .i64 a73] aj1 →
 bif decide (a73 < (ac : Int)) then (
 jy.elim False fun c02 =>
 0 ≤ (a73 : Int) ∧ (a73 : Int) < (ac : Int) ∧
 ∃ (yn : Option Addr) (vk : Nat) (x0 : Nat), aj1.cell? ((c02.add (Int.toNat a73 * 14)).add 3) = some (.slice yn vk x0) ∧
 Calls Try.prog 9 #[.pointer aw, .int .u64 b0, .agg #[.int .i64 (IntKind.i64.wrap ((100 : Int) + a73)), .int .i64 1], .int .i64 0, .slice yn vk x0] aj1 fun bo8 bw5 => ∃ (aq1 : Int) (as1 : Int) (az6 : Int) (bh4 : Int) (bk1 : Int) (ax0 : Int) (aq7 : Option Addr) (ay0 : Nat) (ay5 : Nat) (bl5 : Int) (av7 : Int), bo8 = .returned (.tuple #[.agg #[.int .i64 aq1, .int .i64 as1, .int .u64 az6, .int .i64 bh4, .int .i64 bk1, .int .i64 ax0, .slice aq7 ay0 ay5, .int .u64 bl5], .int .i64 av7]) ∧
 ∃ bv6, bv6 < bs3 ∧ I4 bv6 [.int .i64 (IntKind.i64.wrap (a73 + 1))] bw5) else (
 Calls Try.prog 12 #[.pointer ad] aj1 fun bp4 bw1 => ∃ (aj3 : Option Addr) (ak1 : Nat) (al5 : Nat), bp4 = .returned (.slice aj3 ak1 al5) ∧
 Calls Try.prog 12 #[.pointer aw] bw1 fun bt9 bm7 => ∃ (ab7 : Option Addr) (ah0 : Nat) (ai1 : Nat), bt9 = .returned (.slice ab7 ah0 ai1) ∧
 Calls Try.prog 11 #[.slice aj3 ak1 al5, .slice ab7 ah0 ai1] bm7 fun bp8 a3 => ∃ (jw : Int) (q8 : Int) (xr : Int) (ad6 : Int) (ac3 : Int) (pn : Int) (tm : Option Addr) (n3 : Nat) (tr : Nat) (ac0 : Int) (e6 : Int) (ss : Int) (vf : Int) (ab1 : Int) (ao3 : Int) (nt : Int) (pk : Option Addr) (p8 : Nat) (q6 : Nat) (ac7 : Int) (av : Bool), bp8 = .returned (.tuple #[.agg #[.int .i64 jw, .int .i64 q8, .int .u64 xr, .int .i64 ad6, .int .i64 ac3, .int .i64 pn, .slice tm n3 tr, .int .u64 ac0, .int .i64 e6, .int .i64 ss, .int .u64 vf, .int .i64 ab1, .int .i64 ao3, .int .i64 nt, .slice pk p8 q6, .int .u64 ac7], .bool av]) ∧
 thenW (a3.alloc (.cells #[.int .i64 0, .int .i64 0, .int .u64 0, .int .i64 0, .int .i64 0, .int .i64 0, .slice none 0 0, .int .u64 0, .int .i64 0, .int .i64 0, .int .u64 0, .int .i64 0, .int .i64 0, .int .i64 0, .slice none 0 0, .int .u64 0] 44)) fun be6 =>
 canStore be6 ((blk a3.heap.size).add 0) ∧
 thenW (be6.setCell ((blk a3.heap.size).add 0) (.int .i64 jw)) fun bg8 =>
 canStore bg8 ((blk a3.heap.size).add 1) ∧
 thenW (bg8.setCell ((blk a3.heap.size).add 1) (.int .i64 q8)) fun b51 =>
 canStore b51 ((blk a3.heap.size).add 2) ∧
 thenW (b51.setCell ((blk a3.heap.size).add 2) (.int .u64 xr)) fun b13 =>
 canStore b13 ((blk a3.heap.size).add 3) ∧
 thenW (b13.setCell ((blk a3.heap.size).add 3) (.int .i64 ad6)) fun bc7 =>
 canStore bc7 ((blk a3.heap.size).add 4) ∧
 thenW (bc7.setCell ((blk a3.heap.size).add 4) (.int .i64 ac3)) fun b27 =>
 canStore b27 ((blk a3.heap.size).add 5) ∧
 thenW (b27.setCell ((blk a3.heap.size).add 5) (.int .i64 pn)) fun ba6 =>
 canStore ba6 ((blk a3.heap.size).add 6) ∧
 thenW (ba6.setCell ((blk a3.heap.size).add 6) (.slice tm n3 tr)) fun b11 =>
 canStore b11 ((blk a3.heap.size).add 7) ∧
 thenW (b11.setCell ((blk a3.heap.size).add 7) (.int .u64 ac0)) fun b62 =>
 canStore b62 ((blk a3.heap.size).add 8) ∧
 thenW (b62.setCell ((blk a3.heap.size).add 8) (.int .i64 e6)) fun b90 =>
 canStore b90 ((blk a3.heap.size).add 9) ∧
 thenW (b90.setCell ((blk a3.heap.size).add 9) (.int .i64 ss)) fun b78 =>
 canStore b78 ((blk a3.heap.size).add 10) ∧
 thenW (b78.setCell ((blk a3.heap.size).add 10) (.int .u64 vf)) fun bf5 =>
 canStore bf5 ((blk a3.heap.size).add 11) ∧
 thenW (bf5.setCell ((blk a3.heap.size).add 11) (.int .i64 ab1)) fun b41 =>
 canStore b41 ((blk a3.heap.size).add 12) ∧
 thenW (b41.setCell ((blk a3.heap.size).add 12) (.int .i64 ao3)) fun bf1 =>
 canStore bf1 ((blk a3.heap.size).add 13) ∧
 thenW (bf1.setCell ((blk a3.heap.size).add 13) (.int .i64 nt)) fun bg1 =>
 canStore bg1 ((blk a3.heap.size).add 14) ∧
 thenW (bg1.setCell ((blk a3.heap.size).add 14) (.slice pk p8 q6)) fun b73 =>
 canStore b73 ((blk a3.heap.size).add 15) ∧
 thenW (b73.setCell ((blk a3.heap.size).add 15) (.int .u64 ac7)) fun b3 =>
 bif decide (ah ≥ 0) then (
 bif decide (ah < (md : Int)) then (
 l1a.elim False fun c13 =>
 0 ≤ (ah : Int) ∧ (ah : Int) < (md : Int) ∧
 ∃ (a55 : Option Addr) (x7 : Nat) (x6 : Nat), b3.cell? ((c13.add (Int.toNat ah * 14)).add 3) = some (.slice a55 x7 x6) ∧
 Calls Try.prog 13 #[.slice u7 et u6, .slice a55 x7 x6] b3 fun bx1 dm => ∃ (ak3 : Bool), bx1 = .returned (.bool ak3) ∧
 bif !ak3 then (
 bif av then (
 ∃ (a01 : Int), dm.cell? (((blk a3.heap.size).add 0).add 1) = some (.int .i64 a01) ∧
 bif a01 == ah then (
 ∃ (bh : Int) (gg : Int) (qk : Int) (a61 : Int) (ux : Int) (ig : Int) (el : Option Addr) (j9 : Nat) (kg : Nat) (a59 : Int) (cg : Int) (jr : Int) (n0 : Int) (a19 : Int) (vt : Int) (ec : Int) (fz : Option Addr) (fg : Nat) (k6 : Nat) (ys : Int), cellsAt dm (blk a3.heap.size) [.int .i64 bh, .int .i64 gg, .int .u64 qk, .int .i64 a61, .int .i64 ux, .int .i64 ig, .slice el j9 kg, .int .u64 a59, .int .i64 cg, .int .i64 jr, .int .u64 n0, .int .i64 a19, .int .i64 vt, .int .i64 ec, .slice fz fg k6, .int .u64 ys] 0 ∧
 Calls Try.prog 14 #[.pointer ag, .int .u64 ae, .agg #[.int .i64 bh, .int .i64 gg, .int .u64 qk, .int .i64 a61, .int .i64 ux, .int .i64 ig, .slice el j9 kg, .int .u64 a59, .int .i64 cg, .int .i64 jr, .int .u64 n0, .int .i64 a19, .int .i64 vt, .int .i64 ec, .slice fz fg k6, .int .u64 ys]] dm fun bs9 b22 => ∃ (yh : Int), bs9 = .returned (.int .i64 yh) ∧
 bif yh == 0 then (
 Calls Try.prog 5 #[] b22 fun by1 bx0 => ∃ (a64 : Bool), by1 = .returned (.bool a64) ∧
 R (.bool a64) bx0) else (
 R (.bool false) b22)) else (
 R (.bool false) dm)) else (
 R (.bool false) dm)) else (
 bif av then (
 ∃ (d5 : Int) (dx : Int) (gt : Int) (mi : Int) (oj : Int) (bl : Int) (dl : Option Addr) (dn : Nat) (cd : Nat) (qo : Int) (aj : Int) (dv : Int) (jz : Int) (ni : Int) (sd : Int) (c6 : Int) (c3 : Option Addr) (co : Nat) (bk : Nat) (ms : Int), cellsAt dm (blk a3.heap.size) [.int .i64 d5, .int .i64 dx, .int .u64 gt, .int .i64 mi, .int .i64 oj, .int .i64 bl, .slice dl dn cd, .int .u64 qo, .int .i64 aj, .int .i64 dv, .int .u64 jz, .int .i64 ni, .int .i64 sd, .int .i64 c6, .slice c3 co bk, .int .u64 ms] 0 ∧
 Calls Try.prog 14 #[.pointer ag, .int .u64 ae, .agg #[.int .i64 d5, .int .i64 dx, .int .u64 gt, .int .i64 mi, .int .i64 oj, .int .i64 bl, .slice dl dn cd, .int .u64 qo, .int .i64 aj, .int .i64 dv, .int .u64 jz, .int .i64 ni, .int .i64 sd, .int .i64 c6, .slice c3 co bk, .int .u64 ms]] dm fun bj9 a72 => ∃ (qp : Int), bj9 = .returned (.int .i64 qp) ∧
 bif qp == 0 then (
 bif decide ((ac : Int) > 0) then (
 Calls Try.prog 5 #[] a72 fun bl6 bl3 => ∃ (o1 : Bool), bl6 = .returned (.bool o1) ∧
 R (.bool o1) bl3) else (
 R (.bool false) a72)) else (
 R (.bool false) a72)) else (
 Calls Try.prog 12 #[.pointer ad] dm fun bi0 bi4 => ∃ (y6 : Option Addr) (yz : Nat) (v8 : Nat), bi0 = .returned (.slice y6 yz v8) ∧
 Calls Try.prog 12 #[.pointer ad] bi4 fun bh1 bj8 => ∃ (vi : Option Addr) (v9 : Nat) (xy : Nat), bh1 = .returned (.slice vi v9 xy) ∧
 Calls Try.prog 11 #[.slice y6 yz v8, .slice vi v9 xy] bj8 fun bh8 a0 => ∃ (d3 : Int) (ib : Int) (tn : Int) (a53 : Int) (vy : Int) (i6 : Int) (km : Option Addr) (fi : Nat) (l1 : Nat) (uh : Int) (ce : Int) (kf : Int) (os : Int) (a09 : Int) (yt : Int) (i3 : Int) (ga : Option Addr) (lb : Nat) (l9 : Nat) (xm : Int) (a33 : Bool), bh8 = .returned (.tuple #[.agg #[.int .i64 d3, .int .i64 ib, .int .u64 tn, .int .i64 a53, .int .i64 vy, .int .i64 i6, .slice km fi l1, .int .u64 uh, .int .i64 ce, .int .i64 kf, .int .u64 os, .int .i64 a09, .int .i64 yt, .int .i64 i3, .slice ga lb l9, .int .u64 xm], .bool a33]) ∧
 thenW (a0.alloc (.cells #[.int .i64 0, .int .i64 0, .int .u64 0, .int .i64 0, .int .i64 0, .int .i64 0, .slice none 0 0, .int .u64 0, .int .i64 0, .int .i64 0, .int .u64 0, .int .i64 0, .int .i64 0, .int .i64 0, .slice none 0 0, .int .u64 0] 44)) fun aq4 =>
 canStore aq4 ((blk a0.heap.size).add 0) ∧
 thenW (aq4.setCell ((blk a0.heap.size).add 0) (.int .i64 d3)) fun ax2 =>
 canStore ax2 ((blk a0.heap.size).add 1) ∧
 thenW (ax2.setCell ((blk a0.heap.size).add 1) (.int .i64 ib)) fun at9 =>
 canStore at9 ((blk a0.heap.size).add 2) ∧
 thenW (at9.setCell ((blk a0.heap.size).add 2) (.int .u64 tn)) fun as3 =>
 canStore as3 ((blk a0.heap.size).add 3) ∧
 thenW (as3.setCell ((blk a0.heap.size).add 3) (.int .i64 a53)) fun au0 =>
 canStore au0 ((blk a0.heap.size).add 4) ∧
 thenW (au0.setCell ((blk a0.heap.size).add 4) (.int .i64 vy)) fun au3 =>
 canStore au3 ((blk a0.heap.size).add 5) ∧
 thenW (au3.setCell ((blk a0.heap.size).add 5) (.int .i64 i6)) fun aq5 =>
 canStore aq5 ((blk a0.heap.size).add 6) ∧
 thenW (aq5.setCell ((blk a0.heap.size).add 6) (.slice km fi l1)) fun ay1 =>
 canStore ay1 ((blk a0.heap.size).add 7) ∧
 thenW (ay1.setCell ((blk a0.heap.size).add 7) (.int .u64 uh)) fun at8 =>
 canStore at8 ((blk a0.heap.size).add 8) ∧
 thenW (at8.setCell ((blk a0.heap.size).add 8) (.int .i64 ce)) fun ar2 =>
 canStore ar2 ((blk a0.heap.size).add 9) ∧
 thenW (ar2.setCell ((blk a0.heap.size).add 9) (.int .i64 kf)) fun av8 =>
 canStore av8 ((blk a0.heap.size).add 10) ∧
 thenW (av8.setCell ((blk a0.heap.size).add 10) (.int .u64 os)) fun av9 =>
 canStore av9 ((blk a0.heap.size).add 11) ∧
 thenW (av9.setCell ((blk a0.heap.size).add 11) (.int .i64 a09)) fun av0 =>
 canStore av0 ((blk a0.heap.size).add 12) ∧
 thenW (av0.setCell ((blk a0.heap.size).add 12) (.int .i64 yt)) fun ar4 =>
 canStore ar4 ((blk a0.heap.size).add 13) ∧
 thenW (ar4.setCell ((blk a0.heap.size).add 13) (.int .i64 i3)) fun aw2 =>
 canStore aw2 ((blk a0.heap.size).add 14) ∧
 thenW (aw2.setCell ((blk a0.heap.size).add 14) (.slice ga lb l9)) fun as7 =>
 canStore as7 ((blk a0.heap.size).add 15) ∧
 thenW (as7.setCell ((blk a0.heap.size).add 15) (.int .u64 xm)) fun a66 =>
 bif !a33 then (
 ∃ (ap : Int) (dk : Int) (ko : Int) (tw : Int) (qj : Int) (c9 : Int) (e0 : Option Addr) (de : Nat) (dd : Nat) (o5 : Int) (ao : Int) (da : Int) (ma : Int) (sx : Int) (nh : Int) (cn : Int) (c0 : Option Addr) (cj : Nat) (ds : Nat) (tq : Int), cellsAt a66 (blk a0.heap.size) [.int .i64 ap, .int .i64 dk, .int .u64 ko, .int .i64 tw, .int .i64 qj, .int .i64 c9, .slice e0 de dd, .int .u64 o5, .int .i64 ao, .int .i64 da, .int .u64 ma, .int .i64 sx, .int .i64 nh, .int .i64 cn, .slice c0 cj ds, .int .u64 tq] 0 ∧
 Calls Try.prog 16 #[.agg #[.int .i64 ap, .int .i64 dk, .int .u64 ko, .int .i64 tw, .int .i64 qj, .int .i64 c9, .slice e0 de dd, .int .u64 o5, .int .i64 ao, .int .i64 da, .int .u64 ma, .int .i64 sx, .int .i64 nh, .int .i64 cn, .slice c0 cj ds, .int .u64 tq]] a66 fun bl7 bi1 => ∃ (bt : Int) (ea : Int) (o4 : Int) (vq : Int) (xe : Int) (ep : Int) (i4 : Option Addr) (kk : Nat) (l6 : Nat) (vr : Int) (dt : Int) (j4 : Int) (pg : Int) (uf : Int) (zy : Int) (iy : Int) (k8 : Option Addr) (ev : Nat) (j7 : Nat) (yl : Int), bl7 = .returned (.agg #[.int .i64 bt, .int .i64 ea, .int .u64 o4, .int .i64 vq, .int .i64 xe, .int .i64 ep, .slice i4 kk l6, .int .u64 vr, .int .i64 dt, .int .i64 j4, .int .u64 pg, .int .i64 uf, .int .i64 zy, .int .i64 iy, .slice k8 ev j7, .int .u64 yl]) ∧
 Calls Try.prog 15 #[.agg #[.int .i64 bt, .int .i64 ea, .int .u64 o4, .int .i64 vq, .int .i64 xe, .int .i64 ep, .slice i4 kk l6, .int .u64 vr, .int .i64 dt, .int .i64 j4, .int .u64 pg, .int .i64 uf, .int .i64 zy, .int .i64 iy, .slice k8 ev j7, .int .u64 yl], .agg #[.int .i64 0, .int .i64 0, .int .u64 0, .int .i64 0, .int .i64 0, .int .i64 0, .slice none 0 0, .int .u64 0, .int .i64 0, .int .i64 0, .int .u64 0, .int .i64 0, .int .i64 0, .int .i64 0, .slice none 0 0, .int .u64 0]] bi1 fun bk7 av2 => ∃ (vc : Bool), bk7 = .returned (.bool vc) ∧
 bif vc then (
 Calls Try.prog 5 #[] av2 fun bl8 bh6 => ∃ (p1 : Bool), bl8 = .returned (.bool p1) ∧
 R (.bool p1) bh6) else (
 R (.bool false) av2)) else (
 R (.bool false) a66)))) else (
 bif av then (
 ∃ (am : Int) (cr : Int) (l5 : Int) (u1 : Int) (ng : Int) (cs : Int) (dr : Option Addr) (ct : Nat) (dy : Nat) (pe : Int) (an : Int) (dq : Int) (l8 : Int) (n2 : Int) (py : Int) (c8 : Int) (b4 : Option Addr) (dc : Nat) (cb : Nat) (q7 : Int), cellsAt b3 (blk a3.heap.size) [.int .i64 am, .int .i64 cr, .int .u64 l5, .int .i64 u1, .int .i64 ng, .int .i64 cs, .slice dr ct dy, .int .u64 pe, .int .i64 an, .int .i64 dq, .int .u64 l8, .int .i64 n2, .int .i64 py, .int .i64 c8, .slice b4 dc cb, .int .u64 q7] 0 ∧
 Calls Try.prog 14 #[.pointer ag, .int .u64 ae, .agg #[.int .i64 am, .int .i64 cr, .int .u64 l5, .int .i64 u1, .int .i64 ng, .int .i64 cs, .slice dr ct dy, .int .u64 pe, .int .i64 an, .int .i64 dq, .int .u64 l8, .int .i64 n2, .int .i64 py, .int .i64 c8, .slice b4 dc cb, .int .u64 q7]] b3 fun bh2 a74 => ∃ (q9 : Int), bh2 = .returned (.int .i64 q9) ∧
 bif q9 == 0 then (
 bif decide ((ac : Int) > 0) then (
 Calls Try.prog 5 #[] a74 fun bj0 bh9 => ∃ (ta : Bool), bj0 = .returned (.bool ta) ∧
 R (.bool ta) bh9) else (
 R (.bool false) a74)) else (
 R (.bool false) a74)) else (
 Calls Try.prog 12 #[.pointer ad] b3 fun bi6 bj2 => ∃ (uo : Option Addr) (a51 : Nat) (yw : Nat), bi6 = .returned (.slice uo a51 yw) ∧
 Calls Try.prog 12 #[.pointer ad] bj2 fun bj4 bh5 => ∃ (zm : Option Addr) (ui : Nat) (va : Nat), bj4 = .returned (.slice zm ui va) ∧
 Calls Try.prog 11 #[.slice uo a51 yw, .slice zm ui va] bh5 fun bi9 a1 => ∃ (c5 : Int) (j8 : Int) (qi : Int) (y0 : Int) (z6 : Int) (ln : Int) (ks : Option Addr) (lo : Nat) (f0 : Nat) (a43 : Int) (b5 : Int) (m6 : Int) (s7 : Int) (zr : Int) (zn : Int) (g9 : Int) (ja : Option Addr) (fm : Nat) (fa : Nat) (yu : Int) (vj : Bool), bi9 = .returned (.tuple #[.agg #[.int .i64 c5, .int .i64 j8, .int .u64 qi, .int .i64 y0, .int .i64 z6, .int .i64 ln, .slice ks lo f0, .int .u64 a43, .int .i64 b5, .int .i64 m6, .int .u64 s7, .int .i64 zr, .int .i64 zn, .int .i64 g9, .slice ja fm fa, .int .u64 yu], .bool vj]) ∧
 thenW (a1.alloc (.cells #[.int .i64 0, .int .i64 0, .int .u64 0, .int .i64 0, .int .i64 0, .int .i64 0, .slice none 0 0, .int .u64 0, .int .i64 0, .int .i64 0, .int .u64 0, .int .i64 0, .int .i64 0, .int .i64 0, .slice none 0 0, .int .u64 0] 44)) fun aw7 =>
 canStore aw7 ((blk a1.heap.size).add 0) ∧
 thenW (aw7.setCell ((blk a1.heap.size).add 0) (.int .i64 c5)) fun ay4 =>
 canStore ay4 ((blk a1.heap.size).add 1) ∧
 thenW (ay4.setCell ((blk a1.heap.size).add 1) (.int .i64 j8)) fun ay8 =>
 canStore ay8 ((blk a1.heap.size).add 2) ∧
 thenW (ay8.setCell ((blk a1.heap.size).add 2) (.int .u64 qi)) fun av6 =>
 canStore av6 ((blk a1.heap.size).add 3) ∧
 thenW (av6.setCell ((blk a1.heap.size).add 3) (.int .i64 y0)) fun ax7 =>
 canStore ax7 ((blk a1.heap.size).add 4) ∧
 thenW (ax7.setCell ((blk a1.heap.size).add 4) (.int .i64 z6)) fun aq9 =>
 canStore aq9 ((blk a1.heap.size).add 5) ∧
 thenW (aq9.setCell ((blk a1.heap.size).add 5) (.int .i64 ln)) fun au8 =>
 canStore au8 ((blk a1.heap.size).add 6) ∧
 thenW (au8.setCell ((blk a1.heap.size).add 6) (.slice ks lo f0)) fun ar0 =>
 canStore ar0 ((blk a1.heap.size).add 7) ∧
 thenW (ar0.setCell ((blk a1.heap.size).add 7) (.int .u64 a43)) fun as6 =>
 canStore as6 ((blk a1.heap.size).add 8) ∧
 thenW (as6.setCell ((blk a1.heap.size).add 8) (.int .i64 b5)) fun ax6 =>
 canStore ax6 ((blk a1.heap.size).add 9) ∧
 thenW (ax6.setCell ((blk a1.heap.size).add 9) (.int .i64 m6)) fun as4 =>
 canStore as4 ((blk a1.heap.size).add 10) ∧
 thenW (as4.setCell ((blk a1.heap.size).add 10) (.int .u64 s7)) fun az1 =>
 canStore az1 ((blk a1.heap.size).add 11) ∧
 thenW (az1.setCell ((blk a1.heap.size).add 11) (.int .i64 zr)) fun ar5 =>
 canStore ar5 ((blk a1.heap.size).add 12) ∧
 thenW (ar5.setCell ((blk a1.heap.size).add 12) (.int .i64 zn)) fun as0 =>
 canStore as0 ((blk a1.heap.size).add 13) ∧
 thenW (as0.setCell ((blk a1.heap.size).add 13) (.int .i64 g9)) fun au9 =>
 canStore au9 ((blk a1.heap.size).add 14) ∧
 thenW (au9.setCell ((blk a1.heap.size).add 14) (.slice ja fm fa)) fun aq6 =>
 canStore aq6 ((blk a1.heap.size).add 15) ∧
 thenW (aq6.setCell ((blk a1.heap.size).add 15) (.int .u64 yu)) fun a68 =>
 bif !vj then (
 ∃ (aq : Int) (b9 : Int) (g0 : Int) (ts : Int) (p6 : Int) (dh : Int) (bx : Option Addr) (d0 : Nat) (d8 : Nat) (ne : Int) (au : Int) (ch : Int) (ka : Int) (qw : Int) (td : Int) (du : Int) (dw : Option Addr) (e2 : Nat) (e3 : Nat) (s4 : Int), cellsAt a68 (blk a1.heap.size) [.int .i64 aq, .int .i64 b9, .int .u64 g0, .int .i64 ts, .int .i64 p6, .int .i64 dh, .slice bx d0 d8, .int .u64 ne, .int .i64 au, .int .i64 ch, .int .u64 ka, .int .i64 qw, .int .i64 td, .int .i64 du, .slice dw e2 e3, .int .u64 s4] 0 ∧
 Calls Try.prog 16 #[.agg #[.int .i64 aq, .int .i64 b9, .int .u64 g0, .int .i64 ts, .int .i64 p6, .int .i64 dh, .slice bx d0 d8, .int .u64 ne, .int .i64 au, .int .i64 ch, .int .u64 ka, .int .i64 qw, .int .i64 td, .int .i64 du, .slice dw e2 e3, .int .u64 s4]] a68 fun bk6 bl4 => ∃ (be : Int) (ji : Int) (sg : Int) (zd : Int) (zg : Int) (iv : Int) (l2 : Option Addr) (gu : Nat) (gb : Nat) (a20 : Int) (cv : Int) (k3 : Int) (mo : Int) (xu : Int) (a07 : Int) (em : Int) (ic : Option Addr) (jf : Nat) (ex : Nat) (a16 : Int), bk6 = .returned (.agg #[.int .i64 be, .int .i64 ji, .int .u64 sg, .int .i64 zd, .int .i64 zg, .int .i64 iv, .slice l2 gu gb, .int .u64 a20, .int .i64 cv, .int .i64 k3, .int .u64 mo, .int .i64 xu, .int .i64 a07, .int .i64 em, .slice ic jf ex, .int .u64 a16]) ∧
 Calls Try.prog 15 #[.agg #[.int .i64 be, .int .i64 ji, .int .u64 sg, .int .i64 zd, .int .i64 zg, .int .i64 iv, .slice l2 gu gb, .int .u64 a20, .int .i64 cv, .int .i64 k3, .int .u64 mo, .int .i64 xu, .int .i64 a07, .int .i64 em, .slice ic jf ex, .int .u64 a16], .agg #[.int .i64 0, .int .i64 0, .int .u64 0, .int .i64 0, .int .i64 0, .int .i64 0, .slice none 0 0, .int .u64 0, .int .i64 0, .int .i64 0, .int .u64 0, .int .i64 0, .int .i64 0, .int .i64 0, .slice none 0 0, .int .u64 0]] bl4 fun bk8 ay7 => ∃ (y2 : Bool), bk8 = .returned (.bool y2) ∧
 bif y2 then (
 Calls Try.prog 5 #[] ay7 fun bj3 bk2 => ∃ (t1 : Bool), bj3 = .returned (.bool t1) ∧
 R (.bool t1) bk2) else (
 R (.bool false) ay7)) else (
 R (.bool false) a68)))) else (
 bif av then (
 ∃ (ax : Int) (bu : Int) (i2 : Int) (nl : Int) (sz : Int) (b7 : Int) (b1 : Option Addr) (bi : Nat) (b2 : Nat) (sh : Int) (al : Int) (cl : Int) (ge : Int) (oq : Int) (ow : Int) (bs : Int) (d1 : Option Addr) (c2 : Nat) (c4 : Nat) (om : Int), cellsAt b3 (blk a3.heap.size) [.int .i64 ax, .int .i64 bu, .int .u64 i2, .int .i64 nl, .int .i64 sz, .int .i64 b7, .slice b1 bi b2, .int .u64 sh, .int .i64 al, .int .i64 cl, .int .u64 ge, .int .i64 oq, .int .i64 ow, .int .i64 bs, .slice d1 c2 c4, .int .u64 om] 0 ∧
 Calls Try.prog 14 #[.pointer ag, .int .u64 ae, .agg #[.int .i64 ax, .int .i64 bu, .int .u64 i2, .int .i64 nl, .int .i64 sz, .int .i64 b7, .slice b1 bi b2, .int .u64 sh, .int .i64 al, .int .i64 cl, .int .u64 ge, .int .i64 oq, .int .i64 ow, .int .i64 bs, .slice d1 c2 c4, .int .u64 om]] b3 fun bh7 a71 => ∃ (tf : Int), bh7 = .returned (.int .i64 tf) ∧
 bif tf == 0 then (
 bif decide ((ac : Int) > 0) then (
 Calls Try.prog 5 #[] a71 fun bh3 bk4 => ∃ (oh : Bool), bh3 = .returned (.bool oh) ∧
 R (.bool oh) bk4) else (
 R (.bool false) a71)) else (
 R (.bool false) a71)) else (
 Calls Try.prog 12 #[.pointer ad] b3 fun bk5 bk9 => ∃ (z1 : Option Addr) (uv : Nat) (y4 : Nat), bk5 = .returned (.slice z1 uv y4) ∧
 Calls Try.prog 12 #[.pointer ad] bk9 fun bj7 bi2 => ∃ (vd : Option Addr) (z4 : Nat) (un : Nat), bj7 = .returned (.slice vd z4 un) ∧
 Calls Try.prog 11 #[.slice z1 uv y4, .slice vd z4 un] bi2 fun bi7 a2 => ∃ (bo : Int) (f6 : Int) (mu : Int) (a60 : Int) (ye : Int) (ew : Int) (eb : Option Addr) (io : Nat) (jv : Nat) (a17 : Int) (cc : Int) (lv : Int) (qs : Int) (yv : Int) (z3 : Int) (ft : Int) (l7 : Option Addr) (f7 : Nat) (e8 : Nat) (yy : Int) (yq : Bool), bi7 = .returned (.tuple #[.agg #[.int .i64 bo, .int .i64 f6, .int .u64 mu, .int .i64 a60, .int .i64 ye, .int .i64 ew, .slice eb io jv, .int .u64 a17, .int .i64 cc, .int .i64 lv, .int .u64 qs, .int .i64 yv, .int .i64 z3, .int .i64 ft, .slice l7 f7 e8, .int .u64 yy], .bool yq]) ∧
 thenW (a2.alloc (.cells #[.int .i64 0, .int .i64 0, .int .u64 0, .int .i64 0, .int .i64 0, .int .i64 0, .slice none 0 0, .int .u64 0, .int .i64 0, .int .i64 0, .int .u64 0, .int .i64 0, .int .i64 0, .int .i64 0, .slice none 0 0, .int .u64 0] 44)) fun ay2 =>
 canStore ay2 ((blk a2.heap.size).add 0) ∧
 thenW (ay2.setCell ((blk a2.heap.size).add 0) (.int .i64 bo)) fun aw8 =>
 canStore aw8 ((blk a2.heap.size).add 1) ∧
 thenW (aw8.setCell ((blk a2.heap.size).add 1) (.int .i64 f6)) fun ax3 =>
 canStore ax3 ((blk a2.heap.size).add 2) ∧
 thenW (ax3.setCell ((blk a2.heap.size).add 2) (.int .u64 mu)) fun as8 =>
 canStore as8 ((blk a2.heap.size).add 3) ∧
 thenW (as8.setCell ((blk a2.heap.size).add 3) (.int .i64 a60)) fun av1 =>
 canStore av1 ((blk a2.heap.size).add 4) ∧
 thenW (av1.setCell ((blk a2.heap.size).add 4) (.int .i64 ye)) fun ay9 =>
 canStore ay9 ((blk a2.heap.size).add 5) ∧
 thenW (ay9.setCell ((blk a2.heap.size).add 5) (.int .i64 ew)) fun au7 =>
 canStore au7 ((blk a2.heap.size).add 6) ∧
 thenW (au7.setCell ((blk a2.heap.size).add 6) (.slice eb io jv)) fun av4 =>
 canStore av4 ((blk a2.heap.size).add 7) ∧
 thenW (av4.setCell ((blk a2.heap.size).add 7) (.int .u64 a17)) fun at0 =>
 canStore at0 ((blk a2.heap.size).add 8) ∧
 thenW (at0.setCell ((blk a2.heap.size).add 8) (.int .i64 cc)) fun ar1 =>
 canStore ar1 ((blk a2.heap.size).add 9) ∧
 thenW (ar1.setCell ((blk a2.heap.size).add 9) (.int .i64 lv)) fun ax1 =>
 canStore ax1 ((blk a2.heap.size).add 10) ∧
 thenW (ax1.setCell ((blk a2.heap.size).add 10) (.int .u64 qs)) fun ar9 =>
 canStore ar9 ((blk a2.heap.size).add 11) ∧
 thenW (ar9.setCell ((blk a2.heap.size).add 11) (.int .i64 yv)) fun ax9 =>
 canStore ax9 ((blk a2.heap.size).add 12) ∧
 thenW (ax9.setCell ((blk a2.heap.size).add 12) (.int .i64 z3)) fun au4 =>
 canStore au4 ((blk a2.heap.size).add 13) ∧
 thenW (au4.setCell ((blk a2.heap.size).add 13) (.int .i64 ft)) fun ar6 =>
 canStore ar6 ((blk a2.heap.size).add 14) ∧
 thenW (ar6.setCell ((blk a2.heap.size).add 14) (.slice l7 f7 e8)) fun av3 =>
 canStore av3 ((blk a2.heap.size).add 15) ∧
 thenW (av3.setCell ((blk a2.heap.size).add 15) (.int .u64 yy)) fun a70 =>
 bif !yq then (
 ∃ (az : Int) (db : Int) (ld : Int) (nc : Int) (pl : Int) (cf : Int) (ca : Option Addr) (di : Nat) (bp : Nat) (u3 : Int) (ak : Int) (c7 : Int) (ky : Int) (p9 : Int) (o8 : Int) (d7 : Int) (bv : Option Addr) (cw : Nat) (d6 : Nat) (pa : Int), cellsAt a70 (blk a2.heap.size) [.int .i64 az, .int .i64 db, .int .u64 ld, .int .i64 nc, .int .i64 pl, .int .i64 cf, .slice ca di bp, .int .u64 u3, .int .i64 ak, .int .i64 c7, .int .u64 ky, .int .i64 p9, .int .i64 o8, .int .i64 d7, .slice bv cw d6, .int .u64 pa] 0 ∧
 Calls Try.prog 16 #[.agg #[.int .i64 az, .int .i64 db, .int .u64 ld, .int .i64 nc, .int .i64 pl, .int .i64 cf, .slice ca di bp, .int .u64 u3, .int .i64 ak, .int .i64 c7, .int .u64 ky, .int .i64 p9, .int .i64 o8, .int .i64 d7, .slice bv cw d6, .int .u64 pa]] a70 fun bj6 bi8 => ∃ (d2 : Int) (f3 : Int) (pm : Int) (xt : Int) (yk : Int) (ju : Int) (lk : Option Addr) (lm : Nat) (i9 : Nat) (xl : Int) (bc : Int) (lf : Int) (qz : Int) (xg : Int) (yi : Int) (jh : Int) (i7 : Option Addr) (l4 : Nat) (m2 : Nat) (xb : Int), bj6 = .returned (.agg #[.int .i64 d2, .int .i64 f3, .int .u64 pm, .int .i64 xt, .int .i64 yk, .int .i64 ju, .slice lk lm i9, .int .u64 xl, .int .i64 bc, .int .i64 lf, .int .u64 qz, .int .i64 xg, .int .i64 yi, .int .i64 jh, .slice i7 l4 m2, .int .u64 xb]) ∧
 Calls Try.prog 15 #[.agg #[.int .i64 d2, .int .i64 f3, .int .u64 pm, .int .i64 xt, .int .i64 yk, .int .i64 ju, .slice lk lm i9, .int .u64 xl, .int .i64 bc, .int .i64 lf, .int .u64 qz, .int .i64 xg, .int .i64 yi, .int .i64 jh, .slice i7 l4 m2, .int .u64 xb], .agg #[.int .i64 0, .int .i64 0, .int .u64 0, .int .i64 0, .int .i64 0, .int .i64 0, .slice none 0 0, .int .u64 0, .int .i64 0, .int .i64 0, .int .u64 0, .int .i64 0, .int .i64 0, .int .i64 0, .slice none 0 0, .int .u64 0]] bi8 fun bi5 as9 => ∃ (uj : Bool), bi5 = .returned (.bool uj) ∧
 bif uj then (
 Calls Try.prog 5 #[] as9 fun bl2 bl1 => ∃ (qc : Bool), bl2 = .returned (.bool qc) ∧
 R (.bool qc) bl1) else (
 R (.bool false) as9)) else (
 R (.bool false) a70))))))))))

theorem cachettelaw23_ForkcheckProves.eq (l1a : Option Addr) (l1n : Nat) (l1c : Nat) (atv2 : Int) (body3a : Option Addr) (body3n : Nat) (body3c : Nat) (more4a : Option Addr) (more4n : Nat) (more4c : Nat) (R : Value → World → Prop) (w : World) : mfunc Try.prog [(0, [0, 1, 2, 3], [(9, (.one (.int .i64)))]), (2, [0, 1, 2, 3, 10, 11, 12, 13, 15], [(17, (.one (.int .i64)))]), (4, [0, 1, 2, 3, 10, 11, 12, 13, 15], [(22, (.one (.int .i64)))])] 3 [.slice l1a l1n l1c, .int .i64 atv2, .slice body3a body3n body3c, .slice more4a more4n more4c] R w = cachettelaw23_ForkcheckProves.M l1a l1n l1c atv2 body3a body3n body3c more4a more4n more4c R w := by kernel_rfl
theorem cachettelaw23_ForkcheckProves.ok (a8 : Option Addr) (a7 : Nat) (a9 : Nat) (a6 : Int) (a3 : Option Addr) (a5 : Nat) (a0 : Nat) (a4 : Option Addr) (a2 : Nat) (a1 : Nat) {R : Value → World → Prop} {w : World} (h : cachettelaw23_ForkcheckProves.M a8 a7 a9 a6 a3 a5 a0 a4 a2 a1 R w) : Calls Try.prog 3 #[.slice a8 a7 a9, .int .i64 a6, .slice a3 a5 a0, .slice a4 a2 a1] w fun e w' => ∃ v, e = .returned v ∧ R v w' :=
  mfunc_ok follows (H := [(0, [0, 1, 2, 3], [(9, (.one (.int .i64)))]), (2, [0, 1, 2, 3, 10, 11, 12, 13, 15], [(17, (.one (.int .i64)))]), (4, [0, 1, 2, 3, 10, 11, 12, 13, 15], [(22, (.one (.int .i64)))])]) (args := [.slice a8 a7 a9, .int .i64 a6, .slice a3 a5 a0, .slice a4 a2 a1]) (by rw [cachettelaw23_ForkcheckProves.eq]; exact h)

def cachettelaw23_ForkcheckProves.N (og : Option Addr) (a7 : Nat) (oz : Nat) (a8 : Int) (ju : Option Addr) (dy : Nat) (k5 : Nat) (b6 : Option Addr) (a0 : Nat) (o7 : Nat) (R : Value → World → Prop) (w : World) : Prop :=
 ((a7 : Int) > 20 →
 Calls Try.prog 5 #[] w fun ov ox => ∃ (k6 : Bool), ov = .returned (.bool k6) ∧
 R (.bool k6) ox) ∧
 ((a7 : Int) ≤ 20 →
 ((a0 : Int) > 20 →
 Calls Try.prog 5 #[] w fun o5 oc => ∃ (gm : Bool), o5 = .returned (.bool gm) ∧
 R (.bool gm) oc) ∧
 ((a0 : Int) ≤ 20 →
 ((dy : Int) > 300 →
 Calls Try.prog 5 #[] w fun nw o1 => ∃ (j9 : Bool), nw = .returned (.bool j9) ∧
 R (.bool j9) o1) ∧
 ((dy : Int) ≤ 300 →
 ∃ (I0 : Nat → List Value → World → Prop) (oy : Nat), I0 oy [.int .i64 0] w ∧ ∀ (m7 : Nat) (ap : World) (a3 : Int), I0 m7 [.int .i64 a3] ap →
 (-9223372036854775808 : Int) ≤ ((a7 : Int) + (a0 : Int)) ∧ ((a7 : Int) + (a0 : Int)) < 9223372036854775808 ∧
 (a3 < ((a7 : Int) + (a0 : Int)) →
 (a3 < (a7 : Int) →
 ∃ op : Addr, og = some op ∧
 0 ≤ (a3 : Int) ∧ (a3 : Int) < (a7 : Int) ∧
 ∃ (kj : Option Addr) (e1 : Nat) (ks : Nat), ap.cell? ((op.add (Int.toNat a3 * 14)).add 3) = some (.slice kj e1 ks) ∧
 ((e1 : Int) > 300 →
 Calls Try.prog 5 #[] ap fun oh nu => ∃ (fr : Bool), oh = .returned (.bool fr) ∧
 R (.bool fr) nu) ∧
 ((e1 : Int) ≤ 300 →
 (a3 ≥ (a7 : Int) →
 (-9223372036854775808 : Int) ≤ (a3 - (a7 : Int)) ∧ (a3 - (a7 : Int)) < 9223372036854775808 ∧
 ∃ ol : Addr, b6 = some ol ∧
 0 ≤ ((a3 - (a7 : Int)) : Int) ∧ ((a3 - (a7 : Int)) : Int) < (a0 : Int) ∧
 ∃ (kr : Option Addr) (e0 : Nat) (kl : Nat), ap.cell? ((ol.add (Int.toNat (a3 - (a7 : Int)) * 14)).add 3) = some (.slice kr e0 kl) ∧
 ((e0 : Int) > 300 →
 Calls Try.prog 5 #[] ap fun nz o3 => ∃ (i6 : Bool), nz = .returned (.bool i6) ∧
 R (.bool i6) o3) ∧
 ((e0 : Int) ≤ 300 →
 (-9223372036854775808 : Int) ≤ (a3 + 1) ∧ (a3 + 1) < 9223372036854775808 ∧
 ∃ os, os < m7 ∧ I0 os [.int .i64 (a3 + 1)] ap)) ∧
 (a3 < (a7 : Int) →
 (-9223372036854775808 : Int) ≤ (a3 + 1) ∧ (a3 + 1) < 9223372036854775808 ∧
 ∃ ot, ot < m7 ∧ I0 ot [.int .i64 (a3 + 1)] ap))) ∧
 ((a7 : Int) ≤ a3 →
 (a3 ≥ (a7 : Int) →
 (-9223372036854775808 : Int) ≤ (a3 - (a7 : Int)) ∧ (a3 - (a7 : Int)) < 9223372036854775808 ∧
 ∃ om : Addr, b6 = some om ∧
 0 ≤ ((a3 - (a7 : Int)) : Int) ∧ ((a3 - (a7 : Int)) : Int) < (a0 : Int) ∧
 ∃ (km : Option Addr) (e6 : Nat) (kp : Nat), ap.cell? ((om.add (Int.toNat (a3 - (a7 : Int)) * 14)).add 3) = some (.slice km e6 kp) ∧
 ((e6 : Int) > 300 →
 Calls Try.prog 5 #[] ap fun ok ny => ∃ (g4 : Bool), ok = .returned (.bool g4) ∧
 R (.bool g4) ny) ∧
 ((e6 : Int) ≤ 300 →
 (-9223372036854775808 : Int) ≤ (a3 + 1) ∧ (a3 + 1) < 9223372036854775808 ∧
 ∃ oo, oo < m7 ∧ I0 oo [.int .i64 (a3 + 1)] ap)) ∧
 (a3 < (a7 : Int) →
 (-9223372036854775808 : Int) ≤ (a3 + 1) ∧ (a3 + 1) < 9223372036854775808 ∧
 ∃ oq, oq < m7 ∧ I0 oq [.int .i64 (a3 + 1)] ap))) ∧
 (((a7 : Int) + (a0 : Int)) ≤ a3 →
 Calls Try.prog 6 #[.slice none 0 0] ap fun nv oa => ∃ (al : Option Addr), nv = .returned (.pointer al) ∧
 Calls Try.prog 7 #[.pointer al] oa fun o9 oi => ∃ (ag : Int) (a5 : Int), o9 = .returned (.tuple #[.int .u64 ag, .int .u64 a5]) ∧
 Calls Try.prog 8 #[.pointer al, .int .i64 1, .int .u64 a5] oi fun ob o6 => ∃ (a2 : Option Addr) (lm : Int), ob = .returned (.tuple #[.pointer a2, .int .i64 lm]) ∧
 Calls Try.prog 8 #[.pointer al, .int .i64 1, .int .u64 a5] o6 fun o4 od => ∃ (a9 : Option Addr) (lw : Int), o4 = .returned (.tuple #[.pointer a9, .int .i64 lw]) ∧
 ∃ (I2 : Nat → List Value → World → Prop) (ow : Nat), I2 ow [.int .i64 0] od ∧ ∀ (o0 : Nat) (jj : World) (f4 : Int), I2 o0 [.int .i64 f4] jj →
 (f4 < (a7 : Int) →
 (-9223372036854775808 : Int) ≤ (f4 + 1) ∧ (f4 + 1) < 9223372036854775808 ∧
 ∃ ou : Addr, og = some ou ∧
 0 ≤ (f4 : Int) ∧ (f4 : Int) < (a7 : Int) ∧
 ∃ (gw : Option Addr) (g6 : Nat) (i5 : Nat), jj.cell? ((ou.add (Int.toNat f4 * 14)).add 3) = some (.slice gw g6 i5) ∧
 Calls Try.prog 9 #[.pointer a2, .int .u64 ag, .agg #[.int .i64 (f4 + 1), .int .i64 1], .int .i64 0, .slice gw g6 i5] jj fun oj la => ∃ (f6 : Int) (gd : Int) (k3 : Int) (kz : Int) (kx : Int) (jg : Int) (fo : Option Addr) (gl : Nat) (j0 : Nat) (l3 : Int) (dz : Int), oj = .returned (.tuple #[.agg #[.int .i64 f6, .int .i64 gd, .int .u64 k3, .int .i64 kz, .int .i64 kx, .int .i64 jg, .slice fo gl j0, .int .u64 l3], .int .i64 dz]) ∧
 (dz ≠ 0 →
 ∀ (ez : World), Ext no la ez →
 R (.bool false) ez) ∧
 (dz = 0 →
 (f4 < a8 →
 ∀ (ez : World), Ext no la ez →
 Calls Try.prog 10 #[.pointer a9, .agg #[.int .i64 f6, .int .i64 gd, .int .u64 k3, .int .i64 kz, .int .i64 kx, .int .i64 jg, .slice fo gl j0, .int .u64 l3]] ez fun o8 nc => ∃ (b3 : Int), o8 = .returned (.int .i64 b3) ∧
 (b3 ≠ 0 →
 R (.bool false) nc) ∧
 (b3 = 0 →
 (-9223372036854775808 : Int) ≤ (f4 + 1) ∧ (f4 + 1) < 9223372036854775808 ∧
 ∃ lz, lz < o0 ∧ I2 lz [.int .i64 (f4 + 1)] nc)) ∧
 (a8 ≤ f4 →
 (-9223372036854775808 : Int) ≤ (f4 + 1) ∧ (f4 + 1) < 9223372036854775808 ∧
 ∀ (ez : World), Ext no la ez →
 ∃ n9, n9 < o0 ∧ I2 n9 [.int .i64 (f4 + 1)] ez))) ∧
 ((a7 : Int) ≤ f4 →
 (a8 ≥ 0 →
 (a8 < (a7 : Int) →
 (-9223372036854775808 : Int) ≤ (a8 + 1) ∧ (a8 + 1) < 9223372036854775808 ∧
 Calls Try.prog 9 #[.pointer a9, .int .u64 ag, .agg #[.int .i64 (a8 + 1), .int .i64 1], .int .i64 0, .slice ju dy k5] jj fun na kw => ∃ (jn : Int) (jp : Int) (kk : Int) (li : Int) (lf : Int) (ka : Int) (k9 : Option Addr) (jx : Nat) (kf : Nat) (lg : Int) (ar : Int), na = .returned (.tuple #[.agg #[.int .i64 jn, .int .i64 jp, .int .u64 kk, .int .i64 li, .int .i64 lf, .int .i64 ka, .slice k9 jx kf, .int .u64 lg], .int .i64 ar]) ∧
 (ar ≠ 0 →
 ∀ (en : World), Ext no kw en →
 R (.bool false) en) ∧
 (ar = 0 →
 ∀ (en : World), Ext no kw en →
 ∃ (I4 : Nat → List Value → World → Prop) (oe : Nat), I4 oe [.int .i64 0] en ∧ ∀ (mp : Nat) (i9 : World) (ao : Int), I4 mp [.int .i64 ao] i9 →
 (ao < (a0 : Int) →
 (-9223372036854775808 : Int) ≤ ((100 : Int) + ao) ∧ ((100 : Int) + ao) < 9223372036854775808 ∧
 ∃ md : Addr, b6 = some md ∧
 0 ≤ (ao : Int) ∧ (ao : Int) < (a0 : Int) ∧
 ∃ (fg : Option Addr) (ee : Nat) (eh : Nat), i9.cell? ((md.add (Int.toNat ao * 14)).add 3) = some (.slice fg ee eh) ∧
 Calls Try.prog 9 #[.pointer a9, .int .u64 ag, .agg #[.int .i64 ((100 : Int) + ao), .int .i64 1], .int .i64 0, .slice fg ee eh] i9 fun np n6 => ∃ (jm : Int) (k4 : Int) (ko : Int) (ld : Int) (lb : Int) (k2 : Int) (kg : Option Addr) (jq : Nat) (ki : Nat) (lc : Int) (jz : Int), np = .returned (.tuple #[.agg #[.int .i64 jm, .int .i64 k4, .int .u64 ko, .int .i64 ld, .int .i64 lb, .int .i64 k2, .slice kg jq ki, .int .u64 lc], .int .i64 jz]) ∧
 (-9223372036854775808 : Int) ≤ (ao + 1) ∧ (ao + 1) < 9223372036854775808 ∧
 ∃ lu, lu < mp ∧ I4 lu [.int .i64 (ao + 1)] n6) ∧
 ((a0 : Int) ≤ ao →
 Calls Try.prog 12 #[.pointer a2] i9 fun nb m8 => ∃ (fv : Option Addr) (j7 : Nat) (i4 : Nat), nb = .returned (.slice fv j7 i4) ∧
 Calls Try.prog 12 #[.pointer a9] m8 fun mr me => ∃ (gy : Option Addr) (ji : Nat) (fs : Nat), mr = .returned (.slice gy ji fs) ∧
 Calls Try.prog 11 #[.slice fv j7 i4, .slice gy ji fs] me fun nt k8 => ∃ (a4 : Int) (a1 : Int) (ba : Int) (dx : Int) (du : Int) (ad : Int) (ah : Option Addr) (aj : Nat) (ai : Nat) (e4 : Int) (a6 : Int) (ae : Int) (aq : Int) (ds : Int) (e5 : Int) (af : Int) (ac : Option Addr) (ak : Nat) (ab : Nat) (eb : Int) (aa : Bool), nt = .returned (.tuple #[.agg #[.int .i64 a4, .int .i64 a1, .int .u64 ba, .int .i64 dx, .int .i64 du, .int .i64 ad, .slice ah aj ai, .int .u64 e4, .int .i64 a6, .int .i64 ae, .int .u64 aq, .int .i64 ds, .int .i64 e5, .int .i64 af, .slice ac ak ab, .int .u64 eb], .bool aa]) ∧
 ∃ n3 : Addr, og = some n3 ∧
 0 ≤ (a8 : Int) ∧ (a8 : Int) < (a7 : Int) ∧
 ∃ (ff : Option Addr) (eu : Nat) (ej : Nat), k8.cell? ((n3.add (Int.toNat a8 * 14)).add 3) = some (.slice ff eu ej) ∧
 ∀ (iw : World) (n5 : Nat), Ext no k8 iw → Priv k8 iw [n5] →
 Calls Try.prog 13 #[.slice ju dy k5, .slice ff eu ej] iw fun mo dm => ∃ (e3 : Bool), mo = .returned (.bool e3) ∧
 Keep [n5] iw dm ∧
 (e3 = false →
 (aa = true →
 (a1 = a8 →
 Calls Try.prog 14 #[.pointer al, .int .u64 a5, .agg #[.int .i64 a4, .int .i64 a1, .int .u64 ba, .int .i64 dx, .int .i64 du, .int .i64 ad, .slice ah aj ai, .int .u64 e4, .int .i64 a6, .int .i64 ae, .int .u64 aq, .int .i64 ds, .int .i64 e5, .int .i64 af, .slice ac ak ab, .int .u64 eb]] dm fun mv l1 => ∃ (aw : Int), mv = .returned (.int .i64 aw) ∧
 (aw = 0 →
 Calls Try.prog 5 #[] l1 fun ne mg => ∃ (eo : Bool), ne = .returned (.bool eo) ∧
 R (.bool eo) mg) ∧
 (aw ≠ 0 →
 R (.bool false) l1)) ∧
 (a1 ≠ a8 →
 R (.bool false) dm)) ∧
 (aa = false →
 R (.bool false) dm)) ∧
 (e3 = true →
 (aa = true →
 Calls Try.prog 14 #[.pointer al, .int .u64 a5, .agg #[.int .i64 a4, .int .i64 a1, .int .u64 ba, .int .i64 dx, .int .i64 du, .int .i64 ad, .slice ah aj ai, .int .u64 e4, .int .i64 a6, .int .i64 ae, .int .u64 aq, .int .i64 ds, .int .i64 e5, .int .i64 af, .slice ac ak ab, .int .u64 eb]] dm fun nm kh => ∃ (bc : Int), nm = .returned (.int .i64 bc) ∧
 (bc = 0 →
 ((a0 : Int) > 0 →
 Calls Try.prog 5 #[] kh fun lt ni => ∃ (em : Bool), lt = .returned (.bool em) ∧
 R (.bool em) ni) ∧
 ((a0 : Int) ≤ 0 →
 R (.bool false) kh)) ∧
 (bc ≠ 0 →
 R (.bool false) kh)) ∧
 (aa = false →
 Calls Try.prog 12 #[.pointer a2] dm fun my lx => ∃ (iu : Option Addr) (ft : Nat) (g3 : Nat), my = .returned (.slice iu ft g3) ∧
 Calls Try.prog 12 #[.pointer a2] lx fun ly nd => ∃ (fw : Option Addr) (j8 : Nat) (jd : Nat), ly = .returned (.slice fw j8 jd) ∧
 Calls Try.prog 11 #[.slice iu ft g3, .slice fw j8 jd] nd fun lo l4 => ∃ (b8 : Int) (db : Int) (fh : Int) (gn : Int) (iz : Int) (d0 : Int) (c0 : Option Addr) (bw : Nat) (dh : Nat) (gi : Int) (bg : Int) (bn : Int) (fj : Int) (iy : Int) (gb : Int) (de : Int) (ce : Option Addr) (c5 : Nat) (d2 : Nat) (je : Int) (dw : Bool), lo = .returned (.tuple #[.agg #[.int .i64 b8, .int .i64 db, .int .u64 fh, .int .i64 gn, .int .i64 iz, .int .i64 d0, .slice c0 bw dh, .int .u64 gi, .int .i64 bg, .int .i64 bn, .int .u64 fj, .int .i64 iy, .int .i64 gb, .int .i64 de, .slice ce c5 d2, .int .u64 je], .bool dw]) ∧
 (dw = false →
 ∀ (eg : World), Ext no l4 eg →
 Calls Try.prog 16 #[.agg #[.int .i64 b8, .int .i64 db, .int .u64 fh, .int .i64 gn, .int .i64 iz, .int .i64 d0, .slice c0 bw dh, .int .u64 gi, .int .i64 bg, .int .i64 bn, .int .u64 fj, .int .i64 iy, .int .i64 gb, .int .i64 de, .slice ce c5 d2, .int .u64 je]] eg fun mm nl => ∃ (az : Int) (cu : Int) (fd : Int) (ic : Int) (g2 : Int) (bm : Int) (cn : Option Addr) (bv : Nat) (bs : Nat) (ge : Int) (b5 : Int) (dg : Int) (fi : Int) (ir : Int) (i7 : Int) (cq : Int) (cm : Option Addr) (cb : Nat) (bz : Nat) (jh : Int), mm = .returned (.agg #[.int .i64 az, .int .i64 cu, .int .u64 fd, .int .i64 ic, .int .i64 g2, .int .i64 bm, .slice cn bv bs, .int .u64 ge, .int .i64 b5, .int .i64 dg, .int .u64 fi, .int .i64 ir, .int .i64 i7, .int .i64 cq, .slice cm cb bz, .int .u64 jh]) ∧
 Calls Try.prog 15 #[.agg #[.int .i64 az, .int .i64 cu, .int .u64 fd, .int .i64 ic, .int .i64 g2, .int .i64 bm, .slice cn bv bs, .int .u64 ge, .int .i64 b5, .int .i64 dg, .int .u64 fi, .int .i64 ir, .int .i64 i7, .int .i64 cq, .slice cm cb bz, .int .u64 jh], .agg #[.int .i64 0, .int .i64 0, .int .u64 0, .int .i64 0, .int .i64 0, .int .i64 0, .slice none 0 0, .int .u64 0, .int .i64 0, .int .i64 0, .int .u64 0, .int .i64 0, .int .i64 0, .int .i64 0, .slice none 0 0, .int .u64 0]] nl fun mi kt => ∃ (e9 : Bool), mi = .returned (.bool e9) ∧
 (e9 = true →
 Calls Try.prog 5 #[] kt fun nq mz => ∃ (fc : Bool), nq = .returned (.bool fc) ∧
 R (.bool fc) mz) ∧
 (e9 = false →
 R (.bool false) kt)) ∧
 (dw = true →
 ∀ (eg : World), Ext no l4 eg →
 R (.bool false) eg)))))) ∧
 ((a7 : Int) ≤ a8 →
 ∃ (I4 : Nat → List Value → World → Prop) (nx : Nat), I4 nx [.int .i64 0] jj ∧ ∀ (lp : Nat) (ih : World) (an : Int), I4 lp [.int .i64 an] ih →
 (an < (a0 : Int) →
 (-9223372036854775808 : Int) ≤ ((100 : Int) + an) ∧ ((100 : Int) + an) < 9223372036854775808 ∧
 ∃ m4 : Addr, b6 = some m4 ∧
 0 ≤ (an : Int) ∧ (an : Int) < (a0 : Int) ∧
 ∃ (ec : Option Addr) (fb : Nat) (f1 : Nat), ih.cell? ((m4.add (Int.toNat an * 14)).add 3) = some (.slice ec fb f1) ∧
 Calls Try.prog 9 #[.pointer a9, .int .u64 ag, .agg #[.int .i64 ((100 : Int) + an), .int .i64 1], .int .i64 0, .slice ec fb f1] ih fun ll ln => ∃ (jl : Int) (jw : Int) (kn : Int) (l6 : Int) (le : Int) (kc : Int) (jo : Option Addr) (ke : Nat) (kb : Nat) (l9 : Int) (jt : Int), ll = .returned (.tuple #[.agg #[.int .i64 jl, .int .i64 jw, .int .u64 kn, .int .i64 l6, .int .i64 le, .int .i64 kc, .slice jo ke kb, .int .u64 l9], .int .i64 jt]) ∧
 (-9223372036854775808 : Int) ≤ (an + 1) ∧ (an + 1) < 9223372036854775808 ∧
 ∃ n4, n4 < lp ∧ I4 n4 [.int .i64 (an + 1)] ln) ∧
 ((a0 : Int) ≤ an →
 Calls Try.prog 12 #[.pointer a2] ih fun lk ng => ∃ (ig : Option Addr) (jb : Nat) (gf : Nat), lk = .returned (.slice ig jb gf) ∧
 Calls Try.prog 12 #[.pointer a9] ng fun mu ns => ∃ (gv : Option Addr) (io : Nat) (j2 : Nat), mu = .returned (.slice gv io j2) ∧
 Calls Try.prog 11 #[.slice ig jb gf, .slice gv io j2] ns fun mt ku => ∃ (ay : Int) (di : Int) (f5 : Int) (i3 : Int) (j5 : Int) (dp : Int) (cf : Option Addr) (cg : Nat) (ch : Nat) (ie : Int) (b7 : Int) (bu : Int) (ei : Int) (fl : Int) (it : Int) (d4 : Int) (co : Option Addr) (c1 : Nat) (cd : Nat) (ij : Int) (dv : Bool), mt = .returned (.tuple #[.agg #[.int .i64 ay, .int .i64 di, .int .u64 f5, .int .i64 i3, .int .i64 j5, .int .i64 dp, .slice cf cg ch, .int .u64 ie, .int .i64 b7, .int .i64 bu, .int .u64 ei, .int .i64 fl, .int .i64 it, .int .i64 d4, .slice co c1 cd, .int .u64 ij], .bool dv]) ∧
 (dv = true →
 ∀ (ed : World), Ext no ku ed →
 Calls Try.prog 14 #[.pointer al, .int .u64 a5, .agg #[.int .i64 ay, .int .i64 di, .int .u64 f5, .int .i64 i3, .int .i64 j5, .int .i64 dp, .slice cf cg ch, .int .u64 ie, .int .i64 b7, .int .i64 bu, .int .u64 ei, .int .i64 fl, .int .i64 it, .int .i64 d4, .slice co c1 cd, .int .u64 ij]] ed fun lj k0 => ∃ (au : Int), lj = .returned (.int .i64 au) ∧
 (au = 0 →
 ((a0 : Int) > 0 →
 Calls Try.prog 5 #[] k0 fun mf mn => ∃ (ep : Bool), mf = .returned (.bool ep) ∧
 R (.bool ep) mn) ∧
 ((a0 : Int) ≤ 0 →
 R (.bool false) k0)) ∧
 (au ≠ 0 →
 R (.bool false) k0)) ∧
 (dv = false →
 ∀ (ed : World), Ext no ku ed →
 Calls Try.prog 12 #[.pointer a2] ed fun mk nh => ∃ (ia : Option Addr) (gc : Nat) (gr : Nat), mk = .returned (.slice ia gc gr) ∧
 Calls Try.prog 12 #[.pointer a2] nh fun nj lr => ∃ (gh : Option Addr) (g9 : Nat) (g1 : Nat), nj = .returned (.slice gh g9 g1) ∧
 Calls Try.prog 11 #[.slice ia gc gr, .slice gh g9 g1] lr fun nf l2 => ∃ (b4 : Int) (c6 : Int) (ew : Int) (ja : Int) (g5 : Int) (bx : Int) (cc : Option Addr) (ca : Nat) (d5 : Nat) (j4 : Int) (ax : Int) (cj : Int) (es : Int) (gq : Int) (jc : Int) (cy : Int) (bl : Option Addr) (d8 : Nat) (da : Nat) (fx : Int) (ea : Bool), nf = .returned (.tuple #[.agg #[.int .i64 b4, .int .i64 c6, .int .u64 ew, .int .i64 ja, .int .i64 g5, .int .i64 bx, .slice cc ca d5, .int .u64 j4, .int .i64 ax, .int .i64 cj, .int .u64 es, .int .i64 gq, .int .i64 jc, .int .i64 cy, .slice bl d8 da, .int .u64 fx], .bool ea]) ∧
 (ea = false →
 ∀ (f8 : World), Ext no l2 f8 →
 Calls Try.prog 16 #[.agg #[.int .i64 b4, .int .i64 c6, .int .u64 ew, .int .i64 ja, .int .i64 g5, .int .i64 bx, .slice cc ca d5, .int .u64 j4, .int .i64 ax, .int .i64 cj, .int .u64 es, .int .i64 gq, .int .i64 jc, .int .i64 cy, .slice bl d8 da, .int .u64 fx]] f8 fun m5 n1 => ∃ (b9 : Int) (c4 : Int) (f3 : Int) (fu : Int) (ip : Int) (dd : Int) (ck : Option Addr) (d9 : Nat) (bp : Nat) (fp : Int) (bd : Int) (cr : Int) (eq : Int) (i1 : Int) (ix : Int) (dk : Int) (dl : Option Addr) (c3 : Nat) (c2 : Nat) (ga : Int), m5 = .returned (.agg #[.int .i64 b9, .int .i64 c4, .int .u64 f3, .int .i64 fu, .int .i64 ip, .int .i64 dd, .slice ck d9 bp, .int .u64 fp, .int .i64 bd, .int .i64 cr, .int .u64 eq, .int .i64 i1, .int .i64 ix, .int .i64 dk, .slice dl c3 c2, .int .u64 ga]) ∧
 Calls Try.prog 15 #[.agg #[.int .i64 b9, .int .i64 c4, .int .u64 f3, .int .i64 fu, .int .i64 ip, .int .i64 dd, .slice ck d9 bp, .int .u64 fp, .int .i64 bd, .int .i64 cr, .int .u64 eq, .int .i64 i1, .int .i64 ix, .int .i64 dk, .slice dl c3 c2, .int .u64 ga], .agg #[.int .i64 0, .int .i64 0, .int .u64 0, .int .i64 0, .int .i64 0, .int .i64 0, .slice none 0 0, .int .u64 0, .int .i64 0, .int .i64 0, .int .u64 0, .int .i64 0, .int .i64 0, .int .i64 0, .slice none 0 0, .int .u64 0]] n1 fun nn l5 => ∃ (e2 : Bool), nn = .returned (.bool e2) ∧
 (e2 = true →
 Calls Try.prog 5 #[] l5 fun mq m2 => ∃ (fa : Bool), mq = .returned (.bool fa) ∧
 R (.bool fa) m2) ∧
 (e2 = false →
 R (.bool false) l5)) ∧
 (ea = true →
 ∀ (f8 : World), Ext no l2 f8 →
 R (.bool false) f8))))) ∧
 (a8 < 0 →
 ∃ (I4 : Nat → List Value → World → Prop) (o2 : Nat), I4 o2 [.int .i64 0] jj ∧ ∀ (m1 : Nat) (ii : World) (am : Int), I4 m1 [.int .i64 am] ii →
 (am < (a0 : Int) →
 (-9223372036854775808 : Int) ≤ ((100 : Int) + am) ∧ ((100 : Int) + am) < 9223372036854775808 ∧
 ∃ ls : Addr, b6 = some ls ∧
 0 ≤ (am : Int) ∧ (am : Int) < (a0 : Int) ∧
 ∃ (f7 : Option Addr) (fe : Nat) (ex : Nat), ii.cell? ((ls.add (Int.toNat am * 14)).add 3) = some (.slice f7 fe ex) ∧
 Calls Try.prog 9 #[.pointer a9, .int .u64 ag, .agg #[.int .i64 ((100 : Int) + am), .int .i64 1], .int .i64 0, .slice f7 fe ex] ii fun mw mh => ∃ (jk : Int) (js : Int) (kq : Int) (lh : Int) (l8 : Int) (k7 : Int) (jv : Option Addr) (jy : Nat) (kd : Nat) (l7 : Int) (k1 : Int), mw = .returned (.tuple #[.agg #[.int .i64 jk, .int .i64 js, .int .u64 kq, .int .i64 lh, .int .i64 l8, .int .i64 k7, .slice jv jy kd, .int .u64 l7], .int .i64 k1]) ∧
 (-9223372036854775808 : Int) ≤ (am + 1) ∧ (am + 1) < 9223372036854775808 ∧
 ∃ mx, mx < m1 ∧ I4 mx [.int .i64 (am + 1)] mh) ∧
 ((a0 : Int) ≤ am →
 Calls Try.prog 12 #[.pointer a2] ii fun nk ml => ∃ (j3 : Option Addr) (il : Nat) (j6 : Nat), nk = .returned (.slice j3 il j6) ∧
 Calls Try.prog 12 #[.pointer a9] ml fun m3 m9 => ∃ (jf : Option Addr) (g8 : Nat) (fk : Nat), m3 = .returned (.slice jf g8 fk) ∧
 Calls Try.prog 11 #[.slice j3 il j6, .slice jf g8 fk] m9 fun nr l0 => ∃ (b2 : Int) (cs : Int) (el : Int) (iq : Int) (i8 : Int) (c9 : Int) (d3 : Option Addr) (dq : Nat) (bq : Nat) (fq : Int) (b1 : Int) (cp : Int) (f2 : Int) (fm : Int) (g7 : Int) (bj : Int) (cl : Option Addr) (d6 : Nat) (bk : Nat) (gj : Int) (dt : Bool), nr = .returned (.tuple #[.agg #[.int .i64 b2, .int .i64 cs, .int .u64 el, .int .i64 iq, .int .i64 i8, .int .i64 c9, .slice d3 dq bq, .int .u64 fq, .int .i64 b1, .int .i64 cp, .int .u64 f2, .int .i64 fm, .int .i64 g7, .int .i64 bj, .slice cl d6 bk, .int .u64 gj], .bool dt]) ∧
 (dt = true →
 ∀ (ev : World), Ext no l0 ev →
 Calls Try.prog 14 #[.pointer al, .int .u64 a5, .agg #[.int .i64 b2, .int .i64 cs, .int .u64 el, .int .i64 iq, .int .i64 i8, .int .i64 c9, .slice d3 dq bq, .int .u64 fq, .int .i64 b1, .int .i64 cp, .int .u64 f2, .int .i64 fm, .int .i64 g7, .int .i64 bj, .slice cl d6 bk, .int .u64 gj]] ev fun lq jr => ∃ (av : Int), lq = .returned (.int .i64 av) ∧
 (av = 0 →
 ((a0 : Int) > 0 →
 Calls Try.prog 5 #[] jr fun n7 m6 => ∃ (ek : Bool), n7 = .returned (.bool ek) ∧
 R (.bool ek) m6) ∧
 ((a0 : Int) ≤ 0 →
 R (.bool false) jr)) ∧
 (av ≠ 0 →
 R (.bool false) jr)) ∧
 (dt = false →
 ∀ (ev : World), Ext no l0 ev →
 Calls Try.prog 12 #[.pointer a2] ev fun mj mb => ∃ (j1 : Option Addr) (ik : Nat) (gz : Nat), mj = .returned (.slice j1 ik gz) ∧
 Calls Try.prog 12 #[.pointer a2] mb fun n8 lv => ∃ (im : Option Addr) (fz : Nat) (i0 : Nat), n8 = .returned (.slice im fz i0) ∧
 Calls Try.prog 11 #[.slice j1 ik gz, .slice im fz i0] lv fun n0 ky => ∃ (be : Int) (cv : Int) (ef : Int) (gs : Int) (ib : Int) (ci : Int) (dr : Option Addr) (br : Nat) (bo : Nat) (gu : Int) (bf : Int) (c7 : Int) (ey : Int) (gp : Int) (gx : Int) (d1 : Int) (bh : Option Addr) (df : Nat) (bt : Nat) (i2 : Int) (e8 : Bool), n0 = .returned (.tuple #[.agg #[.int .i64 be, .int .i64 cv, .int .u64 ef, .int .i64 gs, .int .i64 ib, .int .i64 ci, .slice dr br bo, .int .u64 gu, .int .i64 bf, .int .i64 c7, .int .u64 ey, .int .i64 gp, .int .i64 gx, .int .i64 d1, .slice bh df bt, .int .u64 i2], .bool e8]) ∧
 (e8 = false →
 ∀ (f0 : World), Ext no ky f0 →
 Calls Try.prog 16 #[.agg #[.int .i64 be, .int .i64 cv, .int .u64 ef, .int .i64 gs, .int .i64 ib, .int .i64 ci, .slice dr br bo, .int .u64 gu, .int .i64 bf, .int .i64 c7, .int .u64 ey, .int .i64 gp, .int .i64 gx, .int .i64 d1, .slice bh df bt, .int .u64 i2]] f0 fun m0 n2 => ∃ (b0 : Int) (c8 : Int) (f9 : Int) (g0 : Int) (gg : Int) (cw : Int) (cz : Option Addr) (dj : Nat) (ct : Nat) (gt : Int) (bb : Int) (dn : Int) (et : Int) (iv : Int) (fy : Int) (dc : Int) (cx : Option Addr) (d7 : Nat) (bi : Nat) (gk : Int), m0 = .returned (.agg #[.int .i64 b0, .int .i64 c8, .int .u64 f9, .int .i64 g0, .int .i64 gg, .int .i64 cw, .slice cz dj ct, .int .u64 gt, .int .i64 bb, .int .i64 dn, .int .u64 et, .int .i64 iv, .int .i64 fy, .int .i64 dc, .slice cx d7 bi, .int .u64 gk]) ∧
 Calls Try.prog 15 #[.agg #[.int .i64 b0, .int .i64 c8, .int .u64 f9, .int .i64 g0, .int .i64 gg, .int .i64 cw, .slice cz dj ct, .int .u64 gt, .int .i64 bb, .int .i64 dn, .int .u64 et, .int .i64 iv, .int .i64 fy, .int .i64 dc, .slice cx d7 bi, .int .u64 gk], .agg #[.int .i64 0, .int .i64 0, .int .u64 0, .int .i64 0, .int .i64 0, .int .i64 0, .slice none 0 0, .int .u64 0, .int .i64 0, .int .i64 0, .int .u64 0, .int .i64 0, .int .i64 0, .int .i64 0, .slice none 0 0, .int .u64 0]] n2 fun ms kv => ∃ (e7 : Bool), ms = .returned (.bool e7) ∧
 (e7 = true →
 Calls Try.prog 5 #[] kv fun mc ma => ∃ (er : Bool), mc = .returned (.bool er) ∧
 R (.bool er) ma) ∧
 (e7 = false →
 R (.bool false) kv)) ∧
 (e8 = true →
 ∀ (f0 : World), Ext no ky f0 →
 R (.bool false) f0)))))))))

theorem cachettelaw23_ForkcheckProves.up (l1a : Option Addr) (zh : Nat) (l1c : Nat) (p2 : Int) (gg : Option Addr) (gl : Nat) (i2 : Nat) (i1 : Option Addr) (gd : Nat) (i5 : Nat) {R : Value → World → Prop} {w : World} (h : cachettelaw23_ForkcheckProves.N l1a zh l1c p2 gg gl i2 i1 gd i5 R w) : cachettelaw23_ForkcheckProves.M l1a zh l1c p2 gg gl i2 i1 gd i5 R w := by
  unfold cachettelaw23_ForkcheckProves.M
  unfold cachettelaw23_ForkcheckProves.N at h
  refine bif_of (fun c5 => ?_) (fun c5 => ?_)
  · have h := h.1 (of_decide_eq_true c5)
    refine h.mono fun ee7 ww8 h => ?_
    obtain ⟨lx, he, h⟩ := h
    refine ⟨lx, he, ?_⟩
    exact h
  · have h := h.2 (Int.not_lt.1 (of_decide_eq_false c5))
    refine bif_of (fun c9 => ?_) (fun c9 => ?_)
    · have h := h.1 (of_decide_eq_true c9)
      refine h.mono fun a83 a92 h => ?_
      obtain ⟨jo, he, h⟩ := h
      refine ⟨jo, he, ?_⟩
      exact h
    · have h := h.2 (Int.not_lt.1 (of_decide_eq_false c9))
      refine bif_of (fun z4 => ?_) (fun z4 => ?_)
      · have h := h.1 (of_decide_eq_true z4)
        refine h.mono fun a72 a80 h => ?_
        obtain ⟨kt, he, h⟩ := h
        refine ⟨kt, he, ?_⟩
        exact h
      · have h := h.2 (Int.not_lt.1 (of_decide_eq_false z4))
        obtain ⟨I0, m18, h0, h⟩ := h
        refine ⟨I0, m18, h0, fun m19 z0 i17 hI => ?_⟩
        have h := h m19 z0 i17 hI
        obtain ⟨dx, dw, h⟩ := h
        try rw [w64 dx dw]
        refine bif_of (fun yv => ?_) (fun yv => ?_)
        · have h := h.1 (of_decide_eq_true yv)
          refine bif_of (fun yu => ?_) (fun yu => ?_)
          · have h := h.1 (of_decide_eq_true yu)
            obtain ⟨a23, y9, h⟩ := h
            refine elim_some y9 ?_
            obtain ⟨er, es, h⟩ := h
            refine ⟨er, es, ?_⟩
            obtain ⟨iu, jr, ky, yq, h⟩ := h
            refine ⟨iu, jr, ky, yq, ?_⟩
            refine bif_of (fun yo => ?_) (fun yo => ?_)
            · have h := h.1 (of_decide_eq_true yo)
              refine h.mono fun a98 a67 h => ?_
              obtain ⟨iv, he, h⟩ := h
              refine ⟨iv, he, ?_⟩
              exact h
            · have h := h.2 (Int.not_lt.1 (of_decide_eq_false yo))
              refine bif_of (fun y5 => ?_) (fun y5 => ?_)
              · have h := h.1 (of_decide_eq_true y5)
                obtain ⟨dx, dw, h⟩ := h
                try rw [w64 dx dw]
                obtain ⟨a31, yp, h⟩ := h
                refine elim_some yp ?_
                obtain ⟨er, es, h⟩ := h
                refine ⟨er, es, ?_⟩
                obtain ⟨kq, jq, ja, xx, h⟩ := h
                refine ⟨kq, jq, ja, xx, ?_⟩
                refine bif_of (fun yh => ?_) (fun yh => ?_)
                · have h := h.1 (of_decide_eq_true yh)
                  refine h.mono fun a74 a81 h => ?_
                  obtain ⟨k5, he, h⟩ := h
                  refine ⟨k5, he, ?_⟩
                  exact h
                · have h := h.2 (Int.not_lt.1 (of_decide_eq_false yh))
                  obtain ⟨dx, dw, h⟩ := h
                  try rw [w64 dx dw]
                  obtain ⟨m38, hk, h⟩ := h
                  exact ⟨m38, hk, h⟩
              · have h := h.2 (Int.not_le.1 (of_decide_eq_false y5))
                obtain ⟨dx, dw, h⟩ := h
                try rw [w64 dx dw]
                obtain ⟨m39, hk, h⟩ := h
                exact ⟨m39, hk, h⟩
          · have h := h.2 (Int.not_lt.1 (of_decide_eq_false yu))
            refine bif_of (fun yk => ?_) (fun yk => ?_)
            · have h := h.1 (of_decide_eq_true yk)
              obtain ⟨dx, dw, h⟩ := h
              try rw [w64 dx dw]
              obtain ⟨a41, ye, h⟩ := h
              refine elim_some ye ?_
              obtain ⟨er, es, h⟩ := h
              refine ⟨er, es, ?_⟩
              obtain ⟨je, ku, kb, xy, h⟩ := h
              refine ⟨je, ku, kb, xy, ?_⟩
              refine bif_of (fun y7 => ?_) (fun y7 => ?_)
              · have h := h.1 (of_decide_eq_true y7)
                refine h.mono fun aa3 a73 h => ?_
                obtain ⟨j8, he, h⟩ := h
                refine ⟨j8, he, ?_⟩
                exact h
              · have h := h.2 (Int.not_lt.1 (of_decide_eq_false y7))
                obtain ⟨dx, dw, h⟩ := h
                try rw [w64 dx dw]
                obtain ⟨m48, hk, h⟩ := h
                exact ⟨m48, hk, h⟩
            · have h := h.2 (Int.not_le.1 (of_decide_eq_false yk))
              obtain ⟨dx, dw, h⟩ := h
              try rw [w64 dx dw]
              obtain ⟨m49, hk, h⟩ := h
              exact ⟨m49, hk, h⟩
        · have h := h.2 (Int.not_lt.1 (of_decide_eq_false yv))
          refine h.mono fun a68 a90 h => ?_
          obtain ⟨tr, he, h⟩ := h
          refine ⟨tr, he, ?_⟩
          refine h.mono fun a88 a99 h => ?_
          obtain ⟨m1, m4, he, h⟩ := h
          refine ⟨m1, m4, he, ?_⟩
          refine h.mono fun a91 a86 h => ?_
          obtain ⟨oi, mw, he, h⟩ := h
          refine ⟨oi, mw, he, ?_⟩
          refine h.mono fun a82 a93 h => ?_
          obtain ⟨u6, o3, he, h⟩ := h
          refine ⟨u6, o3, he, ?_⟩
          obtain ⟨I2, m66, h0, h⟩ := h
          refine ⟨I2, m66, h0, fun m67 y2 i65 hI => ?_⟩
          have h := h m67 y2 i65 hI
          refine bif_of (fun y1 => ?_) (fun y1 => ?_)
          · have h := h.1 (of_decide_eq_true y1)
            obtain ⟨dx, dw, h⟩ := h
            try rw [w64 dx dw]
            obtain ⟨a70, xz, h⟩ := h
            refine elim_some xz ?_
            obtain ⟨er, es, h⟩ := h
            refine ⟨er, es, ?_⟩
            obtain ⟨jy, jb, k4, xu, h⟩ := h
            refine ⟨jy, jb, k4, xu, ?_⟩
            refine h.mono fun aa0 d9 h => ?_
            obtain ⟨c6, cr, da, e8, ec, e0, e2, e4, e5, ie, jp, he, h⟩ := h
            refine ⟨c6, cr, da, e8, ec, e0, e2, e4, e5, ie, jp, he, ?_⟩
            refine thenW_in fun aa1 e84 => ?_
            have dy := Blk.of_new e84
            have l9 := ((Ext.refl no d9)).size
            have yn := (Ext.refl no d9).x_alloc e84
            refine ⟨dy.cani 0 rfl rfl, thenW_in fun yj zx => ?_⟩
            have yt := yn.x_set (q := d9.heap.size) (i := 0) rfl (.inr l9) zx
            have dy : Blk yj d9.heap.size 29 [.int .i64 c6, .int .i64 0, .int .u64 0, .int .i64 0, .int .i64 0, .int .i64 0, .slice none 0 0, .int .u64 0] := dy.seti 0 rfl zx
            refine ⟨dy.cani 1 rfl rfl, thenW_in fun z3 e86 => ?_⟩
            have y8 := yt.x_set (q := d9.heap.size) (i := 1) rfl (.inr l9) e86
            have dy : Blk z3 d9.heap.size 29 [.int .i64 c6, .int .i64 cr, .int .u64 0, .int .i64 0, .int .i64 0, .int .i64 0, .slice none 0 0, .int .u64 0] := dy.seti 1 rfl e86
            refine ⟨dy.cani 2 rfl rfl, thenW_in fun xv e87 => ?_⟩
            have yd := y8.x_set (q := d9.heap.size) (i := 2) rfl (.inr l9) e87
            have dy : Blk xv d9.heap.size 29 [.int .i64 c6, .int .i64 cr, .int .u64 da, .int .i64 0, .int .i64 0, .int .i64 0, .slice none 0 0, .int .u64 0] := dy.seti 2 rfl e87
            refine ⟨dy.cani 3 rfl rfl, thenW_in fun z5 ze => ?_⟩
            have yi := yd.x_set (q := d9.heap.size) (i := 3) rfl (.inr l9) ze
            have dy : Blk z5 d9.heap.size 29 [.int .i64 c6, .int .i64 cr, .int .u64 da, .int .i64 e8, .int .i64 0, .int .i64 0, .slice none 0 0, .int .u64 0] := dy.seti 3 rfl ze
            refine ⟨dy.cani 4 rfl rfl, thenW_in fun yy e89 => ?_⟩
            have y6 := yi.x_set (q := d9.heap.size) (i := 4) rfl (.inr l9) e89
            have dy : Blk yy d9.heap.size 29 [.int .i64 c6, .int .i64 cr, .int .u64 da, .int .i64 e8, .int .i64 ec, .int .i64 0, .slice none 0 0, .int .u64 0] := dy.seti 4 rfl e89
            refine ⟨dy.cani 5 rfl rfl, thenW_in fun ys e90 => ?_⟩
            have yw := y6.x_set (q := d9.heap.size) (i := 5) rfl (.inr l9) e90
            have dy : Blk ys d9.heap.size 29 [.int .i64 c6, .int .i64 cr, .int .u64 da, .int .i64 e8, .int .i64 ec, .int .i64 e0, .slice none 0 0, .int .u64 0] := dy.seti 5 rfl e90
            refine ⟨dy.cani 6 rfl rfl, thenW_in fun z6 e91 => ?_⟩
            have yc := yw.x_set (q := d9.heap.size) (i := 6) rfl (.inr l9) e91
            have dy : Blk z6 d9.heap.size 29 [.int .i64 c6, .int .i64 cr, .int .u64 da, .int .i64 e8, .int .i64 ec, .int .i64 e0, .slice e2 e4 e5, .int .u64 0] := dy.seti 6 rfl e91
            refine ⟨dy.cani 7 rfl rfl, thenW_in fun js e92 => ?_⟩
            have mc := yc.x_set (q := d9.heap.size) (i := 7) rfl (.inr l9) e92
            have dy : Blk js d9.heap.size 29 [.int .i64 c6, .int .i64 cr, .int .u64 da, .int .i64 e8, .int .i64 ec, .int .i64 e0, .slice e2 e4 e5, .int .u64 ie] := dy.seti 7 rfl e92
            refine bif_of (fun z7 => ?_) (fun z7 => ?_)
            · have h := h.1 (bne_t z7)
              have h := h js mc
              exact h
            · have h := h.2 (bne_f z7)
              refine bif_of (fun ym => ?_) (fun ym => ?_)
              · have h := h.1 (of_decide_eq_true ym)
                refine ⟨c6, cr, da, e8, ec, e0, e2, e4, e5, ie, ⟨dy.celli 0 rfl rfl, dy.celli 1 rfl rfl, dy.celli 2 rfl rfl, dy.celli 3 rfl rfl, dy.celli 4 rfl rfl, dy.celli 5 rfl rfl, dy.celli 6 rfl rfl, dy.celli 7 rfl rfl, trivial⟩, ?_⟩
                have h := h js mc
                refine h.mono fun a87 a95 h => ?_
                obtain ⟨gp, he, h⟩ := h
                refine ⟨gp, he, ?_⟩
                refine bif_of (fun mb => ?_) (fun mb => ?_)
                · have h := h.1 (bne_t mb)
                  exact h
                · have h := h.2 (bne_f mb)
                  obtain ⟨dx, dw, h⟩ := h
                  try rw [w64 dx dw]
                  obtain ⟨y4, hk, h⟩ := h
                  exact ⟨y4, hk, h⟩
              · have h := h.2 (Int.not_lt.1 (of_decide_eq_false ym))
                obtain ⟨dx, dw, h⟩ := h
                try rw [w64 dx dw]
                have h := h js mc
                obtain ⟨z1, hk, h⟩ := h
                exact ⟨z1, hk, h⟩
          · have h := h.2 (Int.not_lt.1 (of_decide_eq_false y1))
            refine bif_of (fun f5 => ?_) (fun f5 => ?_)
            · have h := h.1 (of_decide_eq_true f5)
              refine bif_of (fun ib => ?_) (fun ib => ?_)
              · have h := h.1 (of_decide_eq_true ib)
                obtain ⟨dx, dw, h⟩ := h
                try rw [w64 dx dw]
                refine h.mono fun a40 ck h => ?_
                obtain ⟨c3, cm, d4, e1, ea, dz, e9, e7, eb, ii, fy, he, h⟩ := h
                refine ⟨c3, cm, d4, e1, ea, dz, e9, e7, eb, ii, fy, he, ?_⟩
                refine thenW_in fun a38 u5 => ?_
                have e3 := Blk.of_new u5
                have lb := ((Ext.refl no ck)).size
                have t3 := (Ext.refl no ck).x_alloc u5
                refine ⟨e3.cani 0 rfl rfl, thenW_in fun vz nu => ?_⟩
                have og := t3.x_set (q := ck.heap.size) (i := 0) rfl (.inr lb) nu
                have e3 : Blk vz ck.heap.size 29 [.int .i64 c3, .int .i64 0, .int .u64 0, .int .i64 0, .int .i64 0, .int .i64 0, .slice none 0 0, .int .u64 0] := e3.seti 0 rfl nu
                refine ⟨e3.cani 1 rfl rfl, thenW_in fun vb pu => ?_⟩
                have sy := og.x_set (q := ck.heap.size) (i := 1) rfl (.inr lb) pu
                have e3 : Blk vb ck.heap.size 29 [.int .i64 c3, .int .i64 cm, .int .u64 0, .int .i64 0, .int .i64 0, .int .i64 0, .slice none 0 0, .int .u64 0] := e3.seti 1 rfl pu
                refine ⟨e3.cani 2 rfl rfl, thenW_in fun n5 po => ?_⟩
                have ue := sy.x_set (q := ck.heap.size) (i := 2) rfl (.inr lb) po
                have e3 : Blk n5 ck.heap.size 29 [.int .i64 c3, .int .i64 cm, .int .u64 d4, .int .i64 0, .int .i64 0, .int .i64 0, .slice none 0 0, .int .u64 0] := e3.seti 2 rfl po
                refine ⟨e3.cani 3 rfl rfl, thenW_in fun qe ow => ?_⟩
                have ng := ue.x_set (q := ck.heap.size) (i := 3) rfl (.inr lb) ow
                have e3 : Blk qe ck.heap.size 29 [.int .i64 c3, .int .i64 cm, .int .u64 d4, .int .i64 e1, .int .i64 0, .int .i64 0, .slice none 0 0, .int .u64 0] := e3.seti 3 rfl ow
                refine ⟨e3.cani 4 rfl rfl, thenW_in fun v2 o4 => ?_⟩
                have ot := ng.x_set (q := ck.heap.size) (i := 4) rfl (.inr lb) o4
                have e3 : Blk v2 ck.heap.size 29 [.int .i64 c3, .int .i64 cm, .int .u64 d4, .int .i64 e1, .int .i64 ea, .int .i64 0, .slice none 0 0, .int .u64 0] := e3.seti 4 rfl o4
                refine ⟨e3.cani 5 rfl rfl, thenW_in fun ve mn => ?_⟩
                have tn := ot.x_set (q := ck.heap.size) (i := 5) rfl (.inr lb) mn
                have e3 : Blk ve ck.heap.size 29 [.int .i64 c3, .int .i64 cm, .int .u64 d4, .int .i64 e1, .int .i64 ea, .int .i64 dz, .slice none 0 0, .int .u64 0] := e3.seti 5 rfl mn
                refine ⟨e3.cani 6 rfl rfl, thenW_in fun td vf => ?_⟩
                have xm := tn.x_set (q := ck.heap.size) (i := 6) rfl (.inr lb) vf
                have e3 : Blk td ck.heap.size 29 [.int .i64 c3, .int .i64 cm, .int .u64 d4, .int .i64 e1, .int .i64 ea, .int .i64 dz, .slice e9 e7 eb, .int .u64 0] := e3.seti 6 rfl vf
                refine ⟨e3.cani 7 rfl rfl, thenW_in fun g9 qz => ?_⟩
                have l8 := xm.x_set (q := ck.heap.size) (i := 7) rfl (.inr lb) qz
                have e3 : Blk g9 ck.heap.size 29 [.int .i64 c3, .int .i64 cm, .int .u64 d4, .int .i64 e1, .int .i64 ea, .int .i64 dz, .slice e9 e7 eb, .int .u64 ii] := e3.seti 7 rfl qz
                refine bif_of (fun me => ?_) (fun me => ?_)
                · have h := h.1 (bne_t me)
                  have h := h g9 l8
                  exact h
                · have h := h.2 (bne_f me)
                  have h := h g9 l8
                  obtain ⟨I4, z2, h0, h⟩ := h
                  refine ⟨I4, z2, h0, fun yl tg yz hI => ?_⟩
                  have h := h yl tg yz hI
                  refine bif_of (fun lh => ?_) (fun lh => ?_)
                  · have h := h.1 (of_decide_eq_true lh)
                    obtain ⟨dx, dw, h⟩ := h
                    try rw [w64 dx dw]
                    obtain ⟨a79, od, h⟩ := h
                    refine elim_some od ?_
                    obtain ⟨er, es, h⟩ := h
                    refine ⟨er, es, ?_⟩
                    obtain ⟨io, fx, g2, ov, h⟩ := h
                    refine ⟨io, fx, g2, ov, ?_⟩
                    refine h.mono fun a62 a34 h => ?_
                    obtain ⟨fa, gy, jv, m8, m0, gu, ik, g8, ip, m2, gr, he, h⟩ := h
                    refine ⟨fa, gy, jv, m8, m0, gu, ik, g8, ip, m2, gr, he, ?_⟩
                    obtain ⟨dx, dw, h⟩ := h
                    try rw [w64 dx dw]
                    obtain ⟨y0, hk, h⟩ := h
                    exact ⟨y0, hk, h⟩
                  · have h := h.2 (Int.not_lt.1 (of_decide_eq_false lh))
                    refine h.mono fun a42 zv h => ?_
                    obtain ⟨j0, kr, k3, he, h⟩ := h
                    refine ⟨j0, kr, k3, he, ?_⟩
                    refine h.mono fun a19 a01 h => ?_
                    obtain ⟨jz, l5, ix, he, h⟩ := h
                    refine ⟨jz, l5, ix, he, ?_⟩
                    refine h.mono fun a66 ac h => ?_
                    obtain ⟨a0, a6, ad, bk, bm, af, au, ax, aw, cb, az, bs, ce, ct, d7, cs, cv, d1, cu, e6, l4, he, h⟩ := h
                    refine ⟨a0, a6, ad, bk, bm, af, au, ax, aw, cb, az, bs, ce, ct, d7, cs, cv, d1, cu, e6, l4, he, ?_⟩
                    refine thenW_in fun a44 xs => ?_
                    have bl := Blk.of_new xs
                    have ei := ((Ext.refl no ac)).size
                    have n1 := (Ext.refl no ac).x_alloc xs
                    refine ⟨bl.cani 0 rfl rfl, thenW_in fun oq tc => ?_⟩
                    have x4 := n1.x_set (q := ac.heap.size) (i := 0) rfl (.inr ei) tc
                    have bl : Blk oq ac.heap.size 44 [.int .i64 a0, .int .i64 0, .int .u64 0, .int .i64 0, .int .i64 0, .int .i64 0, .slice none 0 0, .int .u64 0, .int .i64 0, .int .i64 0, .int .u64 0, .int .i64 0, .int .i64 0, .int .i64 0, .slice none 0 0, .int .u64 0] := bl.seti 0 rfl tc
                    refine ⟨bl.cani 1 rfl rfl, thenW_in fun vn vo => ?_⟩
                    have o0 := x4.x_set (q := ac.heap.size) (i := 1) rfl (.inr ei) vo
                    have bl : Blk vn ac.heap.size 44 [.int .i64 a0, .int .i64 a6, .int .u64 0, .int .i64 0, .int .i64 0, .int .i64 0, .slice none 0 0, .int .u64 0, .int .i64 0, .int .i64 0, .int .u64 0, .int .i64 0, .int .i64 0, .int .i64 0, .slice none 0 0, .int .u64 0] := bl.seti 1 rfl vo
                    refine ⟨bl.cani 2 rfl rfl, thenW_in fun nf mq => ?_⟩
                    have qm := o0.x_set (q := ac.heap.size) (i := 2) rfl (.inr ei) mq
                    have bl : Blk nf ac.heap.size 44 [.int .i64 a0, .int .i64 a6, .int .u64 ad, .int .i64 0, .int .i64 0, .int .i64 0, .slice none 0 0, .int .u64 0, .int .i64 0, .int .i64 0, .int .u64 0, .int .i64 0, .int .i64 0, .int .i64 0, .slice none 0 0, .int .u64 0] := bl.seti 2 rfl mq
                    refine ⟨bl.cani 3 rfl rfl, thenW_in fun pr t4 => ?_⟩
                    have sk := qm.x_set (q := ac.heap.size) (i := 3) rfl (.inr ei) t4
                    have bl : Blk pr ac.heap.size 44 [.int .i64 a0, .int .i64 a6, .int .u64 ad, .int .i64 bk, .int .i64 0, .int .i64 0, .slice none 0 0, .int .u64 0, .int .i64 0, .int .i64 0, .int .u64 0, .int .i64 0, .int .i64 0, .int .i64 0, .slice none 0 0, .int .u64 0] := bl.seti 3 rfl t4
                    refine ⟨bl.cani 4 rfl rfl, thenW_in fun o8 qy => ?_⟩
                    have um := sk.x_set (q := ac.heap.size) (i := 4) rfl (.inr ei) qy
                    have bl : Blk o8 ac.heap.size 44 [.int .i64 a0, .int .i64 a6, .int .u64 ad, .int .i64 bk, .int .i64 bm, .int .i64 0, .slice none 0 0, .int .u64 0, .int .i64 0, .int .i64 0, .int .u64 0, .int .i64 0, .int .i64 0, .int .i64 0, .slice none 0 0, .int .u64 0] := bl.seti 4 rfl qy
                    refine ⟨bl.cani 5 rfl rfl, thenW_in fun vu nc => ?_⟩
                    have st := um.x_set (q := ac.heap.size) (i := 5) rfl (.inr ei) nc
                    have bl : Blk vu ac.heap.size 44 [.int .i64 a0, .int .i64 a6, .int .u64 ad, .int .i64 bk, .int .i64 bm, .int .i64 af, .slice none 0 0, .int .u64 0, .int .i64 0, .int .i64 0, .int .u64 0, .int .i64 0, .int .i64 0, .int .i64 0, .slice none 0 0, .int .u64 0] := bl.seti 5 rfl nc
                    refine ⟨bl.cani 6 rfl rfl, thenW_in fun o6 sx => ?_⟩
                    have na := st.x_set (q := ac.heap.size) (i := 6) rfl (.inr ei) sx
                    have bl : Blk o6 ac.heap.size 44 [.int .i64 a0, .int .i64 a6, .int .u64 ad, .int .i64 bk, .int .i64 bm, .int .i64 af, .slice au ax aw, .int .u64 0, .int .i64 0, .int .i64 0, .int .u64 0, .int .i64 0, .int .i64 0, .int .i64 0, .slice none 0 0, .int .u64 0] := bl.seti 6 rfl sx
                    refine ⟨bl.cani 7 rfl rfl, thenW_in fun qa p3 => ?_⟩
                    have n6 := na.x_set (q := ac.heap.size) (i := 7) rfl (.inr ei) p3
                    have bl : Blk qa ac.heap.size 44 [.int .i64 a0, .int .i64 a6, .int .u64 ad, .int .i64 bk, .int .i64 bm, .int .i64 af, .slice au ax aw, .int .u64 cb, .int .i64 0, .int .i64 0, .int .u64 0, .int .i64 0, .int .i64 0, .int .i64 0, .slice none 0 0, .int .u64 0] := bl.seti 7 rfl p3
                    refine ⟨bl.cani 8 rfl rfl, thenW_in fun o9 pb => ?_⟩
                    have tv := n6.x_set (q := ac.heap.size) (i := 8) rfl (.inr ei) pb
                    have bl : Blk o9 ac.heap.size 44 [.int .i64 a0, .int .i64 a6, .int .u64 ad, .int .i64 bk, .int .i64 bm, .int .i64 af, .slice au ax aw, .int .u64 cb, .int .i64 az, .int .i64 0, .int .u64 0, .int .i64 0, .int .i64 0, .int .i64 0, .slice none 0 0, .int .u64 0] := bl.seti 8 rfl pb
                    refine ⟨bl.cani 9 rfl rfl, thenW_in fun ob tu => ?_⟩
                    have nx := tv.x_set (q := ac.heap.size) (i := 9) rfl (.inr ei) tu
                    have bl : Blk ob ac.heap.size 44 [.int .i64 a0, .int .i64 a6, .int .u64 ad, .int .i64 bk, .int .i64 bm, .int .i64 af, .slice au ax aw, .int .u64 cb, .int .i64 az, .int .i64 bs, .int .u64 0, .int .i64 0, .int .i64 0, .int .i64 0, .slice none 0 0, .int .u64 0] := bl.seti 9 rfl tu
                    refine ⟨bl.cani 10 rfl rfl, thenW_in fun qw ns => ?_⟩
                    have p0 := nx.x_set (q := ac.heap.size) (i := 10) rfl (.inr ei) ns
                    have bl : Blk qw ac.heap.size 44 [.int .i64 a0, .int .i64 a6, .int .u64 ad, .int .i64 bk, .int .i64 bm, .int .i64 af, .slice au ax aw, .int .u64 cb, .int .i64 az, .int .i64 bs, .int .u64 ce, .int .i64 0, .int .i64 0, .int .i64 0, .slice none 0 0, .int .u64 0] := bl.seti 10 rfl ns
                    refine ⟨bl.cani 11 rfl rfl, thenW_in fun nz qk => ?_⟩
                    have tk := p0.x_set (q := ac.heap.size) (i := 11) rfl (.inr ei) qk
                    have bl : Blk nz ac.heap.size 44 [.int .i64 a0, .int .i64 a6, .int .u64 ad, .int .i64 bk, .int .i64 bm, .int .i64 af, .slice au ax aw, .int .u64 cb, .int .i64 az, .int .i64 bs, .int .u64 ce, .int .i64 ct, .int .i64 0, .int .i64 0, .slice none 0 0, .int .u64 0] := bl.seti 11 rfl qk
                    refine ⟨bl.cani 12 rfl rfl, thenW_in fun vq mo => ?_⟩
                    have ta := tk.x_set (q := ac.heap.size) (i := 12) rfl (.inr ei) mo
                    have bl : Blk vq ac.heap.size 44 [.int .i64 a0, .int .i64 a6, .int .u64 ad, .int .i64 bk, .int .i64 bm, .int .i64 af, .slice au ax aw, .int .u64 cb, .int .i64 az, .int .i64 bs, .int .u64 ce, .int .i64 ct, .int .i64 d7, .int .i64 0, .slice none 0 0, .int .u64 0] := bl.seti 12 rfl mo
                    refine ⟨bl.cani 13 rfl rfl, thenW_in fun nb xn => ?_⟩
                    have tj := ta.x_set (q := ac.heap.size) (i := 13) rfl (.inr ei) xn
                    have bl : Blk nb ac.heap.size 44 [.int .i64 a0, .int .i64 a6, .int .u64 ad, .int .i64 bk, .int .i64 bm, .int .i64 af, .slice au ax aw, .int .u64 cb, .int .i64 az, .int .i64 bs, .int .u64 ce, .int .i64 ct, .int .i64 d7, .int .i64 cs, .slice none 0 0, .int .u64 0] := bl.seti 13 rfl xn
                    refine ⟨bl.cani 14 rfl rfl, thenW_in fun s8 mu => ?_⟩
                    have o7 := tj.x_set (q := ac.heap.size) (i := 14) rfl (.inr ei) mu
                    have bl : Blk s8 ac.heap.size 44 [.int .i64 a0, .int .i64 a6, .int .u64 ad, .int .i64 bk, .int .i64 bm, .int .i64 af, .slice au ax aw, .int .u64 cb, .int .i64 az, .int .i64 bs, .int .u64 ce, .int .i64 ct, .int .i64 d7, .int .i64 cs, .slice cv d1 cu, .int .u64 0] := bl.seti 14 rfl mu
                    refine ⟨bl.cani 15 rfl rfl, thenW_in fun lc qp => ?_⟩
                    have ld := o7.x_set (q := ac.heap.size) (i := 15) rfl (.inr ei) qp
                    have bl : Blk lc ac.heap.size 44 [.int .i64 a0, .int .i64 a6, .int .u64 ad, .int .i64 bk, .int .i64 bm, .int .i64 af, .slice au ax aw, .int .u64 cb, .int .i64 az, .int .i64 bs, .int .u64 ce, .int .i64 ct, .int .i64 d7, .int .i64 cs, .slice cv d1 cu, .int .u64 e6] := bl.seti 15 rfl qp
                    refine bif_tt f5 ?_
                    refine bif_tt ib ?_
                    obtain ⟨a89, v6, h⟩ := h
                    refine elim_some v6 ?_
                    obtain ⟨er, es, h⟩ := h
                    refine ⟨er, es, ?_⟩
                    obtain ⟨il, gm, g5, tq, h⟩ := h
                    refine ⟨il, gm, g5, (ld).cell tq id, ?_⟩
                    have h := h lc (ac.heap.size) ld (Priv.cons ei bl.lt Priv.nil)
                    refine h.mono fun a17 a61 h => ?_
                    obtain ⟨k8, he, hk, h⟩ := h
                    refine ⟨k8, he, ?_⟩
                    have bl := hk.blk bl (by simp)
                    refine bif_of (fun lg => ?_) (fun lg => ?_)
                    · have h := h.1 (not_t lg)
                      refine bif_of (fun lj => ?_) (fun lj => ?_)
                      · have h := h.1 lj
                        refine ⟨a6, bl.celli 1 rfl rfl, ?_⟩
                        refine bif_of (fun ma => ?_) (fun ma => ?_)
                        · have h := h.1 (beq_t ma)
                          refine ⟨a0, a6, ad, bk, bm, af, au, ax, aw, cb, az, bs, ce, ct, d7, cs, cv, d1, cu, e6, ⟨bl.celli 0 rfl rfl, bl.celli 1 rfl rfl, bl.celli 2 rfl rfl, bl.celli 3 rfl rfl, bl.celli 4 rfl rfl, bl.celli 5 rfl rfl, bl.celli 6 rfl rfl, bl.celli 7 rfl rfl, bl.celli 8 rfl rfl, bl.celli 9 rfl rfl, bl.celli 10 rfl rfl, bl.celli 11 rfl rfl, bl.celli 12 rfl rfl, bl.celli 13 rfl rfl, bl.celli 14 rfl rfl, bl.celli 15 rfl rfl, trivial⟩, ?_⟩
                          refine h.mono fun a25 a16 h => ?_
                          obtain ⟨g4, he, h⟩ := h
                          refine ⟨g4, he, ?_⟩
                          refine bif_of (fun lw => ?_) (fun lw => ?_)
                          · have h := h.1 (beq_t lw)
                            refine h.mono fun a45 a03 h => ?_
                            obtain ⟨gc, he, h⟩ := h
                            refine ⟨gc, he, ?_⟩
                            exact h
                          · have h := h.2 (beq_f lw)
                            exact h
                        · have h := h.2 (beq_f ma)
                          exact h
                      · have h := h.2 lj
                        exact h
                    · have h := h.2 (not_f lg)
                      refine bif_of (fun ls => ?_) (fun ls => ?_)
                      · have h := h.1 ls
                        refine ⟨a0, a6, ad, bk, bm, af, au, ax, aw, cb, az, bs, ce, ct, d7, cs, cv, d1, cu, e6, ⟨bl.celli 0 rfl rfl, bl.celli 1 rfl rfl, bl.celli 2 rfl rfl, bl.celli 3 rfl rfl, bl.celli 4 rfl rfl, bl.celli 5 rfl rfl, bl.celli 6 rfl rfl, bl.celli 7 rfl rfl, bl.celli 8 rfl rfl, bl.celli 9 rfl rfl, bl.celli 10 rfl rfl, bl.celli 11 rfl rfl, bl.celli 12 rfl rfl, bl.celli 13 rfl rfl, bl.celli 14 rfl rfl, bl.celli 15 rfl rfl, trivial⟩, ?_⟩
                        refine h.mono fun a58 a60 h => ?_
                        obtain ⟨im, he, h⟩ := h
                        refine ⟨im, he, ?_⟩
                        refine bif_of (fun m6 => ?_) (fun m6 => ?_)
                        · have h := h.1 (beq_t m6)
                          refine bif_of (fun lu => ?_) (fun lu => ?_)
                          · have h := h.1 (of_decide_eq_true lu)
                            refine h.mono fun zi a53 h => ?_
                            obtain ⟨g7, he, h⟩ := h
                            refine ⟨g7, he, ?_⟩
                            exact h
                          · have h := h.2 (Int.not_lt.1 (of_decide_eq_false lu))
                            exact h
                        · have h := h.2 (beq_f m6)
                          exact h
                      · have h := h.2 ls
                        refine h.mono fun a27 zl h => ?_
                        obtain ⟨ki, iy, j7, he, h⟩ := h
                        refine ⟨ki, iy, j7, he, ?_⟩
                        refine h.mono fun zm a43 h => ?_
                        obtain ⟨j1, ks, l1, he, h⟩ := h
                        refine ⟨j1, ks, l1, he, ?_⟩
                        refine h.mono fun zd aj h => ?_
                        obtain ⟨a4, aa, ao, bn, bw, av, b4, b3, bc, cg, bj, bz, cq, d8, dg, d0, dl, di, dp, eh, jh, he, h⟩ := h
                        refine ⟨a4, aa, ao, bn, bw, av, b4, b3, bc, cg, bj, bz, cq, d8, dg, d0, dl, di, dp, eh, jh, he, ?_⟩
                        refine thenW_in fun zj o1 => ?_
                        have c7 := Blk.of_new o1
                        have ek := ((Ext.refl no aj)).size
                        have v4 := (Ext.refl no aj).x_alloc o1
                        refine ⟨c7.cani 0 rfl rfl, thenW_in fun ql oh => ?_⟩
                        have ty := v4.x_set (q := aj.heap.size) (i := 0) rfl (.inr ek) oh
                        have c7 : Blk ql aj.heap.size 44 [.int .i64 a4, .int .i64 0, .int .u64 0, .int .i64 0, .int .i64 0, .int .i64 0, .slice none 0 0, .int .u64 0, .int .i64 0, .int .i64 0, .int .u64 0, .int .i64 0, .int .i64 0, .int .i64 0, .slice none 0 0, .int .u64 0] := c7.seti 0 rfl oh
                        refine ⟨c7.cani 1 rfl rfl, thenW_in fun u4 tb => ?_⟩
                        have sh := ty.x_set (q := aj.heap.size) (i := 1) rfl (.inr ek) tb
                        have c7 : Blk u4 aj.heap.size 44 [.int .i64 a4, .int .i64 aa, .int .u64 0, .int .i64 0, .int .i64 0, .int .i64 0, .slice none 0 0, .int .u64 0, .int .i64 0, .int .i64 0, .int .u64 0, .int .i64 0, .int .i64 0, .int .i64 0, .slice none 0 0, .int .u64 0] := c7.seti 1 rfl tb
                        refine ⟨c7.cani 2 rfl rfl, thenW_in fun pp oz => ?_⟩
                        have o2 := sh.x_set (q := aj.heap.size) (i := 2) rfl (.inr ek) oz
                        have c7 : Blk pp aj.heap.size 44 [.int .i64 a4, .int .i64 aa, .int .u64 ao, .int .i64 0, .int .i64 0, .int .i64 0, .slice none 0 0, .int .u64 0, .int .i64 0, .int .i64 0, .int .u64 0, .int .i64 0, .int .i64 0, .int .i64 0, .slice none 0 0, .int .u64 0] := c7.seti 2 rfl oz
                        refine ⟨c7.cani 3 rfl rfl, thenW_in fun pg tw => ?_⟩
                        have q2 := o2.x_set (q := aj.heap.size) (i := 3) rfl (.inr ek) tw
                        have c7 : Blk pg aj.heap.size 44 [.int .i64 a4, .int .i64 aa, .int .u64 ao, .int .i64 bn, .int .i64 0, .int .i64 0, .slice none 0 0, .int .u64 0, .int .i64 0, .int .i64 0, .int .u64 0, .int .i64 0, .int .i64 0, .int .i64 0, .slice none 0 0, .int .u64 0] := c7.seti 3 rfl tw
                        refine ⟨c7.cani 4 rfl rfl, thenW_in fun t7 v7 => ?_⟩
                        have t0 := q2.x_set (q := aj.heap.size) (i := 4) rfl (.inr ek) v7
                        have c7 : Blk t7 aj.heap.size 44 [.int .i64 a4, .int .i64 aa, .int .u64 ao, .int .i64 bn, .int .i64 bw, .int .i64 0, .slice none 0 0, .int .u64 0, .int .i64 0, .int .i64 0, .int .u64 0, .int .i64 0, .int .i64 0, .int .i64 0, .slice none 0 0, .int .u64 0] := c7.seti 4 rfl v7
                        refine ⟨c7.cani 5 rfl rfl, thenW_in fun u7 nt => ?_⟩
                        have x2 := t0.x_set (q := aj.heap.size) (i := 5) rfl (.inr ek) nt
                        have c7 : Blk u7 aj.heap.size 44 [.int .i64 a4, .int .i64 aa, .int .u64 ao, .int .i64 bn, .int .i64 bw, .int .i64 av, .slice none 0 0, .int .u64 0, .int .i64 0, .int .i64 0, .int .u64 0, .int .i64 0, .int .i64 0, .int .i64 0, .slice none 0 0, .int .u64 0] := c7.seti 5 rfl nt
                        refine ⟨c7.cani 6 rfl rfl, thenW_in fun n3 nm => ?_⟩
                        have xo := x2.x_set (q := aj.heap.size) (i := 6) rfl (.inr ek) nm
                        have c7 : Blk n3 aj.heap.size 44 [.int .i64 a4, .int .i64 aa, .int .u64 ao, .int .i64 bn, .int .i64 bw, .int .i64 av, .slice b4 b3 bc, .int .u64 0, .int .i64 0, .int .i64 0, .int .u64 0, .int .i64 0, .int .i64 0, .int .i64 0, .slice none 0 0, .int .u64 0] := c7.seti 6 rfl nm
                        refine ⟨c7.cani 7 rfl rfl, thenW_in fun q5 x5 => ?_⟩
                        have sr := xo.x_set (q := aj.heap.size) (i := 7) rfl (.inr ek) x5
                        have c7 : Blk q5 aj.heap.size 44 [.int .i64 a4, .int .i64 aa, .int .u64 ao, .int .i64 bn, .int .i64 bw, .int .i64 av, .slice b4 b3 bc, .int .u64 cg, .int .i64 0, .int .i64 0, .int .u64 0, .int .i64 0, .int .i64 0, .int .i64 0, .slice none 0 0, .int .u64 0] := c7.seti 7 rfl x5
                        refine ⟨c7.cani 8 rfl rfl, thenW_in fun mt su => ?_⟩
                        have q4 := sr.x_set (q := aj.heap.size) (i := 8) rfl (.inr ek) su
                        have c7 : Blk mt aj.heap.size 44 [.int .i64 a4, .int .i64 aa, .int .u64 ao, .int .i64 bn, .int .i64 bw, .int .i64 av, .slice b4 b3 bc, .int .u64 cg, .int .i64 bj, .int .i64 0, .int .u64 0, .int .i64 0, .int .i64 0, .int .i64 0, .slice none 0 0, .int .u64 0] := c7.seti 8 rfl su
                        refine ⟨c7.cani 9 rfl rfl, thenW_in fun pi qi => ?_⟩
                        have pv := q4.x_set (q := aj.heap.size) (i := 9) rfl (.inr ek) qi
                        have c7 : Blk pi aj.heap.size 44 [.int .i64 a4, .int .i64 aa, .int .u64 ao, .int .i64 bn, .int .i64 bw, .int .i64 av, .slice b4 b3 bc, .int .u64 cg, .int .i64 bj, .int .i64 bz, .int .u64 0, .int .i64 0, .int .i64 0, .int .i64 0, .slice none 0 0, .int .u64 0] := c7.seti 9 rfl qi
                        refine ⟨c7.cani 10 rfl rfl, thenW_in fun sa pf => ?_⟩
                        have n4 := pv.x_set (q := aj.heap.size) (i := 10) rfl (.inr ek) pf
                        have c7 : Blk sa aj.heap.size 44 [.int .i64 a4, .int .i64 aa, .int .u64 ao, .int .i64 bn, .int .i64 bw, .int .i64 av, .slice b4 b3 bc, .int .u64 cg, .int .i64 bj, .int .i64 bz, .int .u64 cq, .int .i64 0, .int .i64 0, .int .i64 0, .slice none 0 0, .int .u64 0] := c7.seti 10 rfl pf
                        refine ⟨c7.cani 11 rfl rfl, thenW_in fun xr s9 => ?_⟩
                        have oa := n4.x_set (q := aj.heap.size) (i := 11) rfl (.inr ek) s9
                        have c7 : Blk xr aj.heap.size 44 [.int .i64 a4, .int .i64 aa, .int .u64 ao, .int .i64 bn, .int .i64 bw, .int .i64 av, .slice b4 b3 bc, .int .u64 cg, .int .i64 bj, .int .i64 bz, .int .u64 cq, .int .i64 d8, .int .i64 0, .int .i64 0, .slice none 0 0, .int .u64 0] := c7.seti 11 rfl s9
                        refine ⟨c7.cani 12 rfl rfl, thenW_in fun x9 oo => ?_⟩
                        have vh := oa.x_set (q := aj.heap.size) (i := 12) rfl (.inr ek) oo
                        have c7 : Blk x9 aj.heap.size 44 [.int .i64 a4, .int .i64 aa, .int .u64 ao, .int .i64 bn, .int .i64 bw, .int .i64 av, .slice b4 b3 bc, .int .u64 cg, .int .i64 bj, .int .i64 bz, .int .u64 cq, .int .i64 d8, .int .i64 dg, .int .i64 0, .slice none 0 0, .int .u64 0] := c7.seti 12 rfl oo
                        refine ⟨c7.cani 13 rfl rfl, thenW_in fun sq xh => ?_⟩
                        have v9 := vh.x_set (q := aj.heap.size) (i := 13) rfl (.inr ek) xh
                        have c7 : Blk sq aj.heap.size 44 [.int .i64 a4, .int .i64 aa, .int .u64 ao, .int .i64 bn, .int .i64 bw, .int .i64 av, .slice b4 b3 bc, .int .u64 cg, .int .i64 bj, .int .i64 bz, .int .u64 cq, .int .i64 d8, .int .i64 dg, .int .i64 d0, .slice none 0 0, .int .u64 0] := c7.seti 13 rfl xh
                        refine ⟨c7.cani 14 rfl rfl, thenW_in fun p8 nw => ?_⟩
                        have ou := v9.x_set (q := aj.heap.size) (i := 14) rfl (.inr ek) nw
                        have c7 : Blk p8 aj.heap.size 44 [.int .i64 a4, .int .i64 aa, .int .u64 ao, .int .i64 bn, .int .i64 bw, .int .i64 av, .slice b4 b3 bc, .int .u64 cg, .int .i64 bj, .int .i64 bz, .int .u64 cq, .int .i64 d8, .int .i64 dg, .int .i64 d0, .slice dl di dp, .int .u64 0] := c7.seti 14 rfl nw
                        refine ⟨c7.cani 15 rfl rfl, thenW_in fun g1 q0 => ?_⟩
                        have lf := ou.x_set (q := aj.heap.size) (i := 15) rfl (.inr ek) q0
                        have c7 : Blk g1 aj.heap.size 44 [.int .i64 a4, .int .i64 aa, .int .u64 ao, .int .i64 bn, .int .i64 bw, .int .i64 av, .slice b4 b3 bc, .int .u64 cg, .int .i64 bj, .int .i64 bz, .int .u64 cq, .int .i64 d8, .int .i64 dg, .int .i64 d0, .slice dl di dp, .int .u64 eh] := c7.seti 15 rfl q0
                        refine bif_of (fun ly => ?_) (fun ly => ?_)
                        · have h := h.1 (not_t ly)
                          refine ⟨a4, aa, ao, bn, bw, av, b4, b3, bc, cg, bj, bz, cq, d8, dg, d0, dl, di, dp, eh, ⟨c7.celli 0 rfl rfl, c7.celli 1 rfl rfl, c7.celli 2 rfl rfl, c7.celli 3 rfl rfl, c7.celli 4 rfl rfl, c7.celli 5 rfl rfl, c7.celli 6 rfl rfl, c7.celli 7 rfl rfl, c7.celli 8 rfl rfl, c7.celli 9 rfl rfl, c7.celli 10 rfl rfl, c7.celli 11 rfl rfl, c7.celli 12 rfl rfl, c7.celli 13 rfl rfl, c7.celli 14 rfl rfl, c7.celli 15 rfl rfl, trivial⟩, ?_⟩
                          have h := h g1 lf
                          refine h.mono fun a13 a57 h => ?_
                          obtain ⟨eo, fh, ih, k9, j6, ex, fd, f0, ez, ji, eq, fq, iq, kh, k6, fe, fc, f8, f1, l3, he, h⟩ := h
                          refine ⟨eo, fh, ih, k9, j6, ex, fd, f0, ez, ji, eq, fq, iq, kh, k6, fe, fc, f8, f1, l3, he, ?_⟩
                          refine h.mono fun a06 z9 h => ?_
                          obtain ⟨kz, he, h⟩ := h
                          refine ⟨kz, he, ?_⟩
                          refine bif_of (fun md => ?_) (fun md => ?_)
                          · have h := h.1 md
                            refine h.mono fun a63 a28 h => ?_
                            obtain ⟨ig, he, h⟩ := h
                            refine ⟨ig, he, ?_⟩
                            exact h
                          · have h := h.2 md
                            exact h
                        · have h := h.2 (not_f ly)
                          have h := h g1 lf
                          exact h
              · have h := h.2 (Int.not_lt.1 (of_decide_eq_false ib))
                obtain ⟨I4, y3, h0, h⟩ := h
                refine ⟨I4, y3, h0, fun xw tx yg hI => ?_⟩
                have h := h xw tx yg hI
                refine bif_of (fun lk => ?_) (fun lk => ?_)
                · have h := h.1 (of_decide_eq_true lk)
                  obtain ⟨dx, dw, h⟩ := h
                  try rw [w64 dx dw]
                  obtain ⟨a76, x0, h⟩ := h
                  refine elim_some x0 ?_
                  obtain ⟨er, es, h⟩ := h
                  refine ⟨er, es, ?_⟩
                  obtain ⟨fv, i9, gw, vx, h⟩ := h
                  refine ⟨fv, i9, gw, vx, ?_⟩
                  refine h.mono fun zb zc h => ?_
                  obtain ⟨f9, gj, jl, li, m9, i8, g3, ic, i6, lr, gb, he, h⟩ := h
                  refine ⟨f9, gj, jl, li, m9, i8, g3, ic, i6, lr, gb, he, ?_⟩
                  obtain ⟨dx, dw, h⟩ := h
                  try rw [w64 dx dw]
                  obtain ⟨yx, hk, h⟩ := h
                  exact ⟨yx, hk, h⟩
                · have h := h.2 (Int.not_lt.1 (of_decide_eq_false lk))
                  refine h.mono fun za a48 h => ?_
                  obtain ⟨ka, kx, jj, he, h⟩ := h
                  refine ⟨ka, kx, jj, he, ?_⟩
                  refine h.mono fun a24 a65 h => ?_
                  obtain ⟨jx, kf, kn, he, h⟩ := h
                  refine ⟨jx, kf, kn, he, ?_⟩
                  refine h.mono fun a22 ae h => ?_
                  obtain ⟨a1, ab, an, bp, bx, ay, b7, b8, b9, ci, bh, c0, cl, d2, dr, cz, dn, dh, dj, eg, j9, he, h⟩ := h
                  refine ⟨a1, ab, an, bp, bx, ay, b7, b8, b9, ci, bh, c0, cl, d2, dr, cz, dn, dh, dj, eg, j9, he, ?_⟩
                  refine thenW_in fun a14 ok => ?_
                  have cd := Blk.of_new ok
                  have en := ((Ext.refl no ae)).size
                  have x7 := (Ext.refl no ae).x_alloc ok
                  refine ⟨cd.cani 0 rfl rfl, thenW_in fun v5 xb => ?_⟩
                  have ur := x7.x_set (q := ae.heap.size) (i := 0) rfl (.inr en) xb
                  have cd : Blk v5 ae.heap.size 44 [.int .i64 a1, .int .i64 0, .int .u64 0, .int .i64 0, .int .i64 0, .int .i64 0, .slice none 0 0, .int .u64 0, .int .i64 0, .int .i64 0, .int .u64 0, .int .i64 0, .int .i64 0, .int .i64 0, .slice none 0 0, .int .u64 0] := cd.seti 0 rfl xb
                  refine ⟨cd.cani 1 rfl rfl, thenW_in fun sg p5 => ?_⟩
                  have qn := ur.x_set (q := ae.heap.size) (i := 1) rfl (.inr en) p5
                  have cd : Blk sg ae.heap.size 44 [.int .i64 a1, .int .i64 ab, .int .u64 0, .int .i64 0, .int .i64 0, .int .i64 0, .slice none 0 0, .int .u64 0, .int .i64 0, .int .i64 0, .int .u64 0, .int .i64 0, .int .i64 0, .int .i64 0, .slice none 0 0, .int .u64 0] := cd.seti 1 rfl p5
                  refine ⟨cd.cani 2 rfl rfl, thenW_in fun qu op => ?_⟩
                  have xt := qn.x_set (q := ae.heap.size) (i := 2) rfl (.inr en) op
                  have cd : Blk qu ae.heap.size 44 [.int .i64 a1, .int .i64 ab, .int .u64 an, .int .i64 0, .int .i64 0, .int .i64 0, .slice none 0 0, .int .u64 0, .int .i64 0, .int .i64 0, .int .u64 0, .int .i64 0, .int .i64 0, .int .i64 0, .slice none 0 0, .int .u64 0] := cd.seti 2 rfl op
                  refine ⟨cd.cani 3 rfl rfl, thenW_in fun xp mj => ?_⟩
                  have t1 := xt.x_set (q := ae.heap.size) (i := 3) rfl (.inr en) mj
                  have cd : Blk xp ae.heap.size 44 [.int .i64 a1, .int .i64 ab, .int .u64 an, .int .i64 bp, .int .i64 0, .int .i64 0, .slice none 0 0, .int .u64 0, .int .i64 0, .int .i64 0, .int .u64 0, .int .i64 0, .int .i64 0, .int .i64 0, .slice none 0 0, .int .u64 0] := cd.seti 3 rfl mj
                  refine ⟨cd.cani 4 rfl rfl, thenW_in fun nq mi => ?_⟩
                  have ol := t1.x_set (q := ae.heap.size) (i := 4) rfl (.inr en) mi
                  have cd : Blk nq ae.heap.size 44 [.int .i64 a1, .int .i64 ab, .int .u64 an, .int .i64 bp, .int .i64 bx, .int .i64 0, .slice none 0 0, .int .u64 0, .int .i64 0, .int .i64 0, .int .u64 0, .int .i64 0, .int .i64 0, .int .i64 0, .slice none 0 0, .int .u64 0] := cd.seti 4 rfl mi
                  refine ⟨cd.cani 5 rfl rfl, thenW_in fun v0 xl => ?_⟩
                  have vy := ol.x_set (q := ae.heap.size) (i := 5) rfl (.inr en) xl
                  have cd : Blk v0 ae.heap.size 44 [.int .i64 a1, .int .i64 ab, .int .u64 an, .int .i64 bp, .int .i64 bx, .int .i64 ay, .slice none 0 0, .int .u64 0, .int .i64 0, .int .i64 0, .int .u64 0, .int .i64 0, .int .i64 0, .int .i64 0, .slice none 0 0, .int .u64 0] := cd.seti 5 rfl xl
                  refine ⟨cd.cani 6 rfl rfl, thenW_in fun q7 p9 => ?_⟩
                  have qt := vy.x_set (q := ae.heap.size) (i := 6) rfl (.inr en) p9
                  have cd : Blk q7 ae.heap.size 44 [.int .i64 a1, .int .i64 ab, .int .u64 an, .int .i64 bp, .int .i64 bx, .int .i64 ay, .slice b7 b8 b9, .int .u64 0, .int .i64 0, .int .i64 0, .int .u64 0, .int .i64 0, .int .i64 0, .int .i64 0, .slice none 0 0, .int .u64 0] := cd.seti 6 rfl p9
                  refine ⟨cd.cani 7 rfl rfl, thenW_in fun sz ul => ?_⟩
                  have oe := qt.x_set (q := ae.heap.size) (i := 7) rfl (.inr en) ul
                  have cd : Blk sz ae.heap.size 44 [.int .i64 a1, .int .i64 ab, .int .u64 an, .int .i64 bp, .int .i64 bx, .int .i64 ay, .slice b7 b8 b9, .int .u64 ci, .int .i64 0, .int .i64 0, .int .u64 0, .int .i64 0, .int .i64 0, .int .i64 0, .slice none 0 0, .int .u64 0] := cd.seti 7 rfl ul
                  refine ⟨cd.cani 8 rfl rfl, thenW_in fun x1 vs => ?_⟩
                  have ms := oe.x_set (q := ae.heap.size) (i := 8) rfl (.inr en) vs
                  have cd : Blk x1 ae.heap.size 44 [.int .i64 a1, .int .i64 ab, .int .u64 an, .int .i64 bp, .int .i64 bx, .int .i64 ay, .slice b7 b8 b9, .int .u64 ci, .int .i64 bh, .int .i64 0, .int .u64 0, .int .i64 0, .int .i64 0, .int .i64 0, .slice none 0 0, .int .u64 0] := cd.seti 8 rfl vs
                  refine ⟨cd.cani 9 rfl rfl, thenW_in fun qc om => ?_⟩
                  have q1 := ms.x_set (q := ae.heap.size) (i := 9) rfl (.inr en) om
                  have cd : Blk qc ae.heap.size 44 [.int .i64 a1, .int .i64 ab, .int .u64 an, .int .i64 bp, .int .i64 bx, .int .i64 ay, .slice b7 b8 b9, .int .u64 ci, .int .i64 bh, .int .i64 c0, .int .u64 0, .int .i64 0, .int .i64 0, .int .i64 0, .slice none 0 0, .int .u64 0] := cd.seti 9 rfl om
                  refine ⟨cd.cani 10 rfl rfl, thenW_in fun xf se => ?_⟩
                  have mx := q1.x_set (q := ae.heap.size) (i := 10) rfl (.inr en) se
                  have cd : Blk xf ae.heap.size 44 [.int .i64 a1, .int .i64 ab, .int .u64 an, .int .i64 bp, .int .i64 bx, .int .i64 ay, .slice b7 b8 b9, .int .u64 ci, .int .i64 bh, .int .i64 c0, .int .u64 cl, .int .i64 0, .int .i64 0, .int .i64 0, .slice none 0 0, .int .u64 0] := cd.seti 10 rfl se
                  refine ⟨cd.cani 11 rfl rfl, thenW_in fun vm qf => ?_⟩
                  have s3 := mx.x_set (q := ae.heap.size) (i := 11) rfl (.inr en) qf
                  have cd : Blk vm ae.heap.size 44 [.int .i64 a1, .int .i64 ab, .int .u64 an, .int .i64 bp, .int .i64 bx, .int .i64 ay, .slice b7 b8 b9, .int .u64 ci, .int .i64 bh, .int .i64 c0, .int .u64 cl, .int .i64 d2, .int .i64 0, .int .i64 0, .slice none 0 0, .int .u64 0] := cd.seti 11 rfl qf
                  refine ⟨cd.cani 12 rfl rfl, thenW_in fun uf ts => ?_⟩
                  have t8 := s3.x_set (q := ae.heap.size) (i := 12) rfl (.inr en) ts
                  have cd : Blk uf ae.heap.size 44 [.int .i64 a1, .int .i64 ab, .int .u64 an, .int .i64 bp, .int .i64 bx, .int .i64 ay, .slice b7 b8 b9, .int .u64 ci, .int .i64 bh, .int .i64 c0, .int .u64 cl, .int .i64 d2, .int .i64 dr, .int .i64 0, .slice none 0 0, .int .u64 0] := cd.seti 12 rfl ts
                  refine ⟨cd.cani 13 rfl rfl, thenW_in fun ud vi => ?_⟩
                  have uj := t8.x_set (q := ae.heap.size) (i := 13) rfl (.inr en) vi
                  have cd : Blk ud ae.heap.size 44 [.int .i64 a1, .int .i64 ab, .int .u64 an, .int .i64 bp, .int .i64 bx, .int .i64 ay, .slice b7 b8 b9, .int .u64 ci, .int .i64 bh, .int .i64 c0, .int .u64 cl, .int .i64 d2, .int .i64 dr, .int .i64 cz, .slice none 0 0, .int .u64 0] := cd.seti 13 rfl vi
                  refine ⟨cd.cani 14 rfl rfl, thenW_in fun pe nn => ?_⟩
                  have ph := uj.x_set (q := ae.heap.size) (i := 14) rfl (.inr en) nn
                  have cd : Blk pe ae.heap.size 44 [.int .i64 a1, .int .i64 ab, .int .u64 an, .int .i64 bp, .int .i64 bx, .int .i64 ay, .slice b7 b8 b9, .int .u64 ci, .int .i64 bh, .int .i64 c0, .int .u64 cl, .int .i64 d2, .int .i64 dr, .int .i64 cz, .slice dn dh dj, .int .u64 0] := cd.seti 14 rfl nn
                  refine ⟨cd.cani 15 rfl rfl, thenW_in fun fw n7 => ?_⟩
                  have l6 := ph.x_set (q := ae.heap.size) (i := 15) rfl (.inr en) n7
                  have cd : Blk fw ae.heap.size 44 [.int .i64 a1, .int .i64 ab, .int .u64 an, .int .i64 bp, .int .i64 bx, .int .i64 ay, .slice b7 b8 b9, .int .u64 ci, .int .i64 bh, .int .i64 c0, .int .u64 cl, .int .i64 d2, .int .i64 dr, .int .i64 cz, .slice dn dh dj, .int .u64 eg] := cd.seti 15 rfl n7
                  refine bif_tt f5 ?_
                  refine bif_ff ib ?_
                  refine bif_of (fun mh => ?_) (fun mh => ?_)
                  · have h := h.1 mh
                    refine ⟨a1, ab, an, bp, bx, ay, b7, b8, b9, ci, bh, c0, cl, d2, dr, cz, dn, dh, dj, eg, ⟨cd.celli 0 rfl rfl, cd.celli 1 rfl rfl, cd.celli 2 rfl rfl, cd.celli 3 rfl rfl, cd.celli 4 rfl rfl, cd.celli 5 rfl rfl, cd.celli 6 rfl rfl, cd.celli 7 rfl rfl, cd.celli 8 rfl rfl, cd.celli 9 rfl rfl, cd.celli 10 rfl rfl, cd.celli 11 rfl rfl, cd.celli 12 rfl rfl, cd.celli 13 rfl rfl, cd.celli 14 rfl rfl, cd.celli 15 rfl rfl, trivial⟩, ?_⟩
                    have h := h fw l6
                    refine h.mono fun z8 a09 h => ?_
                    obtain ⟨fz, he, h⟩ := h
                    refine ⟨fz, he, ?_⟩
                    refine bif_of (fun m5 => ?_) (fun m5 => ?_)
                    · have h := h.1 (beq_t m5)
                      refine bif_of (fun m7 => ?_) (fun m7 => ?_)
                      · have h := h.1 (of_decide_eq_true m7)
                        refine h.mono fun a02 a15 h => ?_
                        obtain ⟨ge, he, h⟩ := h
                        refine ⟨ge, he, ?_⟩
                        exact h
                      · have h := h.2 (Int.not_lt.1 (of_decide_eq_false m7))
                        exact h
                    · have h := h.2 (beq_f m5)
                      exact h
                  · have h := h.2 mh
                    have h := h fw l6
                    refine h.mono fun a10 a52 h => ?_
                    obtain ⟨k7, jg, jt, he, h⟩ := h
                    refine ⟨k7, jg, jt, he, ?_⟩
                    refine h.mono fun a54 zg h => ?_
                    obtain ⟨jm, jd, j5, he, h⟩ := h
                    refine ⟨jm, jd, j5, he, ?_⟩
                    refine h.mono fun a47 ai h => ?_
                    obtain ⟨a3, a7, am, br, bt, ap, b6, b5, bb, cj, bf, c2, cn, d6, dv, cx, dd, ds, dt, ed, l0, he, h⟩ := h
                    refine ⟨a3, a7, am, br, bt, ap, b6, b5, bb, cj, bf, c2, cn, d6, dv, cx, dd, ds, dt, ed, l0, he, ?_⟩
                    refine thenW_in fun a33 vk => ?_
                    have c8 := Blk.of_new vk
                    have em := ((Ext.refl no ai)).size
                    have sj := (Ext.refl no ai).x_alloc vk
                    refine ⟨c8.cani 0 rfl rfl, thenW_in fun u9 uu => ?_⟩
                    have ne := sj.x_set (q := ai.heap.size) (i := 0) rfl (.inr em) uu
                    have c8 : Blk u9 ai.heap.size 44 [.int .i64 a3, .int .i64 0, .int .u64 0, .int .i64 0, .int .i64 0, .int .i64 0, .slice none 0 0, .int .u64 0, .int .i64 0, .int .i64 0, .int .u64 0, .int .i64 0, .int .i64 0, .int .i64 0, .slice none 0 0, .int .u64 0] := c8.seti 0 rfl uu
                    refine ⟨c8.cani 1 rfl rfl, thenW_in fun xk s1 => ?_⟩
                    have t5 := ne.x_set (q := ai.heap.size) (i := 1) rfl (.inr em) s1
                    have c8 : Blk xk ai.heap.size 44 [.int .i64 a3, .int .i64 a7, .int .u64 0, .int .i64 0, .int .i64 0, .int .i64 0, .slice none 0 0, .int .u64 0, .int .i64 0, .int .i64 0, .int .u64 0, .int .i64 0, .int .i64 0, .int .i64 0, .slice none 0 0, .int .u64 0] := c8.seti 1 rfl s1
                    refine ⟨c8.cani 2 rfl rfl, thenW_in fun sd ss => ?_⟩
                    have uq := t5.x_set (q := ai.heap.size) (i := 2) rfl (.inr em) ss
                    have c8 : Blk sd ai.heap.size 44 [.int .i64 a3, .int .i64 a7, .int .u64 am, .int .i64 0, .int .i64 0, .int .i64 0, .slice none 0 0, .int .u64 0, .int .i64 0, .int .i64 0, .int .u64 0, .int .i64 0, .int .i64 0, .int .i64 0, .slice none 0 0, .int .u64 0] := c8.seti 2 rfl ss
                    refine ⟨c8.cani 3 rfl rfl, thenW_in fun pz n0 => ?_⟩
                    have pq := uq.x_set (q := ai.heap.size) (i := 3) rfl (.inr em) n0
                    have c8 : Blk pz ai.heap.size 44 [.int .i64 a3, .int .i64 a7, .int .u64 am, .int .i64 br, .int .i64 0, .int .i64 0, .slice none 0 0, .int .u64 0, .int .i64 0, .int .i64 0, .int .u64 0, .int .i64 0, .int .i64 0, .int .i64 0, .slice none 0 0, .int .u64 0] := c8.seti 3 rfl n0
                    refine ⟨c8.cani 4 rfl rfl, thenW_in fun mm uh => ?_⟩
                    have qg := pq.x_set (q := ai.heap.size) (i := 4) rfl (.inr em) uh
                    have c8 : Blk mm ai.heap.size 44 [.int .i64 a3, .int .i64 a7, .int .u64 am, .int .i64 br, .int .i64 bt, .int .i64 0, .slice none 0 0, .int .u64 0, .int .i64 0, .int .i64 0, .int .u64 0, .int .i64 0, .int .i64 0, .int .i64 0, .slice none 0 0, .int .u64 0] := c8.seti 4 rfl uh
                    refine ⟨c8.cani 5 rfl rfl, thenW_in fun nh xj => ?_⟩
                    have u0 := qg.x_set (q := ai.heap.size) (i := 5) rfl (.inr em) xj
                    have c8 : Blk nh ai.heap.size 44 [.int .i64 a3, .int .i64 a7, .int .u64 am, .int .i64 br, .int .i64 bt, .int .i64 ap, .slice none 0 0, .int .u64 0, .int .i64 0, .int .i64 0, .int .u64 0, .int .i64 0, .int .i64 0, .int .i64 0, .slice none 0 0, .int .u64 0] := c8.seti 5 rfl xj
                    refine ⟨c8.cani 6 rfl rfl, thenW_in fun xg qq => ?_⟩
                    have nj := u0.x_set (q := ai.heap.size) (i := 6) rfl (.inr em) qq
                    have c8 : Blk xg ai.heap.size 44 [.int .i64 a3, .int .i64 a7, .int .u64 am, .int .i64 br, .int .i64 bt, .int .i64 ap, .slice b6 b5 bb, .int .u64 0, .int .i64 0, .int .i64 0, .int .u64 0, .int .i64 0, .int .i64 0, .int .i64 0, .slice none 0 0, .int .u64 0] := c8.seti 6 rfl qq
                    refine ⟨c8.cani 7 rfl rfl, thenW_in fun v8 u8 => ?_⟩
                    have ug := nj.x_set (q := ai.heap.size) (i := 7) rfl (.inr em) u8
                    have c8 : Blk v8 ai.heap.size 44 [.int .i64 a3, .int .i64 a7, .int .u64 am, .int .i64 br, .int .i64 bt, .int .i64 ap, .slice b6 b5 bb, .int .u64 cj, .int .i64 0, .int .i64 0, .int .u64 0, .int .i64 0, .int .i64 0, .int .i64 0, .slice none 0 0, .int .u64 0] := c8.seti 7 rfl u8
                    refine ⟨c8.cani 8 rfl rfl, thenW_in fun pc ml => ?_⟩
                    have sl := ug.x_set (q := ai.heap.size) (i := 8) rfl (.inr em) ml
                    have c8 : Blk pc ai.heap.size 44 [.int .i64 a3, .int .i64 a7, .int .u64 am, .int .i64 br, .int .i64 bt, .int .i64 ap, .slice b6 b5 bb, .int .u64 cj, .int .i64 bf, .int .i64 0, .int .u64 0, .int .i64 0, .int .i64 0, .int .i64 0, .slice none 0 0, .int .u64 0] := c8.seti 8 rfl ml
                    refine ⟨c8.cani 9 rfl rfl, thenW_in fun qb pl => ?_⟩
                    have sm := sl.x_set (q := ai.heap.size) (i := 9) rfl (.inr em) pl
                    have c8 : Blk qb ai.heap.size 44 [.int .i64 a3, .int .i64 a7, .int .u64 am, .int .i64 br, .int .i64 bt, .int .i64 ap, .slice b6 b5 bb, .int .u64 cj, .int .i64 bf, .int .i64 c2, .int .u64 0, .int .i64 0, .int .i64 0, .int .i64 0, .slice none 0 0, .int .u64 0] := c8.seti 9 rfl pl
                    refine ⟨c8.cani 10 rfl rfl, thenW_in fun x6 ut => ?_⟩
                    have vd := sm.x_set (q := ai.heap.size) (i := 10) rfl (.inr em) ut
                    have c8 : Blk x6 ai.heap.size 44 [.int .i64 a3, .int .i64 a7, .int .u64 am, .int .i64 br, .int .i64 bt, .int .i64 ap, .slice b6 b5 bb, .int .u64 cj, .int .i64 bf, .int .i64 c2, .int .u64 cn, .int .i64 0, .int .i64 0, .int .i64 0, .slice none 0 0, .int .u64 0] := c8.seti 10 rfl ut
                    refine ⟨c8.cani 11 rfl rfl, thenW_in fun n8 s4 => ?_⟩
                    have q9 := vd.x_set (q := ai.heap.size) (i := 11) rfl (.inr em) s4
                    have c8 : Blk n8 ai.heap.size 44 [.int .i64 a3, .int .i64 a7, .int .u64 am, .int .i64 br, .int .i64 bt, .int .i64 ap, .slice b6 b5 bb, .int .u64 cj, .int .i64 bf, .int .i64 c2, .int .u64 cn, .int .i64 d6, .int .i64 0, .int .i64 0, .slice none 0 0, .int .u64 0] := c8.seti 11 rfl s4
                    refine ⟨c8.cani 12 rfl rfl, thenW_in fun tl nr => ?_⟩
                    have vp := q9.x_set (q := ai.heap.size) (i := 12) rfl (.inr em) nr
                    have c8 : Blk tl ai.heap.size 44 [.int .i64 a3, .int .i64 a7, .int .u64 am, .int .i64 br, .int .i64 bt, .int .i64 ap, .slice b6 b5 bb, .int .u64 cj, .int .i64 bf, .int .i64 c2, .int .u64 cn, .int .i64 d6, .int .i64 dv, .int .i64 0, .slice none 0 0, .int .u64 0] := c8.seti 12 rfl nr
                    refine ⟨c8.cani 13 rfl rfl, thenW_in fun si uz => ?_⟩
                    have ps := vp.x_set (q := ai.heap.size) (i := 13) rfl (.inr em) uz
                    have c8 : Blk si ai.heap.size 44 [.int .i64 a3, .int .i64 a7, .int .u64 am, .int .i64 br, .int .i64 bt, .int .i64 ap, .slice b6 b5 bb, .int .u64 cj, .int .i64 bf, .int .i64 c2, .int .u64 cn, .int .i64 d6, .int .i64 dv, .int .i64 cx, .slice none 0 0, .int .u64 0] := c8.seti 13 rfl uz
                    refine ⟨c8.cani 14 rfl rfl, thenW_in fun tm vt => ?_⟩
                    have sp := ps.x_set (q := ai.heap.size) (i := 14) rfl (.inr em) vt
                    have c8 : Blk tm ai.heap.size 44 [.int .i64 a3, .int .i64 a7, .int .u64 am, .int .i64 br, .int .i64 bt, .int .i64 ap, .slice b6 b5 bb, .int .u64 cj, .int .i64 bf, .int .i64 c2, .int .u64 cn, .int .i64 d6, .int .i64 dv, .int .i64 cx, .slice dd ds dt, .int .u64 0] := c8.seti 14 rfl vt
                    refine ⟨c8.cani 15 rfl rfl, thenW_in fun i0 oy => ?_⟩
                    have l7 := sp.x_set (q := ai.heap.size) (i := 15) rfl (.inr em) oy
                    have c8 : Blk i0 ai.heap.size 44 [.int .i64 a3, .int .i64 a7, .int .u64 am, .int .i64 br, .int .i64 bt, .int .i64 ap, .slice b6 b5 bb, .int .u64 cj, .int .i64 bf, .int .i64 c2, .int .u64 cn, .int .i64 d6, .int .i64 dv, .int .i64 cx, .slice dd ds dt, .int .u64 ed] := c8.seti 15 rfl oy
                    refine bif_of (fun m3 => ?_) (fun m3 => ?_)
                    · have h := h.1 (not_t m3)
                      refine ⟨a3, a7, am, br, bt, ap, b6, b5, bb, cj, bf, c2, cn, d6, dv, cx, dd, ds, dt, ed, ⟨c8.celli 0 rfl rfl, c8.celli 1 rfl rfl, c8.celli 2 rfl rfl, c8.celli 3 rfl rfl, c8.celli 4 rfl rfl, c8.celli 5 rfl rfl, c8.celli 6 rfl rfl, c8.celli 7 rfl rfl, c8.celli 8 rfl rfl, c8.celli 9 rfl rfl, c8.celli 10 rfl rfl, c8.celli 11 rfl rfl, c8.celli 12 rfl rfl, c8.celli 13 rfl rfl, c8.celli 14 rfl rfl, c8.celli 15 rfl rfl, trivial⟩, ?_⟩
                      have h := h i0 l7
                      refine h.mono fun zs a30 h => ?_
                      obtain ⟨et, f6, gx, iz, kg, fp, fb, fm, ey, it, ev, ff, gf, k2, kl, fs, ft, f4, f3, jf, he, h⟩ := h
                      refine ⟨et, f6, gx, iz, kg, fp, fb, fm, ey, it, ev, ff, gf, k2, kl, fs, ft, f4, f3, jf, he, ?_⟩
                      refine h.mono fun a59 a49 h => ?_
                      obtain ⟨jw, he, h⟩ := h
                      refine ⟨jw, he, ?_⟩
                      refine bif_of (fun lz => ?_) (fun lz => ?_)
                      · have h := h.1 lz
                        refine h.mono fun a18 zq h => ?_
                        obtain ⟨i7, he, h⟩ := h
                        refine ⟨i7, he, ?_⟩
                        exact h
                      · have h := h.2 lz
                        exact h
                    · have h := h.2 (not_f m3)
                      have h := h i0 l7
                      exact h
            · have h := h.2 (Int.not_le.1 (of_decide_eq_false f5))
              obtain ⟨I4, yf, h0, h⟩ := h
              refine ⟨I4, yf, h0, fun yb u2 ya hI => ?_⟩
              have h := h yb u2 ya hI
              refine bif_of (fun lv => ?_) (fun lv => ?_)
              · have h := h.1 (of_decide_eq_true lv)
                obtain ⟨dx, dw, h⟩ := h
                try rw [w64 dx dw]
                obtain ⟨a69, vw, h⟩ := h
                refine elim_some vw ?_
                obtain ⟨er, es, h⟩ := h
                refine ⟨er, es, ?_⟩
                obtain ⟨gz, ij, gs, pn, h⟩ := h
                refine ⟨gz, ij, gs, pn, ?_⟩
                refine h.mono fun a26 a04 h => ?_
                obtain ⟨f2, ga, kk, mg, lq, i3, gi, gq, ia, lo, gt, he, h⟩ := h
                refine ⟨f2, ga, kk, mg, lq, i3, gi, gq, ia, lo, gt, he, ?_⟩
                obtain ⟨dx, dw, h⟩ := h
                try rw [w64 dx dw]
                obtain ⟨yr, hk, h⟩ := h
                exact ⟨yr, hk, h⟩
              · have h := h.2 (Int.not_lt.1 (of_decide_eq_false lv))
                refine h.mono fun a55 a12 h => ?_
                obtain ⟨ko, kd, kp, he, h⟩ := h
                refine ⟨ko, kd, kp, he, ?_⟩
                refine h.mono fun zr zw h => ?_
                obtain ⟨l2, jc, ir, he, h⟩ := h
                refine ⟨l2, jc, ir, he, ?_⟩
                refine h.mono fun a64 ah h => ?_
                obtain ⟨a2, a8, al, bq, bu, aq, ba, bd, b1, cf, bg, c4, cp, d3, de, cw, dm, dq, dc, ee, iw, he, h⟩ := h
                refine ⟨a2, a8, al, bq, bu, aq, ba, bd, b1, cf, bg, c4, cp, d3, de, cw, dm, dq, dc, ee, iw, he, ?_⟩
                refine thenW_in fun a21 s7 => ?_
                have ca := Blk.of_new s7
                have ej := ((Ext.refl no ah)).size
                have pk := (Ext.refl no ah).x_alloc s7
                refine ⟨ca.cani 0 rfl rfl, thenW_in fun v1 ti => ?_⟩
                have ua := pk.x_set (q := ah.heap.size) (i := 0) rfl (.inr ej) ti
                have ca : Blk v1 ah.heap.size 44 [.int .i64 a2, .int .i64 0, .int .u64 0, .int .i64 0, .int .i64 0, .int .i64 0, .slice none 0 0, .int .u64 0, .int .i64 0, .int .i64 0, .int .u64 0, .int .i64 0, .int .i64 0, .int .i64 0, .slice none 0 0, .int .u64 0] := ca.seti 0 rfl ti
                refine ⟨ca.cani 1 rfl rfl, thenW_in fun px ui => ?_⟩
                have ny := ua.x_set (q := ah.heap.size) (i := 1) rfl (.inr ej) ui
                have ca : Blk px ah.heap.size 44 [.int .i64 a2, .int .i64 a8, .int .u64 0, .int .i64 0, .int .i64 0, .int .i64 0, .slice none 0 0, .int .u64 0, .int .i64 0, .int .i64 0, .int .u64 0, .int .i64 0, .int .i64 0, .int .i64 0, .slice none 0 0, .int .u64 0] := ca.seti 1 rfl ui
                refine ⟨ca.cani 2 rfl rfl, thenW_in fun sw tp => ?_⟩
                have tt := ny.x_set (q := ah.heap.size) (i := 2) rfl (.inr ej) tp
                have ca : Blk sw ah.heap.size 44 [.int .i64 a2, .int .i64 a8, .int .u64 al, .int .i64 0, .int .i64 0, .int .i64 0, .slice none 0 0, .int .u64 0, .int .i64 0, .int .i64 0, .int .u64 0, .int .i64 0, .int .i64 0, .int .i64 0, .slice none 0 0, .int .u64 0] := ca.seti 2 rfl tp
                refine ⟨ca.cani 3 rfl rfl, thenW_in fun np x8 => ?_⟩
                have ni := tt.x_set (q := ah.heap.size) (i := 3) rfl (.inr ej) x8
                have ca : Blk np ah.heap.size 44 [.int .i64 a2, .int .i64 a8, .int .u64 al, .int .i64 bq, .int .i64 0, .int .i64 0, .slice none 0 0, .int .u64 0, .int .i64 0, .int .i64 0, .int .u64 0, .int .i64 0, .int .i64 0, .int .i64 0, .slice none 0 0, .int .u64 0] := ca.seti 3 rfl x8
                refine ⟨ca.cani 4 rfl rfl, thenW_in fun qh q6 => ?_⟩
                have xc := ni.x_set (q := ah.heap.size) (i := 4) rfl (.inr ej) q6
                have ca : Blk qh ah.heap.size 44 [.int .i64 a2, .int .i64 a8, .int .u64 al, .int .i64 bq, .int .i64 bu, .int .i64 0, .slice none 0 0, .int .u64 0, .int .i64 0, .int .i64 0, .int .u64 0, .int .i64 0, .int .i64 0, .int .i64 0, .slice none 0 0, .int .u64 0] := ca.seti 4 rfl q6
                refine ⟨ca.cani 5 rfl rfl, thenW_in fun q8 t2 => ?_⟩
                have ox := xc.x_set (q := ah.heap.size) (i := 5) rfl (.inr ej) t2
                have ca : Blk q8 ah.heap.size 44 [.int .i64 a2, .int .i64 a8, .int .u64 al, .int .i64 bq, .int .i64 bu, .int .i64 aq, .slice none 0 0, .int .u64 0, .int .i64 0, .int .i64 0, .int .u64 0, .int .i64 0, .int .i64 0, .int .i64 0, .slice none 0 0, .int .u64 0] := ca.seti 5 rfl t2
                refine ⟨ca.cani 6 rfl rfl, thenW_in fun vr p6 => ?_⟩
                have vg := ox.x_set (q := ah.heap.size) (i := 6) rfl (.inr ej) p6
                have ca : Blk vr ah.heap.size 44 [.int .i64 a2, .int .i64 a8, .int .u64 al, .int .i64 bq, .int .i64 bu, .int .i64 aq, .slice ba bd b1, .int .u64 0, .int .i64 0, .int .i64 0, .int .u64 0, .int .i64 0, .int .i64 0, .int .i64 0, .slice none 0 0, .int .u64 0] := ca.seti 6 rfl p6
                refine ⟨ca.cani 7 rfl rfl, thenW_in fun qs n2 => ?_⟩
                have uo := vg.x_set (q := ah.heap.size) (i := 7) rfl (.inr ej) n2
                have ca : Blk qs ah.heap.size 44 [.int .i64 a2, .int .i64 a8, .int .u64 al, .int .i64 bq, .int .i64 bu, .int .i64 aq, .slice ba bd b1, .int .u64 cf, .int .i64 0, .int .i64 0, .int .u64 0, .int .i64 0, .int .i64 0, .int .i64 0, .slice none 0 0, .int .u64 0] := ca.seti 7 rfl n2
                refine ⟨ca.cani 8 rfl rfl, thenW_in fun nl mk => ?_⟩
                have nk := uo.x_set (q := ah.heap.size) (i := 8) rfl (.inr ej) mk
                have ca : Blk nl ah.heap.size 44 [.int .i64 a2, .int .i64 a8, .int .u64 al, .int .i64 bq, .int .i64 bu, .int .i64 aq, .slice ba bd b1, .int .u64 cf, .int .i64 bg, .int .i64 0, .int .u64 0, .int .i64 0, .int .i64 0, .int .i64 0, .slice none 0 0, .int .u64 0] := ca.seti 8 rfl mk
                refine ⟨ca.cani 9 rfl rfl, thenW_in fun pm un => ?_⟩
                have te := nk.x_set (q := ah.heap.size) (i := 9) rfl (.inr ej) un
                have ca : Blk pm ah.heap.size 44 [.int .i64 a2, .int .i64 a8, .int .u64 al, .int .i64 bq, .int .i64 bu, .int .i64 aq, .slice ba bd b1, .int .u64 cf, .int .i64 bg, .int .i64 c4, .int .u64 0, .int .i64 0, .int .i64 0, .int .i64 0, .slice none 0 0, .int .u64 0] := ca.seti 9 rfl un
                refine ⟨ca.cani 10 rfl rfl, thenW_in fun uc sf => ?_⟩
                have n9 := te.x_set (q := ah.heap.size) (i := 10) rfl (.inr ej) sf
                have ca : Blk uc ah.heap.size 44 [.int .i64 a2, .int .i64 a8, .int .u64 al, .int .i64 bq, .int .i64 bu, .int .i64 aq, .slice ba bd b1, .int .u64 cf, .int .i64 bg, .int .i64 c4, .int .u64 cp, .int .i64 0, .int .i64 0, .int .i64 0, .slice none 0 0, .int .u64 0] := ca.seti 10 rfl sf
                refine ⟨ca.cani 11 rfl rfl, thenW_in fun o5 vc => ?_⟩
                have qr := n9.x_set (q := ah.heap.size) (i := 11) rfl (.inr ej) vc
                have ca : Blk o5 ah.heap.size 44 [.int .i64 a2, .int .i64 a8, .int .u64 al, .int .i64 bq, .int .i64 bu, .int .i64 aq, .slice ba bd b1, .int .u64 cf, .int .i64 bg, .int .i64 c4, .int .u64 cp, .int .i64 d3, .int .i64 0, .int .i64 0, .slice none 0 0, .int .u64 0] := ca.seti 11 rfl vc
                refine ⟨ca.cani 12 rfl rfl, thenW_in fun qo uk => ?_⟩
                have qj := qr.x_set (q := ah.heap.size) (i := 12) rfl (.inr ej) uk
                have ca : Blk qo ah.heap.size 44 [.int .i64 a2, .int .i64 a8, .int .u64 al, .int .i64 bq, .int .i64 bu, .int .i64 aq, .slice ba bd b1, .int .u64 cf, .int .i64 bg, .int .i64 c4, .int .u64 cp, .int .i64 d3, .int .i64 de, .int .i64 0, .slice none 0 0, .int .u64 0] := ca.seti 12 rfl uk
                refine ⟨ca.cani 13 rfl rfl, thenW_in fun s5 nv => ?_⟩
                have ux := qj.x_set (q := ah.heap.size) (i := 13) rfl (.inr ej) nv
                have ca : Blk s5 ah.heap.size 44 [.int .i64 a2, .int .i64 a8, .int .u64 al, .int .i64 bq, .int .i64 bu, .int .i64 aq, .slice ba bd b1, .int .u64 cf, .int .i64 bg, .int .i64 c4, .int .u64 cp, .int .i64 d3, .int .i64 de, .int .i64 cw, .slice none 0 0, .int .u64 0] := ca.seti 13 rfl nv
                refine ⟨ca.cani 14 rfl rfl, thenW_in fun p4 t6 => ?_⟩
                have p1 := ux.x_set (q := ah.heap.size) (i := 14) rfl (.inr ej) t6
                have ca : Blk p4 ah.heap.size 44 [.int .i64 a2, .int .i64 a8, .int .u64 al, .int .i64 bq, .int .i64 bu, .int .i64 aq, .slice ba bd b1, .int .u64 cf, .int .i64 bg, .int .i64 c4, .int .u64 cp, .int .i64 d3, .int .i64 de, .int .i64 cw, .slice dm dq dc, .int .u64 0] := ca.seti 14 rfl t6
                refine ⟨ca.cani 15 rfl rfl, thenW_in fun gn us => ?_⟩
                have la := p1.x_set (q := ah.heap.size) (i := 15) rfl (.inr ej) us
                have ca : Blk gn ah.heap.size 44 [.int .i64 a2, .int .i64 a8, .int .u64 al, .int .i64 bq, .int .i64 bu, .int .i64 aq, .slice ba bd b1, .int .u64 cf, .int .i64 bg, .int .i64 c4, .int .u64 cp, .int .i64 d3, .int .i64 de, .int .i64 cw, .slice dm dq dc, .int .u64 ee] := ca.seti 15 rfl us
                refine bif_ff f5 ?_
                refine bif_of (fun ln => ?_) (fun ln => ?_)
                · have h := h.1 ln
                  refine ⟨a2, a8, al, bq, bu, aq, ba, bd, b1, cf, bg, c4, cp, d3, de, cw, dm, dq, dc, ee, ⟨ca.celli 0 rfl rfl, ca.celli 1 rfl rfl, ca.celli 2 rfl rfl, ca.celli 3 rfl rfl, ca.celli 4 rfl rfl, ca.celli 5 rfl rfl, ca.celli 6 rfl rfl, ca.celli 7 rfl rfl, ca.celli 8 rfl rfl, ca.celli 9 rfl rfl, ca.celli 10 rfl rfl, ca.celli 11 rfl rfl, ca.celli 12 rfl rfl, ca.celli 13 rfl rfl, ca.celli 14 rfl rfl, ca.celli 15 rfl rfl, trivial⟩, ?_⟩
                  have h := h gn la
                  refine h.mono fun zf zo h => ?_
                  obtain ⟨g0, he, h⟩ := h
                  refine ⟨g0, he, ?_⟩
                  refine bif_of (fun mf => ?_) (fun mf => ?_)
                  · have h := h.1 (beq_t mf)
                    refine bif_of (fun lp => ?_) (fun lp => ?_)
                    · have h := h.1 (of_decide_eq_true lp)
                      refine h.mono fun a35 zu h => ?_
                      obtain ⟨g6, he, h⟩ := h
                      refine ⟨g6, he, ?_⟩
                      exact h
                    · have h := h.2 (Int.not_lt.1 (of_decide_eq_false lp))
                      exact h
                  · have h := h.2 (beq_f mf)
                    exact h
                · have h := h.2 ln
                  have h := h gn la
                  refine h.mono fun a08 zz h => ?_
                  obtain ⟨km, kc, k0, he, h⟩ := h
                  refine ⟨km, kc, k0, he, ?_⟩
                  refine h.mono fun a36 zk h => ?_
                  obtain ⟨ke, j3, k1, he, h⟩ := h
                  refine ⟨ke, j3, k1, he, ?_⟩
                  refine h.mono fun a29 ag h => ?_
                  obtain ⟨a5, a9, ak, bo, bv, ar, be, b2, b0, ch, bi, c1, co, d5, dk, cy, db, du, df, ef, kw, he, h⟩ := h
                  refine ⟨a5, a9, ak, bo, bv, ar, be, b2, b0, ch, bi, c1, co, d5, dk, cy, db, du, df, ef, kw, he, ?_⟩
                  refine thenW_in fun zt tz => ?_
                  have cc := Blk.of_new tz
                  have el := ((Ext.refl no ag)).size
                  have vj := (Ext.refl no ag).x_alloc tz
                  refine ⟨cc.cani 0 rfl rfl, thenW_in fun uv sn => ?_⟩
                  have mp := vj.x_set (q := ag.heap.size) (i := 0) rfl (.inr el) sn
                  have cc : Blk uv ag.heap.size 44 [.int .i64 a5, .int .i64 0, .int .u64 0, .int .i64 0, .int .i64 0, .int .i64 0, .slice none 0 0, .int .u64 0, .int .i64 0, .int .i64 0, .int .u64 0, .int .i64 0, .int .i64 0, .int .i64 0, .slice none 0 0, .int .u64 0] := cc.seti 0 rfl sn
                  refine ⟨cc.cani 1 rfl rfl, thenW_in fun q3 qx => ?_⟩
                  have uw := mp.x_set (q := ag.heap.size) (i := 1) rfl (.inr el) qx
                  have cc : Blk q3 ag.heap.size 44 [.int .i64 a5, .int .i64 a9, .int .u64 0, .int .i64 0, .int .i64 0, .int .i64 0, .slice none 0 0, .int .u64 0, .int .i64 0, .int .i64 0, .int .u64 0, .int .i64 0, .int .i64 0, .int .i64 0, .slice none 0 0, .int .u64 0] := cc.seti 1 rfl qx
                  refine ⟨cc.cani 2 rfl rfl, thenW_in fun sc nd => ?_⟩
                  have xe := uw.x_set (q := ag.heap.size) (i := 2) rfl (.inr el) nd
                  have cc : Blk sc ag.heap.size 44 [.int .i64 a5, .int .i64 a9, .int .u64 ak, .int .i64 0, .int .i64 0, .int .i64 0, .slice none 0 0, .int .u64 0, .int .i64 0, .int .i64 0, .int .u64 0, .int .i64 0, .int .i64 0, .int .i64 0, .slice none 0 0, .int .u64 0] := cc.seti 2 rfl nd
                  refine ⟨cc.cani 3 rfl rfl, thenW_in fun uy u1 => ?_⟩
                  have sb := xe.x_set (q := ag.heap.size) (i := 3) rfl (.inr el) u1
                  have cc : Blk uy ag.heap.size 44 [.int .i64 a5, .int .i64 a9, .int .u64 ak, .int .i64 bo, .int .i64 0, .int .i64 0, .slice none 0 0, .int .u64 0, .int .i64 0, .int .i64 0, .int .u64 0, .int .i64 0, .int .i64 0, .int .i64 0, .slice none 0 0, .int .u64 0] := cc.seti 3 rfl u1
                  refine ⟨cc.cani 4 rfl rfl, thenW_in fun p7 xq => ?_⟩
                  have pd := sb.x_set (q := ag.heap.size) (i := 4) rfl (.inr el) xq
                  have cc : Blk p7 ag.heap.size 44 [.int .i64 a5, .int .i64 a9, .int .u64 ak, .int .i64 bo, .int .i64 bv, .int .i64 0, .slice none 0 0, .int .u64 0, .int .i64 0, .int .i64 0, .int .u64 0, .int .i64 0, .int .i64 0, .int .i64 0, .slice none 0 0, .int .u64 0] := cc.seti 4 rfl xq
                  refine ⟨cc.cani 5 rfl rfl, thenW_in fun tf mv => ?_⟩
                  have ub := pd.x_set (q := ag.heap.size) (i := 5) rfl (.inr el) mv
                  have cc : Blk tf ag.heap.size 44 [.int .i64 a5, .int .i64 a9, .int .u64 ak, .int .i64 bo, .int .i64 bv, .int .i64 ar, .slice none 0 0, .int .u64 0, .int .i64 0, .int .i64 0, .int .u64 0, .int .i64 0, .int .i64 0, .int .i64 0, .slice none 0 0, .int .u64 0] := cc.seti 5 rfl mv
                  refine ⟨cc.cani 6 rfl rfl, thenW_in fun my xd => ?_⟩
                  have mr := ub.x_set (q := ag.heap.size) (i := 6) rfl (.inr el) xd
                  have cc : Blk my ag.heap.size 44 [.int .i64 a5, .int .i64 a9, .int .u64 ak, .int .i64 bo, .int .i64 bv, .int .i64 ar, .slice be b2 b0, .int .u64 0, .int .i64 0, .int .i64 0, .int .u64 0, .int .i64 0, .int .i64 0, .int .i64 0, .slice none 0 0, .int .u64 0] := cc.seti 6 rfl xd
                  refine ⟨cc.cani 7 rfl rfl, thenW_in fun pt qv => ?_⟩
                  have os := mr.x_set (q := ag.heap.size) (i := 7) rfl (.inr el) qv
                  have cc : Blk pt ag.heap.size 44 [.int .i64 a5, .int .i64 a9, .int .u64 ak, .int .i64 bo, .int .i64 bv, .int .i64 ar, .slice be b2 b0, .int .u64 ch, .int .i64 0, .int .i64 0, .int .u64 0, .int .i64 0, .int .i64 0, .int .i64 0, .slice none 0 0, .int .u64 0] := cc.seti 7 rfl qv
                  refine ⟨cc.cani 8 rfl rfl, thenW_in fun t9 sv => ?_⟩
                  have x3 := os.x_set (q := ag.heap.size) (i := 8) rfl (.inr el) sv
                  have cc : Blk t9 ag.heap.size 44 [.int .i64 a5, .int .i64 a9, .int .u64 ak, .int .i64 bo, .int .i64 bv, .int .i64 ar, .slice be b2 b0, .int .u64 ch, .int .i64 bi, .int .i64 0, .int .u64 0, .int .i64 0, .int .i64 0, .int .i64 0, .slice none 0 0, .int .u64 0] := cc.seti 8 rfl sv
                  refine ⟨cc.cani 9 rfl rfl, thenW_in fun mz va => ?_⟩
                  have th := x3.x_set (q := ag.heap.size) (i := 9) rfl (.inr el) va
                  have cc : Blk mz ag.heap.size 44 [.int .i64 a5, .int .i64 a9, .int .u64 ak, .int .i64 bo, .int .i64 bv, .int .i64 ar, .slice be b2 b0, .int .u64 ch, .int .i64 bi, .int .i64 c1, .int .u64 0, .int .i64 0, .int .i64 0, .int .i64 0, .slice none 0 0, .int .u64 0] := cc.seti 9 rfl va
                  refine ⟨cc.cani 10 rfl rfl, thenW_in fun v3 pw => ?_⟩
                  have xi := th.x_set (q := ag.heap.size) (i := 10) rfl (.inr el) pw
                  have cc : Blk v3 ag.heap.size 44 [.int .i64 a5, .int .i64 a9, .int .u64 ak, .int .i64 bo, .int .i64 bv, .int .i64 ar, .slice be b2 b0, .int .u64 ch, .int .i64 bi, .int .i64 c1, .int .u64 co, .int .i64 0, .int .i64 0, .int .i64 0, .slice none 0 0, .int .u64 0] := cc.seti 10 rfl pw
                  refine ⟨cc.cani 11 rfl rfl, thenW_in fun s0 qd => ?_⟩
                  have vv := xi.x_set (q := ag.heap.size) (i := 11) rfl (.inr el) qd
                  have cc : Blk s0 ag.heap.size 44 [.int .i64 a5, .int .i64 a9, .int .u64 ak, .int .i64 bo, .int .i64 bv, .int .i64 ar, .slice be b2 b0, .int .u64 ch, .int .i64 bi, .int .i64 c1, .int .u64 co, .int .i64 d5, .int .i64 0, .int .i64 0, .slice none 0 0, .int .u64 0] := cc.seti 11 rfl qd
                  refine ⟨cc.cani 12 rfl rfl, thenW_in fun s2 xa => ?_⟩
                  have vl := vv.x_set (q := ag.heap.size) (i := 12) rfl (.inr el) xa
                  have cc : Blk s2 ag.heap.size 44 [.int .i64 a5, .int .i64 a9, .int .u64 ak, .int .i64 bo, .int .i64 bv, .int .i64 ar, .slice be b2 b0, .int .u64 ch, .int .i64 bi, .int .i64 c1, .int .u64 co, .int .i64 d5, .int .i64 dk, .int .i64 0, .slice none 0 0, .int .u64 0] := cc.seti 12 rfl xa
                  refine ⟨cc.cani 13 rfl rfl, thenW_in fun oc pj => ?_⟩
                  have u3 := vl.x_set (q := ag.heap.size) (i := 13) rfl (.inr el) pj
                  have cc : Blk oc ag.heap.size 44 [.int .i64 a5, .int .i64 a9, .int .u64 ak, .int .i64 bo, .int .i64 bv, .int .i64 ar, .slice be b2 b0, .int .u64 ch, .int .i64 bi, .int .i64 c1, .int .u64 co, .int .i64 d5, .int .i64 dk, .int .i64 cy, .slice none 0 0, .int .u64 0] := cc.seti 13 rfl pj
                  refine ⟨cc.cani 14 rfl rfl, thenW_in fun s6 oj => ?_⟩
                  have py := u3.x_set (q := ag.heap.size) (i := 14) rfl (.inr el) oj
                  have cc : Blk s6 ag.heap.size 44 [.int .i64 a5, .int .i64 a9, .int .u64 ak, .int .i64 bo, .int .i64 bv, .int .i64 ar, .slice be b2 b0, .int .u64 ch, .int .i64 bi, .int .i64 c1, .int .u64 co, .int .i64 d5, .int .i64 dk, .int .i64 cy, .slice db du df, .int .u64 0] := cc.seti 14 rfl oj
                  refine ⟨cc.cani 15 rfl rfl, thenW_in fun gv pa => ?_⟩
                  have le := py.x_set (q := ag.heap.size) (i := 15) rfl (.inr el) pa
                  have cc : Blk gv ag.heap.size 44 [.int .i64 a5, .int .i64 a9, .int .u64 ak, .int .i64 bo, .int .i64 bv, .int .i64 ar, .slice be b2 b0, .int .u64 ch, .int .i64 bi, .int .i64 c1, .int .u64 co, .int .i64 d5, .int .i64 dk, .int .i64 cy, .slice db du df, .int .u64 ef] := cc.seti 15 rfl pa
                  refine bif_of (fun ll => ?_) (fun ll => ?_)
                  · have h := h.1 (not_t ll)
                    refine ⟨a5, a9, ak, bo, bv, ar, be, b2, b0, ch, bi, c1, co, d5, dk, cy, db, du, df, ef, ⟨cc.celli 0 rfl rfl, cc.celli 1 rfl rfl, cc.celli 2 rfl rfl, cc.celli 3 rfl rfl, cc.celli 4 rfl rfl, cc.celli 5 rfl rfl, cc.celli 6 rfl rfl, cc.celli 7 rfl rfl, cc.celli 8 rfl rfl, cc.celli 9 rfl rfl, cc.celli 10 rfl rfl, cc.celli 11 rfl rfl, cc.celli 12 rfl rfl, cc.celli 13 rfl rfl, cc.celli 14 rfl rfl, cc.celli 15 rfl rfl, trivial⟩, ?_⟩
                    have h := h gv le
                    refine h.mono fun zn a32 h => ?_
                    obtain ⟨ep, f7, i4, j4, jk, fi, fk, fr, fg, ju, eu, fu, gk, kj, j2, fo, fj, fl, ew, jn, he, h⟩ := h
                    refine ⟨ep, f7, i4, j4, jk, fi, fk, fr, fg, ju, eu, fu, gk, kj, j2, fo, fj, fl, ew, jn, he, ?_⟩
                    refine h.mono fun a20 zp h => ?_
                    obtain ⟨kv, he, h⟩ := h
                    refine ⟨kv, he, ?_⟩
                    refine bif_of (fun lm => ?_) (fun lm => ?_)
                    · have h := h.1 lm
                      refine h.mono fun a00 zy h => ?_
                      obtain ⟨gh, he, h⟩ := h
                      refine ⟨gh, he, ?_⟩
                      exact h
                    · have h := h.2 lm
                      exact h
                  · have h := h.2 (not_f ll)
                    have h := h gv le
                    exact h

theorem cachettelaw23_ForkcheckProves.go (a8 : Option Addr) (a7 : Nat) (a9 : Nat) (a6 : Int) (a3 : Option Addr) (a5 : Nat) (a0 : Nat) (a4 : Option Addr) (a2 : Nat) (a1 : Nat) {R : Value → World → Prop} {w : World} (h : cachettelaw23_ForkcheckProves.N a8 a7 a9 a6 a3 a5 a0 a4 a2 a1 R w) : Calls Try.prog 3 #[.slice a8 a7 a9, .int .i64 a6, .slice a3 a5 a0, .slice a4 a2 a1] w fun e w' => ∃ v, e = .returned v ∧ R v w' := cachettelaw23_ForkcheckProves.ok a8 a7 a9 a6 a3 a5 a0 a4 a2 a1 (cachettelaw23_ForkcheckProves.up a8 a7 a9 a6 a3 a5 a0 a4 a2 a1 h)
theorem cachettelaw23_ForkcheckProves.run (a8 : Option Addr) (a7 : Nat) (a9 : Nat) (a6 : Int) (a3 : Option Addr) (a5 : Nat) (a0 : Nat) (a4 : Option Addr) (a2 : Nat) (a1 : Nat) {V : Value} {Q : World → Prop} {w : World} (h : cachettelaw23_ForkcheckProves.N a8 a7 a9 a6 a3 a5 a0 a4 a2 a1 (fun v w' => v = V ∧ Q w') w) : Calls Try.prog 3 #[.slice a8 a7 a9, .int .i64 a6, .slice a3 a5 a0, .slice a4 a2 a1] w (Ret V Q) := (cachettelaw23_ForkcheckProves.go a8 a7 a9 a6 a3 a5 a0 a4 a2 a1 h).mono fun e w' ⟨v, he, hv, hq⟩ => ⟨by rw [he, hv], hq⟩

end Go.Proofs.Ytfmdpjhkojbocaa
