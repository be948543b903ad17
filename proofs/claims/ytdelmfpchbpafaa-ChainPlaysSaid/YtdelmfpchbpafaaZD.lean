/- Chain: a log, and what its calls do (the program's). -/
import Derived.Test.YtdelmfpchbpafaaZC
import Derived.Test.YtdelmfpchbpafaaZB
set_option linter.unusedVariables false
set_option linter.unusedSimpArgs false
set_option maxRecDepth 20000
set_option maxHeartbeats 2000000
namespace Go.Proofs.Ytdelmfpchbpafaa
open Go Go.Mx Go.Proofs
open W (OwnB GivesW numR countR doneR zig unzig intR)
theorem inf47 : (Try.prog.info? 47).map (fun i => (i.zero, i.size, i.bytes)) = some (some (.agg #[.int .i64 0, .int .i64 0, .int .u64 0, .int .i64 0, .int .i64 0, .int .i64 0, .slice none 0 0, .int .u64 0]), 8, 80) := by kernel_rfl
/-- a log, as lists. -/
structure CL where
  wr : Int
  pb : Int
  es : List Ent
  sum : Int
structure PLog (w : World) (o : Own) (q k : Nat) (L : CL) : Prop where
  own : o q = some q
  few : L.es.length ≤ 200
  st : ∃ la lc, ∃ l : List PE, l.map PE.e = L.es ∧ Blk w q 82 [.pointer (some (blk k)), .int .i64 L.wr, .int .u64 L.pb, .slice la l.length lc, .int .u64 L.sum] ∧
    GrowsF 47 8 w o q la l.length lc (PE.Cs l) ∧ (∀ ad, la = some ad → ad.block ≠ q) ∧ ∀ x ∈ l, x.ok w o
def rightC (S : OS) (L : CL) (e : Ent) : Int := if entRight e = true then (if e.w = L.wr then (if holdsE S L.pb e = true then 0 else 6) else 20) else 1
def placeC (L : CL) (e : Ent) : Int := if e.i > L.es.length then 7 else if e.i = L.es.length then 0 else if L.es[e.i.toNat]? = some e then 8 else 9
def behindC (L : CL) (e : Ent) : Int := if e.pv = L.sum then (match L.es.getLast? with | none => 0 | some x => if lessS x.t x.tw e.t e.tw = true then 0 else 2) else 5
def checkC (S : OS) (L : CL) (e : Ent) : Int := if rightC S L e ≠ 0 then rightC S L e else if placeC L e ≠ 0 then placeC L e else behindC L e
def putC (S : OS) (L : CL) (e : Ent) : CL × OS := ({ L with es := L.es ++ [e], sum := (sumE S e).1.1 }, (sumE S e).2)
def acceptC (S : OS) (L : CL) (e : Ent) : Int × CL × OS := if checkC S L e = 0 then (0, putC S L e) else (checkC S L e, L, S)
def nextE (L : CL) (t tw ep : Int) (body : List UInt8) : Ent := ⟨L.wr, L.es.length, L.sum, t, tw, ep, body, 0⟩
def issueC (S : OS) (L : CL) (sec t tw ep : Int) (body : List UInt8) : (Ent × Int) × CL × OS :=
  if L.es.length ≥ 200 then ((Ent.zero, 3), L, S)
  else if entRight (nextE L t tw ep body) = true then
    (if behindC L (nextE L t tw ep body) ≠ 0 then ((Ent.zero, behindC L (nextE L t tw ep body)), L, S)
     else if (signE S sec (nextE L t tw ep body)).1.2 ≠ 0 then ((Ent.zero, (signE S sec (nextE L t tw ep body)).1.2), L, (signE S sec (nextE L t tw ep body)).2)
     else (((signE S sec (nextE L t tw ep body)).1.1, 0), putC (signE S sec (nextE L t tw ep body)).2 L (signE S sec (nextE L t tw ep body)).1.1))
  else ((Ent.zero, 1), L, S)
section
variable {w w' w1 : World} {o o' o1 : Own} {q k n : Nat} {K : Nat → Prop} {S : OS} {L : CL} {e : Ent} {a : Option Addr} {c : Nat}
theorem PLog.lt (h : PLog w o q k L) : q < w.heap.size := by obtain ⟨_, _, _, _, hb, _⟩ := h.st; exact hb.lt
theorem PLog.step (h : PLog w o q k L) (s : Step K w o w' o') (hq : ¬ K q) : PLog w' o' q k L := by
  have hlt := h.lt
  obtain ⟨la, lc, l, h0, h1, h2, h3, h4⟩ := h.st
  exact ⟨(s.own hlt).trans h.own, h.few, la, lc, l, h0, s.blk h1 h.own hq, h2.step s hq, h3, fun x hx => (h4 x hx).step s⟩
theorem PLog.new {w w' : World} {o : Own} {q k : Nat} {wr pb : Int} (X : Ext no w w') (hb : Blk w' q 82 [.pointer (some (blk k)), .int .i64 wr, .int .u64 pb, .slice none 0 0, .int .u64 0]) (h1 : w.heap.size ≤ q) (h2 : q < w'.heap.size) (ok : Tags w o) :
    ∃ o', Step no w o w' o' ∧ PLog w' o' q k ⟨wr, pb, [], 0⟩ :=
  ⟨_, (Step.of_no X ok).tag h1 h2, tag_self, Nat.zero_le _, none, 0, [], rfl, hb, .inl (Grows.nil _ _ _ _ _), fun ad h => (by cases h), fun x h => (by cases h)⟩
theorem getElem_map_e {l : List PE} {es : List Ent} (h : l.map PE.e = es) (i : Nat) : es[i]? = (l[i]?).map PE.e := by rw [← h, List.getElem?_map]
theorem len_map_e {l : List PE} {es : List Ent} (h : l.map PE.e = es) : l.length = es.length := by rw [← h, List.length_map]
theorem cNew_spec {w : World} {o : Own} {k : Nat} (ok : Tags w o) (wr pb : Int) :
    Calls Try.prog 10 #[.pointer (some (blk k)), .int .i64 wr, .int .u64 pb] w (fun x w' => (¬ (0 ≤ wr ∧ wr < 8) ∧ x = .returned (.tuple #[.pointer none, .int .i64 1]) ∧ w' = w) ∨ ((0 ≤ wr ∧ wr < 8) ∧ ∃ q o', x = .returned (.tuple #[.pointer (some (blk q)), .int .i64 0]) ∧ w.heap.size ≤ q ∧ Step no w o w' o' ∧ PLog w' o' q k ⟨wr, pb, [], 0⟩)) := by
  refine (chain_New.go _ _ _ (R := fun v w' => (¬ (0 ≤ wr ∧ wr < 8) ∧ v = (.tuple #[.pointer none, .int .i64 1]) ∧ w' = w) ∨ ((0 ≤ wr ∧ wr < 8) ∧ ∃ q o', v = (.tuple #[.pointer (some (blk q)), .int .i64 0]) ∧ w.heap.size ≤ q ∧ Step no w o w' o' ∧ PLog w' o' q k ⟨wr, pb, [], 0⟩)) ?_).mono fun x w' ⟨v, he, h⟩ => by
    rcases h with ⟨h1, h2, h3⟩ | ⟨h0, q, o', h1, h2⟩
    · exact .inl ⟨h1, by rw [he, h2], h3⟩
    · exact .inr ⟨h0, q, o', by rw [he, h1], h2⟩
  unfold chain_New.N
  refine ⟨fun h => .inl ⟨by omega, rfl, rfl⟩, fun h1 => ⟨fun h => .inl ⟨by omega, rfl, rfl⟩, fun h2 => ⟨fun h => (by cases h), fun _ w7 q X hb hq hq' => ?_⟩⟩⟩
  obtain ⟨o', s, p⟩ := PLog.new X hb hq hq' ok
  exact .inr ⟨⟨h1, h2⟩, q, o', rfl, hq, s, p⟩
theorem cClone_spec {w : World} {a : Option Addr} {c : Nat} {bs : List UInt8} (h : RowAt w a (bytesV bs)) (hl : bs.length ≤ 1000000) :
    Calls Try.prog 68 #[.slice a bs.length c] w (fun e w' => ∃ a' c', e = .returned (.slice a' bs.length c') ∧ OwnB w.heap.size w' a' c' bs ∧ Ext no w w') := by
  refine (slices_Clone_byte_byte.go _ _ _ (R := fun v w' => ∃ a' c', v = (.slice a' bs.length c') ∧ OwnB w.heap.size w' a' c' bs ∧ Ext no w w') ?_).mono fun e w' ⟨v, he, a, c, hv, hw⟩ => ⟨a, c, by rw [he, hv], hw⟩
  unfold slices_Clone_byte_byte.N
  refine ⟨fun hn => ?_, fun hn w2 q X hb hq hq' => ?_⟩
  · subst hn
    have : bs = [] := by simpa [bytesV] using h.none_nil
    subst this
    exact ⟨none, 0, rfl, OwnB.nil _ _, Ext.refl _ _⟩
  · have hO : OwnB w.heap.size w2 (some (blk q)) 0 [] := ⟨owns_of_blk hb rfl (Nat.zero_le _), fun ad ha => by cases ha; exact ⟨hq, hq'⟩⟩
    obtain ⟨a', c', w', hr, hO', hx⟩ := hO.append (t := 43) (ty := 43) Try.underlying43 X.size (xc := c) (h.no X) (by simp; omega)
    rw [List.nil_append] at hr hO'
    exact ⟨a', _, c', w', hr, a', c', rfl, hO', X.then hx fun b hb => .inr hb⟩
theorem cOwn_spec (ok : Tags w o) (h : Row w o a (bytesV e.body)) (hl : e.body.length ≤ 1000000) :
    Calls Try.prog 50 #[entV e a c] w (fun x w' => ∃ o' a' c', x = .returned (entV e a' c') ∧ Step no w o w' o' ∧ Row w' o' a' (bytesV e.body) ∧ e.body.length ≤ c') := by
  refine (chain_own.go e.w e.i e.pv e.t e.tw e.ep a e.body.length c e.sg (R := fun v w' => ∃ o' a' c', v = (entV e a' c') ∧ Step no w o w' o' ∧ Row w' o' a' (bytesV e.body) ∧ e.body.length ≤ c') ?_).mono fun x w' ⟨v, he, o', a, c, hv, hw⟩ => ⟨o', a, c, by rw [he, hv], hw⟩
  unfold chain_own.N
  intro w10 p11 p12 X10 hp
  obtain ⟨s10, M10⟩ := Step.priv X10 hp ok
  have g11 := hp p11 (by simp)
  have g12 := hp p12 (by simp)
  refine (cClone_spec (h.step s10).1 hl).mono fun x w15 ⟨ca, cc, he, hO, X15⟩ => ⟨_, _, _, he, X15.kept, fun w24 X24 => ?_⟩
  have s15 := Step.of_no X15 s10.ok
  have s24 := Step.stores X24 s15.ok (M10.step s15) (by simp [or_comm])
  exact ⟨_, ca, cc, rfl, (s10.trans s15).trans' s24 (fun i hi => .inr (by simp at hi; omega)), (OwnB.tight hO (Nat.le_refl _)).step s24, hO.le⟩
theorem cright_spec (P : PLog w o q k L) (h : POrc w o k S) (ok : Tags w o) (hf : entRight e = true → e.fit) (hb : RowAt w a (bytesV e.body)) :
    Calls Try.prog 42 #[.pointer (some (blk q)), entV e a c] w (Ret (.int .i64 (rightC S L e)) fun w' => Ext no w w') := by
  refine chain_Log_right.run (some (blk q)) e.w e.i e.pv e.t e.tw e.ep a e.body.length c e.sg ?_
  unfold chain_Log_right.N
  rw [entRight_F]
  obtain ⟨la, lc, l, h0, h1, h2, h3, h4⟩ := P.st
  refine ⟨fun hr w11 X => ⟨by unfold rightC; rw [if_neg (by rw [hr]; decide)], X⟩, fun hr => ⟨_, rfl, _, h1.cella (i := 1) rfl, fun hw w14 X => ⟨by unfold rightC; rw [if_pos hr, if_neg hw], X⟩, fun hw => ⟨_, h1.cella (i := 0) rfl, _, h1.cella (i := 2) rfl, fun w20 X20 => ?_⟩⟩⟩
  have s20 := Step.of_no X20 ok
  refine (HoldsO (h.step s20 id) s20.ok L.pb (e := e) hf (hb.no X20)).mono fun x w28 ⟨he, X28⟩ => ⟨_, he, fun hh => ⟨?_, X20.trans X28⟩, fun hh => ⟨?_, X20.trans X28⟩⟩
  · unfold rightC; rw [if_pos hr, if_pos hw, if_neg (by rw [hh]; decide)]
  · unfold rightC; rw [if_pos hr, if_pos hw, if_pos hh]
theorem cplace_spec (P : PLog w o q k L) (h0 : 0 ≤ e.i) (hb : RowAt w a (bytesV e.body)) :
    Calls Try.prog 43 #[.pointer (some (blk q)), entV e a c] w (Ret (.int .i64 (placeC L e)) fun w' => Ext no w w') := by
  refine chain_Log_place.run (some (blk q)) e.w e.i e.pv e.t e.tw e.ep a e.body.length c e.sg ?_
  unfold chain_Log_place.N
  obtain ⟨la, lc, l, g0, h1, h2, h3, h4⟩ := P.st
  have hl := len_map_e g0
  unfold placeC
  rw [← hl]
  refine ⟨_, rfl, la, l.length, lc, h1.cella (i := 3) rfl, fun hg w10 X => ⟨by rw [if_pos hg], X⟩, fun hg => ⟨fun he w10 X => ⟨by rw [if_neg (by omega), if_pos he], X⟩, fun hne => ?_⟩⟩
  have hi : e.i.toNat < l.length := by omega
  have hgx : l[e.i.toNat]? = some l[e.i.toNat] := List.getElem?_eq_getElem hi
  have hpk := h4 _ (List.getElem_mem hi)
  generalize l[e.i.toNat] = x at *
  obtain ⟨ad, rfl⟩ := h2.row.faddr PE.len (by decide) hi
  refine ⟨some ad, l.length, lc, h1.cella (i := 3) rfl, ad, rfl, h0, by omega, x.e.w, x.e.i, x.e.pv, x.e.t, x.e.tw, x.e.ep, x.a, x.e.body.length, x.c, x.e.sg, PE.loads h2.row rfl hgx, fun w18 X18 => ?_⟩
  refine (ESame_spec (e := x.e) (f := e) (hpk.1.1.no X18) (hb.no X18)).mono fun z w34 ⟨he, X34⟩ => ⟨_, he, fun hs => ⟨?_, X18.trans X34⟩, fun hs => ⟨?_, X18.trans X34⟩⟩
  · rw [if_neg (by omega), if_neg hne, getElem_map_e g0, hgx, if_pos (by rw [Option.map_some, of_decide_eq_true hs])]
  · rw [if_neg (by omega), if_neg hne, getElem_map_e g0, hgx, if_neg (by rw [Option.map_some]; intro h; injection h with h; exact of_decide_eq_false hs h)]
theorem cbehind_spec (P : PLog w o q k L) :
    Calls Try.prog 35 #[.pointer (some (blk q)), entV e a c] w (Ret (.int .i64 (behindC L e)) fun w' => Ext no w w') := by
  refine chain_Log_behind.run (some (blk q)) e.w e.i e.pv e.t e.tw e.ep a e.body.length c e.sg ?_
  unfold chain_Log_behind.N
  obtain ⟨la, lc, l, g0, h1, h2, h3, h4⟩ := P.st
  have hl := len_map_e g0
  have hfew := P.few
  refine ⟨_, rfl, la, l.length, lc, h1.cella (i := 3) rfl, _, h1.cella (i := 4) rfl, fun hp w14 X => ⟨by unfold behindC; rw [if_neg hp], X⟩, fun hp => ⟨fun hn => ?_, fun hn w19 X => ⟨?_, X⟩⟩⟩
  · have hi : l.length - 1 < l.length := by omega
    have hgx : l[l.length - 1]? = some l[l.length - 1] := List.getElem?_eq_getElem hi
    generalize l[l.length - 1] = x at *
    obtain ⟨ad, rfl⟩ := h2.row.faddr PE.len (by decide) hi
    have hlast : L.es.getLast? = some x.e := by rw [List.getLast?_eq_getElem?, getElem_map_e g0, ← hl, hgx]; rfl
    have e1 : ((l.length : Int) - 1).toNat = l.length - 1 := by omega
    have c3 := PE.cell h2.row rfl hgx (j := 3) (v := .int .i64 x.e.t) rfl
    have c4 := PE.cell h2.row rfl hgx (j := 4) (v := .int .i64 x.e.tw) rfl
    refine ⟨some ad, l.length, lc, h1.cella (i := 3) rfl, by omega, by omega, ad, rfl, by omega, by omega, x.e.t, x.e.tw, ⟨by rw [e1, add_add]; exact c3, by rw [e1, add_add]; exact c4, trivial⟩, fun w19 X19 => ?_⟩
    refine (Less_spec w19 x.e.t x.e.tw e.t e.tw).mono fun z w30 ⟨he, X30⟩ => ⟨_, he, fun hs => ⟨?_, X19.trans X30⟩, fun hs => ⟨?_, X19.trans X30⟩⟩
    · unfold behindC; rw [if_pos hp, hlast]; simp only []; rw [if_neg (by rw [hs]; decide)]
    · unfold behindC; rw [if_pos hp, hlast]; simp only []; rw [if_pos hs]
  · have : L.es = [] := List.eq_nil_of_length_eq_zero (by omega)
    unfold behindC; rw [if_pos hp, this]; rfl
theorem rightC_right (h : rightC S L e = 0) : entRight e = true := by
  unfold rightC at h
  by_cases hr : entRight e = true
  · exact hr
  · rw [if_neg hr] at h; cases h
theorem cCheck_spec (P : PLog w o q k L) (h : POrc w o k S) (ok : Tags w o) (hf : entRight e = true → e.fit) (hb : RowAt w a (bytesV e.body)) :
    Calls Try.prog 19 #[.pointer (some (blk q)), entV e a c] w (Ret (.int .i64 (checkC S L e)) fun w' => Ext no w w') := by
  refine chain_Log_Check.run (some (blk q)) e.w e.i e.pv e.t e.tw e.ep a e.body.length c e.sg ?_
  unfold chain_Log_Check.N
  refine ⟨fun h => (by cases h), fun _ w10 p13 X10 hp => ?_⟩
  refine ⟨fun m vs w1 => ∃ t : Nat, vs = [.int .i64 t] ∧ m + t = 3 ∧ Ext no w w1 ∧ (0 < t → rightC S L e = 0) ∧ (1 < t → placeC L e = 0) ∧ (2 < t → behindC L e = 0), 3, ⟨0, rfl, rfl, X10, fun h => absurd h (by decide), fun h => absurd h (by decide), fun h => absurd h (by decide)⟩, ?_⟩
  rintro m w1 i ⟨t, hi, hm, X1, c0, c1, c2⟩
  simp only [List.cons.injEq, Value.int.injEq, true_and, and_true] at hi
  subst hi
  have s1 := Step.of_no X1 ok
  refine ⟨fun ht => ⟨by omega, by omega, fun h0 => ?_, fun h0 => ?_, fun h0 => ?_⟩, fun ht => ?_⟩
  · obtain rfl : t = 0 := by omega
    refine (cright_spec (P.step s1 id) (h.step s1 id) s1.ok hf (hb.no X1)).mono fun x w21 ⟨he, X21⟩ => ⟨_, he, X21.kept, fun hr => ⟨by unfold checkC; rw [if_pos hr], X1.trans X21⟩, fun hr => ⟨by omega, by omega, m - 1, by omega, 1, rfl, by omega, X1.trans X21, fun _ => hr, fun h => absurd h (by decide), fun h => absurd h (by decide)⟩⟩
  · obtain rfl : t = 1 := by omega
    have hr := c0 (by decide)
    refine (cplace_spec (P.step s1 id) ((entRight_iff _).1 (rightC_right hr)).2.2.1 (hb.no X1)).mono fun x w21 ⟨he, X21⟩ => ⟨_, he, X21.kept, fun hq => ⟨by unfold checkC; rw [if_neg (not_not_intro hr), if_pos hq], X1.trans X21⟩, fun hq => ⟨by omega, by omega, m - 1, by omega, 2, rfl, by omega, X1.trans X21, fun _ => hr, fun _ => hq, fun h => absurd h (by decide)⟩⟩
  · obtain rfl : t = 2 := by omega
    have hr := c0 (by decide)
    have hq := c1 (by decide)
    refine (cbehind_spec (P.step s1 id)).mono fun x w21 ⟨he, X21⟩ => ⟨_, he, X21.kept, fun hz => ⟨by unfold checkC; rw [if_neg (not_not_intro hr), if_neg (not_not_intro hq)], X1.trans X21⟩, fun hz => ⟨by omega, by omega, m - 1, by omega, 3, rfl, by omega, X1.trans X21, fun _ => hr, fun _ => hq, fun _ => hz⟩⟩
  · obtain rfl : t = 3 := by omega
    refine ⟨?_, X1⟩
    unfold checkC; rw [if_neg (not_not_intro (c0 (by decide))), if_neg (not_not_intro (c1 (by decide))), c2 (by decide)]
end
end Go.Proofs.Ytdelmfpchbpafaa

/- Chain: what turns a log; what it tells (the program's). -/
set_option linter.unusedVariables false
set_option linter.unusedSimpArgs false
set_option maxRecDepth 20000
set_option maxHeartbeats 2000000
namespace Go.Proofs.Ytdelmfpchbpafaa
open Go Go.Mx Go.Proofs
open W (OwnB GivesW numR countR doneR zig unzig intR)
section
variable {w w' w1 : World} {o o' o1 : Own} {q k n : Nat} {K : Nat → Prop} {S : OS} {L : CL} {e : Ent} {a : Option Addr} {c : Nat}
theorem PLog.cell {la : Option Addr} {n lc : Nat} {x0 x1 x2 x3 x4 : Value} (hb : Blk w q 82 [x0, x1, x2, x3, x4]) : w.cell? ((blk q).add 0) = some x0 ∧ w.cell? ((blk q).add 1) = some x1 ∧ w.cell? ((blk q).add 3) = some x3 ∧ w.cell? ((blk q).add 4) = some x4 :=
  ⟨hb.cella (i := 0) rfl, hb.cella (i := 1) rfl, hb.cella (i := 3) rfl, hb.cella (i := 4) rfl⟩
theorem cput_spec (P : PLog w o q k L) (h : POrc w o k S) (ok : Tags w o) (hqk : q ≠ k) (hok : S.ok) (hlen : S.used.length < 1000000) (hf : e.fit) (hb : Row w o a (bytesV e.body)) (hbl : e.body.length ≤ 1000000) (hes : L.es.length < 200) :
    Calls Try.prog 37 #[.pointer (some (blk q)), entV e a c] w (Gs (fun i => i = q ∨ i = k) w o (.tuple #[]) fun w' o' => PLog w' o' q k (putC S L e).1 ∧ POrc w' o' k (putC S L e).2) := by
  refine (chain_Log_put.go (some (blk q)) e.w e.i e.pv e.t e.tw e.ep a e.body.length c e.sg (R := fun v w' => ∃ o', v = .tuple #[] ∧ Step (fun i => i = q ∨ i = k) w o w' o' ∧ PLog w' o' q k (putC S L e).1 ∧ POrc w' o' k (putC S L e).2) ?_).mono fun x w' ⟨v, he, o', hv, hw⟩ => ⟨o', by rw [he, hv], hw⟩
  unfold chain_Log_put.N
  obtain ⟨la, lc, l, g0, b1, b2, b3, b4⟩ := P.st
  have hl := len_map_e g0
  have hlt := P.lt
  refine ⟨_, rfl, la, l.length, lc, b1.cella (i := 3) rfl, fun w11 p15 X11 hp => ?_⟩
  obtain ⟨s11, M11⟩ := Step.priv X11 hp ok
  have g15 := hp p15 (by simp)
  refine (cOwn_spec s11.ok (hb.step s11) hbl).mono fun x w25 ⟨o25, ba, bc, he, s25', rb, lb⟩ => ⟨e.w, e.i, e.pv, e.t, e.tw, e.ep, ba, e.body.length, bc, e.sg, he, M11.keep s25' (fun _ _ => id), ?_⟩
  have s25 := s11.trans s25'
  have P25 := P.step s25 id
  refine ⟨(s25.blk b1 P.own id).cella (i := 3) rfl, fun w27 q28 X27 hb28 hq28 hq28' => ?_⟩
  have s27' := Step.of_no X27 s25.ok
  have s27 := s25.trans s27'
  have b27 := s27.blk b1 P.own id
  have M27 := (M11.step s25').step s27'
  obtain ⟨i, hi, hz, hsz, hby⟩ := info_of inf47
  have hnews : RowAt w27 (some (blk q28)) (PE.C ⟨e, ba, bc⟩) := RowAt.of_blk hb28
  have l27 := s27.size
  obtain ⟨a', c', w31, o31, hr, s31', g31, hkeep, hblk⟩ := (b2.step s27 id).push (ty := 40) Try.underlying40 hi hz hsz hby rfl (by decide) s27.ok (Nat.lt_of_lt_of_le hlt l27) (xa := some (blk q28)) (m := 1) (xc := 1) (news := PE.C ⟨e, ba, bc⟩) rfl hnews (PE.one _) (by decide) (by omega) (by omega)
  have oq27 : grow w25 o25 q = some q := (s27.own hlt).trans P.own
  have b31 : Blk w31 q 82 [.pointer (some (blk k)), .int .i64 L.wr, .int .u64 L.pb, .slice la l.length lc, .int .u64 L.sum] := by
    unfold Blk at b27 ⊢
    rw [hkeep q (Nat.lt_of_lt_of_le hlt l27) fun ad hd e => b3 ad hd e.symm]; exact b27
  refine ⟨b27.cella (i := 3) rfl, a', _, c', w31, hr, M27.keep s31' (fun p hp e => by simp at hp; omega), b31.cana (i := 3) rfl, fun p hp => ?_, thenW_in fun w32 e32 => ?_⟩
  · simp at hp; subst hp; have : Addr.block ((blk q).add 3) = q := rfl; omega
  have hq31 : q < w31.heap.size := Nat.lt_of_lt_of_le hlt (Nat.le_trans l27 s31'.size)
  have tq31 : o31 q = some q := (s31'.own (Nat.lt_of_lt_of_le hlt l27)).trans oq27
  have hne : ∀ ad, a' = some ad → ad.block ≠ q := fun ad hd e => by
    rcases hblk ad hd with ⟨b, hb1, hb2⟩ | hq
    · exact b3 b hb1 (by omega)
    · omega
  have X32 : Ext (fun b => b = q) w31 w32 := (Ext.refl (fun b => b = q) w31).x_set (q := q) (i := 3) rfl (.inl rfl) e32
  obtain ⟨o32, s32'⟩ := Step.store1 X32 s31'.ok tq31
  have b32 := b31.seti 3 rfl e32
  have s2732 := s31'.trans s32'
  have h32 := (h.step s27 id).step s2732 (fun e => hqk e.symm)
  refine ⟨_, b32.cella (i := 0) rfl, fun w33 X33 => ?_⟩
  have s33' := Step.of_no X33 s32'.ok
  refine (SumO (h32.step s33' id) s33'.ok hok hlen (e := e) (fun _ => hf) ((((hb.step s27).step s2732).step s33').1)).mono fun x w39 ⟨o39, he, s39', p39⟩ => ⟨_, _, he, ?_⟩
  have b39 := s39'.blk (s33'.blk b32 ((s32'.own hq31).trans tq31) id) (((s33'.own (Nat.lt_of_lt_of_le hq31 s32'.size)).trans ((s32'.own hq31).trans tq31))) hqk
  refine ⟨b39.cana (i := 4) rfl, thenW_in fun w40 e40 => ?_⟩
  have X40 : Ext (fun b => b = q) w39 w40 := (Ext.refl (fun b => b = q) w39).x_set (q := q) (i := 4) rfl (.inl rfl) e40
  have l33 := s33'.size
  have l32 := s32'.size
  have tq39 : o39 q = some q := (s39'.own (by omega)).trans ((s33'.own (by omega)).trans ((s32'.own hq31).trans tq31))
  have hq39 : q < w39.heap.size := b39.lt
  obtain ⟨o40, s40'⟩ := Step.store1 X40 s39'.ok tq39
  have b40 := b39.seti 4 rfl e40
  have s2740 : Step (fun i => i = q ∨ i = k) w27 _ w40 o40 := (((s2732.mono fun _ h _ => .inl h).trans (s33'.none.trans (s39'.mono fun _ h _ => .inr h)))).trans (s40'.mono fun _ h _ => .inl h)
  refine ⟨o40, rfl, s27.none.trans s2740, ⟨(s40'.own hq39).trans tq39, ?_, a', c', l ++ [⟨e, ba, bc⟩], ?_, ?_, ?_, hne, fun x hx => ?_⟩, p39.step s40' (fun e => hqk e.symm)⟩
  · show (L.es ++ [e]).length ≤ 200; simp; omega
  · rw [List.map_append, g0]; rfl
  · rw [List.length_append]; exact b40
  · rw [List.length_append]
    have : PE.Cs (l ++ [⟨e, ba, bc⟩]) = PE.Cs l ++ PE.C ⟨e, ba, bc⟩ := by simp [PE.Cs]
    rw [this]
    exact (((g31.keep X32 (fun ad hd => hne ad hd) fun b hb => s32'.own hb).step s33' id).step s39' hqk).keep X40 (fun ad hd => hne ad hd) fun b hb => s40'.own hb
  · rcases List.mem_append.1 hx with hx | hx
    · exact ((b4 x hx).step s27).step s2740
    · simp at hx; subst hx
      exact ⟨((rb.step s27').step s2740), lb, hf⟩
theorem accept_out (hes : L.es.length ≤ 200) (h : checkC S L e = 0) : L.es.length < 200 ∧ entRight e = true ∧ e.w = L.wr ∧ holdsE S L.pb e = true ∧ e.i = L.es.length ∧ e.pv = L.sum := by
  unfold checkC at h
  by_cases h1 : rightC S L e = 0
  · rw [if_neg (not_not_intro h1)] at h
    by_cases h2 : placeC L e = 0
    · rw [if_neg (not_not_intro h2)] at h
      have hr := rightC_right h1
      have hi := ((entRight_iff _).1 hr).2.2.2.1
      have e1 : e.w = L.wr ∧ holdsE S L.pb e = true := by
        unfold rightC at h1
        rw [if_pos hr] at h1
        by_cases hw : e.w = L.wr
        · rw [if_pos hw] at h1
          by_cases hh : holdsE S L.pb e = true
          · exact ⟨hw, hh⟩
          · rw [if_neg hh] at h1; cases h1
        · rw [if_neg hw] at h1; cases h1
      have e2 : e.i = L.es.length := by
        unfold placeC at h2
        by_cases hg : e.i > L.es.length
        · rw [if_pos hg] at h2; cases h2
        · rw [if_neg hg] at h2
          by_cases he : e.i = L.es.length
          · exact he
          · rw [if_neg he] at h2; split at h2 <;> cases h2
      have e3 : e.pv = L.sum := by
        unfold behindC at h
        by_cases hp : e.pv = L.sum
        · exact hp
        · rw [if_neg hp] at h; cases h
      exact ⟨by omega, hr, e1.1, e1.2, e2, e3⟩
    · rw [if_pos h2] at h; exact absurd h h2
  · rw [if_pos h1] at h; exact absurd h h1
theorem cAccept_spec (P : PLog w o q k L) (h : POrc w o k S) (ok : Tags w o) (hqk : q ≠ k) (hok : S.ok) (hlen : S.used.length < 1000000) (hf : entRight e = true → e.fit) (hb : Row w o a (bytesV e.body)) :
    Calls Try.prog 21 #[.pointer (some (blk q)), entV e a c] w (Gs (fun i => i = q ∨ i = k) w o (.int .i64 (acceptC S L e).1) fun w' o' => PLog w' o' q k (acceptC S L e).2.1 ∧ POrc w' o' k (acceptC S L e).2.2) := by
  refine (chain_Log_Accept.go (some (blk q)) e.w e.i e.pv e.t e.tw e.ep a e.body.length c e.sg (R := fun v w' => ∃ o', v = .int .i64 (acceptC S L e).1 ∧ Step (fun i => i = q ∨ i = k) w o w' o' ∧ PLog w' o' q k (acceptC S L e).2.1 ∧ POrc w' o' k (acceptC S L e).2.2) ?_).mono fun x w' ⟨v, he, o', hv, hw⟩ => ⟨o', by rw [he, hv], hw⟩
  unfold chain_Log_Accept.N
  intro w10 p11 X10 hp
  have s10 := Step.of_no X10 ok
  refine (cCheck_spec (P.step s10 id) (h.step s10 id) s10.ok hf (hb.step s10).1).mono fun x w14 ⟨he, X14⟩ => ⟨_, he, X14.kept, fun h0 => ?_, fun h0 => ?_⟩
  · have s14 := s10.trans (Step.of_no X14 s10.ok)
    obtain ⟨q1, q2, _⟩ := accept_out P.few h0
    have hbl := ((entRight_iff _).1 q2).2.2.2.2.2.2.2.2.2.1
    refine (cput_spec (P.step s14 id) (h.step s14 id) s14.ok hqk hok hlen (hf q2) (hb.step s14) (by omega) q1).mono fun x w17 ⟨o17, he, s17, p17, h17⟩ => ⟨he, o17, ?_, s14.none.trans s17, ?_, ?_⟩
    · rw [h0]; unfold acceptC; rw [if_pos h0]
    · unfold acceptC; rw [if_pos h0]; exact p17
    · unfold acceptC; rw [if_pos h0]; exact h17
  · have s14 := s10.trans (Step.of_no X14 s10.ok)
    unfold acceptC
    rw [if_neg h0]
    exact ⟨_, rfl, s14.none, P.step s14 id, h.step s14 id⟩
theorem signE_body {s : Int} (h : entRight e = true) : (signE S s e).1.1.body.length ≤ 1100 := by
  unfold signE
  rw [if_pos h]
  split
  · exact ((entRight_iff _).1 h).2.2.2.2.2.2.2.2.2.1
  · exact Nat.zero_le _
theorem signE_e {s : Int} (h : (signE S s e).1.2 = 0) : entRight e = true ∧ (signE S s e).1.1 = { e with sg := (signOf S s (textL e)).1.1 } ∧ (signE S s e).2 = (signOf S s (textL e)).2 ∧ (signOf S s (textL e)).1.2 = true := by
  unfold signE at h ⊢
  by_cases hr : entRight e = true
  · rw [if_pos hr] at h ⊢
    by_cases hs : (signOf S s (textL e)).1.2 = true
    · rw [if_pos hs]; exact ⟨hr, rfl, rfl, hs⟩
    · rw [if_neg hs] at h; cases h
  · rw [if_neg hr] at h; cases h
theorem cIssue_spec (P : PLog w o q k L) (h : POrc w o k S) (ok : Tags w o) (hqk : q ≠ k) (hok : S.ok) (hlen : S.used.length + 1 < 1000000) (hsum : 0 ≤ L.sum ∧ L.sum < 18446744073709551616) (sec t tw ep : Int) {body : List UInt8} (hsg : 0 ≤ (signOf S sec (textL (nextE L t tw ep body))).1.1 ∧ (signOf S sec (textL (nextE L t tw ep body))).1.1 < 18446744073709551616) (hb : Row w o a (bytesV body)) :
    Calls Try.prog 15 #[.pointer (some (blk q)), .int .u64 sec, .agg #[.int .i64 t, .int .i64 tw], .int .i64 ep, .slice a body.length c] w (fun x w' => ∃ o' a' c', x = .returned (.tuple #[entV (issueC S L sec t tw ep body).1.1 a' c', .int .i64 (issueC S L sec t tw ep body).1.2]) ∧ Step (fun i => i = q ∨ i = k) w o w' o' ∧
      PLog w' o' q k (issueC S L sec t tw ep body).2.1 ∧ POrc w' o' k (issueC S L sec t tw ep body).2.2 ∧ Row w' o' a' (bytesV (issueC S L sec t tw ep body).1.1.body) ∧ (issueC S L sec t tw ep body).1.1.body.length ≤ c') := by
  refine (chain_Log_Issue.go (some (blk q)) sec t tw ep a body.length c (R := fun v w' => ∃ o' a' c', v = (.tuple #[entV (issueC S L sec t tw ep body).1.1 a' c', .int .i64 (issueC S L sec t tw ep body).1.2]) ∧ Step (fun i => i = q ∨ i = k) w o w' o' ∧
      PLog w' o' q k (issueC S L sec t tw ep body).2.1 ∧ POrc w' o' k (issueC S L sec t tw ep body).2.2 ∧ Row w' o' a' (bytesV (issueC S L sec t tw ep body).1.1.body) ∧ (issueC S L sec t tw ep body).1.1.body.length ≤ c') ?_).mono fun x w' ⟨v, he, o', a', c', hv, hw⟩ => ⟨o', a', c', by rw [he, hv], hw⟩
  unfold chain_Log_Issue.N
  obtain ⟨la, lc, l, g0, b1, b2, b3, b4⟩ := P.st
  have hl := len_map_e g0
  have hlt := P.lt
  have hF : entry_Right.F L.wr (l.length : Int) L.sum t tw ep a body.length c 0 = entRight (nextE L t tw ep body) := by
    rw [hl]; exact entRight_F (nextE L t tw ep body) a c
  refine ⟨fun h => (by cases h), fun _ => ⟨_, rfl, la, l.length, lc, b1.cella (i := 3) rfl, fun hge w31 X31 => ?_, fun hlt2 => ⟨_, b1.cella (i := 1) rfl, la, l.length, lc, b1.cella (i := 3) rfl, _, b1.cella (i := 4) rfl, ?_⟩⟩⟩
  · have s := Step.of_no X31 ok
    unfold issueC; rw [if_pos (show L.es.length ≥ 200 by omega)]
    exact ⟨_, none, 0, rfl, s.none, P.step s id, h.step s id, Row.nil _ _ _, Nat.le_refl _⟩
  rw [hF]
  have hn : ¬ (L.es.length ≥ 200) := by omega
  refine ⟨fun hr w59 X59 => ?_, fun hr w50 p64 p65 X50 hp => ?_⟩
  · have s := Step.of_no X59 ok
    unfold issueC; rw [if_neg hn, if_neg (by rw [hr]; decide)]
    exact ⟨_, none, 0, rfl, s.none, P.step s id, h.step s id, Row.nil _ _ _, Nat.le_refl _⟩
  obtain ⟨s50, M50⟩ := Step.priv X50 hp ok
  have g64 := hp p64 (by simp)
  have g65 := hp p65 (by simp)
  have hkl := h.lt
  have hE : ∀ (v : Value), v = entV (nextE L t tw ep body) a c → v = .agg #[.int .i64 L.wr, .int .i64 (l.length : Int), .int .u64 L.sum, .int .i64 t, .int .i64 tw, .int .i64 ep, .slice a body.length c, .int .u64 0] := fun v hv => by rw [hv, hl]; rfl
  have hf : (nextE L t tw ep body).fit := ⟨hsum.1, hsum.2, by show (0 : Int) ≤ 0; decide, by show (0 : Int) < _; decide⟩
  rw [← hE _ rfl]
  refine (cbehind_spec (P.step s50 id)).mono fun x w68 ⟨he, X68⟩ => ⟨_, he, X68.kept, fun hbe w77 X77 => ?_, fun hbe => ?_⟩
  · have s68' := Step.of_no X68 s50.ok
    have s77' := Step.stores X77 s68'.ok (M50.step s68') (by simp [or_comm])
    have s77 := (s50.trans s68').trans' s77' fun i hi => .inr (by simp at hi; omega)
    unfold issueC; rw [if_neg hn, if_pos hr, if_pos hbe]
    exact ⟨_, none, 0, rfl, s77.none, P.step s77 id, h.step s77 id, Row.nil _ _ _, Nat.le_refl _⟩
  have s68' := Step.of_no X68 s50.ok
  have s68 := s50.trans s68'
  have M68 := M50.step s68'
  refine ⟨_, (s68.blk b1 P.own id).cella (i := 0) rfl, fun w78 X78 => ?_⟩
  have s78' := Step.of_no X78 s68.ok
  have s78 := s68.trans s78'
  have M78 := M68.step s78'
  have l78 := s78.size
  refine (SignE (h.step s78 id) s78.ok hok (by omega) sec (e := nextE L t tw ep body) (fun _ => hf) (hb.step s78)).mono fun x w91 ⟨o91, sa, sc, he, s91', p91, rs, ls⟩ => ⟨_, _, _, _, _, _, _, _, _, _, _, he, M78.keep s91' (by simp; omega), ?_⟩
  have s91 : Step (fun i => i = q ∨ i = k) w o w91 o91 := s78.none.trans (s91'.mono fun i h _ => .inr h)
  have M91 := M78.step s91'
  have l91 := s91.size
  have P91 := (P.step s78 id).step s91' hqk
  refine ⟨fun hsi w108 X108 => ?_, fun hsi w99 X99 => ?_⟩
  · have s108' := Step.stores X108 s91.ok M91 (by simp [or_comm])
    have s108 := s91.trans' s108' fun i hi => .inr (by simp at hi; omega)
    unfold issueC; rw [if_neg hn, if_pos hr, if_neg (not_not_intro hbe), if_pos hsi]
    exact ⟨_, none, 0, rfl, s108, P91.step s108' (by simp; omega), p91.step s108' (by simp; omega), Row.nil _ _ _, Nat.le_refl _⟩
  · have s99' := Step.stores X99 s91.ok (M91.sub (M := [p65]) (by simp)) (by simp)
    have s99 := s91.trans' s99' fun i hi => .inr (by simp at hi; omega)
    have M99 := M91.step s99'
    obtain ⟨z1, z2, z3, z4⟩ := signE_e hsi
    have hfit : (signE S sec (nextE L t tw ep body)).1.1.fit := by rw [z2]; exact ⟨hf.1, hf.2, hsg.1, hsg.2⟩
    have hbl := signE_body (S := S) (s := sec) hr
    have hok9 : (signE S sec (nextE L t tw ep body)).2.ok ∧ (signE S sec (nextE L t tw ep body)).2.used.length ≤ S.used.length + 1 := by rw [z3]; exact signOf_ok hok sec _
    refine (cput_spec (P91.step s99' (by simp; omega)) (p91.step s99' (by simp; omega)) s99.ok hqk hok9.1 (by omega) hfit (rs.step s99') (by omega) (by omega)).mono fun x w110 ⟨o110, he, s110', p110, h110⟩ => ⟨he, (M99.sub (M := [p64, p65]) (by simp)).keep s110' (by simp; omega), fun w118 X118 => ?_⟩
    have s118' := Step.stores X118 s110'.ok ((M99.step s110').sub (M := [p64]) (by simp)) (by simp)
    have s118 : Step (fun i => i = q ∨ i = k) w o w118 _ := (s99.trans s110').trans' s118' fun i hi => .inr (by simp at hi; omega)
    unfold issueC; rw [if_neg hn, if_pos hr, if_neg (not_not_intro hbe), if_neg (not_not_intro hsi)]
    exact ⟨_, sa, sc, rfl, s118, p110.step s118' (by simp; omega), h110.step s118' (by simp; omega), ((rs.step s99').step s110').step s118', ls⟩
end
end Go.Proofs.Ytdelmfpchbpafaa

/- Chain: what a log tells (the program's). -/
set_option linter.unusedVariables false
set_option linter.unusedSimpArgs false
set_option maxRecDepth 20000
set_option maxHeartbeats 2000000
namespace Go.Proofs.Ytdelmfpchbpafaa
open Go Go.Mx Go.Proofs
open W (OwnB GivesW numR countR doneR zig unzig intR)
section
variable {w w' w1 : World} {o o' o1 : Own} {q k n : Nat} {K : Nat → Prop} {S : OS} {L : CL} {e : Ent} {a : Option Addr} {c : Nat}
theorem cLen_spec (P : PLog w o q k L) : Calls Try.prog 31 #[.pointer (some (blk q))] w (Ret (.int .i64 L.es.length) fun w' => w' = w) := by
  refine chain_Log_Len.run _ ?_
  unfold chain_Log_Len.N
  obtain ⟨la, lc, l, g0, b1, b2, b3, b4⟩ := P.st
  refine ⟨fun h => (by cases h), fun _ => ⟨_, rfl, la, l.length, lc, b1.cella (i := 3) rfl, by rw [len_map_e g0], rfl⟩⟩
theorem cHead_spec (P : PLog w o q k L) : Calls Try.prog 25 #[.pointer (some (blk q))] w (Ret (.agg #[.int .i64 L.wr, .int .i64 L.es.length, .int .u64 L.sum]) fun w' => Ext no w w') := by
  refine chain_Log_Head.run _ ?_
  unfold chain_Log_Head.N
  obtain ⟨la, lc, l, g0, b1, b2, b3, b4⟩ := P.st
  refine ⟨fun h => (by cases h), fun _ => ⟨_, rfl, _, b1.cella (i := 1) rfl, la, l.length, lc, b1.cella (i := 3) rfl, _, b1.cella (i := 4) rfl, fun w' X => ⟨by rw [len_map_e g0], X⟩⟩⟩
theorem cAll_spec (P : PLog w o q k L) (ok : Tags w o) (hbl : ∀ e ∈ L.es, e.body.length ≤ 1000000) :
    Calls Try.prog 33 #[.pointer (some (blk q))] w (fun x w' => ∃ o' a' c', ∃ l' : List PE, x = .returned (.slice a' l'.length c') ∧ Step no w o w' o' ∧ l'.map PE.e = L.es ∧ Row w' o' a' (PE.Cs l') ∧ l'.length ≤ c' ∧ ∀ x ∈ l', x.ok w' o') := by
  refine (chain_Log_All.go (some (blk q)) (R := fun v w' => ∃ o' a' c', ∃ l' : List PE, v = (.slice a' l'.length c') ∧ Step no w o w' o' ∧ l'.map PE.e = L.es ∧ Row w' o' a' (PE.Cs l') ∧ l'.length ≤ c' ∧ ∀ x ∈ l', x.ok w' o') ?_).mono fun x w' ⟨v, he, o', a', c', l', hv, hw⟩ => ⟨o', a', c', l', by rw [he, hv], hw⟩
  unfold chain_Log_All.N
  obtain ⟨la, lc, l, g0, b1, b2, b3, b4⟩ := P.st
  have hl := len_map_e g0
  have hfew := P.few
  refine ⟨fun h => (by cases h), fun _ => ⟨_, rfl, la, l.length, lc, b1.cella (i := 3) rfl, ?_⟩⟩
  refine ⟨fun m vs w1 => ∃ (t : Nat) (a1 : Option Addr) (c1 : Nat) (l1 : List PE) (o1 : Own), vs = [.slice a1 l1.length c1, .int .i64 t] ∧ m + t = l.length ∧ l1.map PE.e = L.es.take t ∧ Step no w o w1 o1 ∧ LRow 47 8 w.heap.size w1 o1 a1 l1.length c1 (PE.Cs l1) ∧ ∀ x ∈ l1, x.ok w1 o1, l.length,
    ⟨0, none, 0, [], o, rfl, rfl, rfl, Step.refl _ ok, LRow.nil _ _ _ _ _, fun x h => by cases h⟩, ?_⟩
  rintro m w1 ra rn rc i ⟨t, a1, c1, l1, o1, hi, hm, hmap, s1, hL, hok⟩
  simp only [List.cons.injEq, Value.slice.injEq, Value.int.injEq, true_and, and_true] at hi
  obtain ⟨⟨rfl, rfl, rfl⟩, rfl⟩ := hi
  have hlen1 : l1.length = min t L.es.length := by have := congrArg List.length hmap; simpa using this
  refine ⟨fun ht => ?_, fun ht => ?_⟩
  · have hi : t < l.length := by omega
    have hgx : l[t]? = some l[t] := List.getElem?_eq_getElem hi
    have hxm := List.getElem_mem hi
    generalize l[t] = x at *
    have b2' := b2.step s1 id
    obtain ⟨ad, rfl⟩ := b2.row.faddr PE.len (by decide) hi
    have hld := PE.loads b2'.row rfl hgx
    refine ⟨ad, rfl, by omega, by omega, x.e.w, x.e.i, x.e.pv, x.e.t, x.e.tw, x.e.ep, x.a, x.e.body.length, x.c, x.e.sg, by rw [Int.toNat_natCast]; exact hld, fun w30 X30 => ?_⟩
    have s30 := Step.of_no X30 s1.ok
    refine (cOwn_spec s30.ok (((b4 x hxm).1.step s1).step s30) (hbl _ (by rw [← g0]; exact List.mem_map_of_mem hxm))).mono fun z w41 ⟨o41, ba, bc, he, s41, rb, lb⟩ => ⟨_, _, _, _, _, _, _, _, _, _, he, fun w42 q43 X42 hb43 hq43 hq43' => ?_⟩
    have s42 := Step.of_no X42 s41.ok
    have s142 : Step no w1 o1 w42 _ := (s30.trans s41).trans s42
    have hL42 := hL.step s142 fun k h => h.elim
    obtain ⟨i, hi, hz, hsz, hby⟩ := info_of inf47
    have hnews : RowAt w42 (some (blk q43)) (PE.C ⟨x.e, ba, bc⟩) := RowAt.of_blk hb43
    have l1le := s1.size
    have l42 := s142.size
    have l41 := (s30.trans s41).size
    obtain ⟨a', c', w45, o45, hr, s45, hL45, _⟩ := hL42.push (ty := 40) Try.underlying40 hi hz hsz hby rfl (by decide) s42.ok (p := q43) (by omega) hq43' (xa := some (blk q43)) (m := 1) (xc := 1) (news := PE.C ⟨x.e, ba, bc⟩) rfl hnews (PE.one _) (by omega) (by omega)
    refine ⟨a', _, c', w45, hr, by omega, by omega, m - 1, by omega, t + 1, a', c', l1 ++ [⟨x.e, ba, bc⟩], o45, by simp, by omega, ?_, (s1.trans s142).trans' s45 fun j hj => .inr hj, ?_, fun y hy => ?_⟩
    · rw [List.map_append, hmap, List.take_add_one, getElem_map_e g0, hgx]; rfl
    · have : PE.Cs (l1 ++ [⟨x.e, ba, bc⟩]) = PE.Cs l1 ++ PE.C ⟨x.e, ba, bc⟩ := by simp [PE.Cs]
      rw [List.length_append, this]; exact hL45
    · rcases List.mem_append.1 hy with hy | hy
      · exact ((hok y hy).step s142).step s45
      · simp at hy; subst hy
        exact ⟨((rb.step s42).step s45), lb, (b4 x hxm).2.2⟩
  · have : t = l.length := by omega
    subst this
    rw [hl, List.take_length] at hmap
    refine ⟨_, _, _, l1, rfl, Step.of_no (s1.ext.mono fun b ⟨_, _, h⟩ _ => h) ok, hmap, hL.give s1 (Nat.le_refl _), hL.le, fun x hx => ?_⟩
    obtain ⟨r1, r2, r3⟩ := hok x hx
    exact ⟨r1.forget s1, r2, r3⟩
end
end Go.Proofs.Ytdelmfpchbpafaa

/- The oracle's tables, plainly: what stays true through all calls. -/
set_option linter.unusedVariables false
set_option linter.unusedSimpArgs false
namespace Go.Proofs.Ytdelmfpchbpafaa
open Go Go.Mx Go.Proofs
structure OInv (S : OS) : Prop where
  ok : S.ok
  rng : ∀ x ∈ S.used, 0 < x ∧ (x < 18446744073709551616 ∨ x ≤ 2 * S.used.length)
  hu : ∀ b h, alook S.hashes b = some h → h ∈ S.used
  hi : ∀ b c h, alook S.hashes b = some h → alook S.hashes c = some h → b = c
  sg : ∀ q x, alook S.signs q = some x → alook S.signed x = some q
  gs : ∀ x q, alook S.signed x = some q → alook S.signs q = some x
  su : ∀ x q, alook S.signed x = some q → x ∈ S.used
  pu : ∀ p s, alook S.publics p = some s → p ∈ S.used
  ps : ∀ p s, alook S.publics p = some s → s ∈ S.secrets
  eu : ∀ s ∈ S.secrets, s ∈ S.used
theorem OInv.nz {S : OS} (h : OInv S) : ∀ x ∈ S.used, x ≠ 0 := fun x hx => by have := (h.rng x hx).1; omega
theorem OInv.fit {S : OS} (h : OInv S) (hl : S.used.length < 1000000000) {x : Int} (hx : x ∈ S.used) : 0 ≤ x ∧ x < 18446744073709551616 := by
  have := h.rng x hx
  omega
theorem fresh_rng {S : OS} (h : S.ok) : 0 < (freshOf S).1 ∧ ((freshOf S).1 < 18446744073709551616 ∨ (freshOf S).1 ≤ 2 * ((S.used.length : Int) + 1)) := by
  obtain ⟨h1, h2, h3, h4⟩ := h
  unfold freshOf
  cases hp : pickD S.draws S.used with
  | some q =>
    obtain ⟨x, r⟩ := q
    obtain ⟨a, b, c⟩ := pickD_spec hp
    have := h4 x c
    exact ⟨by show 0 < x; omega, .inl this.2⟩
  | none =>
    obtain ⟨a, b, c, d, e⟩ := pickN_spec S.used (S.used.length + 1) S.next h1 (gap S.used _ _ (by omega))
    exact ⟨by show 0 < pickN _ _ _; omega, .inr (by show pickN _ _ _ ≤ _; omega)⟩
/-- nothing is lost. -/
structure OS.le (S S' : OS) : Prop where
  hashes : ∀ b h, alook S.hashes b = some h → alook S'.hashes b = some h
  signs : ∀ q x, alook S.signs q = some x → alook S'.signs q = some x
  signed : ∀ x q, alook S.signed x = some q → alook S'.signed x = some q
  publics : ∀ p s, alook S.publics p = some s → alook S'.publics p = some s
  secrets : ∀ s ∈ S.secrets, s ∈ S'.secrets
  used : ∀ x ∈ S.used, x ∈ S'.used
theorem OS.le.refl (S : OS) : OS.le S S := ⟨fun _ _ h => h, fun _ _ h => h, fun _ _ h => h, fun _ _ h => h, fun _ h => h, fun _ h => h⟩
theorem OS.le.trans {S T U : OS} (a : OS.le S T) (b : OS.le T U) : OS.le S U :=
  ⟨fun x y h => b.hashes x y (a.hashes x y h), fun x y h => b.signs x y (a.signs x y h), fun x y h => b.signed x y (a.signed x y h), fun x y h => b.publics x y (a.publics x y h), fun x h => b.secrets x (a.secrets x h), fun x h => b.used x (a.used x h)⟩
theorem OInv.init {l : List Int} (hl : ∀ d ∈ l, 0 ≤ d ∧ d < 18446744073709551616) : OInv (OS.init l) :=
  ⟨OS.init_ok l hl, fun x h => by simp [OS.init] at h, fun b h e => by simp [OS.init, alook] at e, fun b c h e => by simp [OS.init, alook] at e, fun q x e => by simp [OS.init, alook] at e, fun x q e => by simp [OS.init, alook] at e,
    fun x q e => by simp [OS.init, alook] at e, fun p s e => by simp [OS.init, alook] at e, fun p s e => by simp [OS.init, alook] at e, fun s h => by simp [OS.init] at h⟩
/-- after a fresh handle, the tables as they were. -/
theorem fresh_inv {S : OS} (h : OInv S) : OInv (freshOf S).2 ∧ OS.le S (freshOf S).2 ∧ (freshOf S).1 ∉ S.used ∧ (freshOf S).1 ∈ (freshOf S).2.used ∧ (freshOf S).1 ≠ 0 := by
  obtain ⟨a1, a2, a3, a4⟩ := freshOf_spec h.ok
  obtain ⟨c1, c2, c3, c4, c5, c6, c7, c8⟩ := freshOf_frame S
  have hsub : ∀ x ∈ S.used, x ∈ (freshOf S).2.used := fun x hx => by rw [a3]; simp [hx]
  refine ⟨⟨a4, fun x hx => ?_, fun b k e => hsub _ (h.hu b k (by rw [← c1]; exact e)), fun b c k e1 e2 => h.hi b c k (by rw [← c1]; exact e1) (by rw [← c1]; exact e2), fun q x e => ?_, fun x q e => ?_, fun x q e => ?_, fun p s e => ?_, fun p s e => ?_, fun s hs => ?_⟩,
    ⟨fun b k e => by rw [c1]; exact e, fun q x e => by rw [c5]; exact e, fun x q e => by rw [c6]; exact e, fun p s e => by rw [c4]; exact e, fun s hs => by rw [c3]; exact hs, hsub⟩, a2, by rw [a3]; simp, a1⟩
  · have hl : (freshOf S).2.used.length = S.used.length + 1 := by rw [a3]; simp
    rw [hl]
    rw [a3] at hx
    rcases List.mem_append.1 hx with hx | hx
    · have := h.rng x hx; omega
    · simp at hx; rw [hx]; have := fresh_rng h.ok; omega
  · rw [c5] at e; rw [c6]; exact h.sg q x e
  · rw [c6] at e; rw [c5]; exact h.gs x q e
  · rw [c6] at e; exact hsub _ (h.su x q e)
  · rw [c4] at e; exact hsub _ (h.pu p s e)
  · rw [c4] at e; rw [c3]; exact h.ps p s e
  · rw [c3] at hs; exact hsub _ (h.eu s hs)
theorem hash_inv {S : OS} (h : OInv S) (b : List UInt8) : OInv (hashOf S b).2 ∧ OS.le S (hashOf S b).2 ∧ alook (hashOf S b).2.hashes b = some (hashOf S b).1 ∧ (hashOf S b).1 ≠ 0 ∧
    (hashOf S b).2.signs = S.signs ∧ (hashOf S b).2.signed = S.signed ∧ (hashOf S b).2.publics = S.publics ∧ (hashOf S b).2.secrets = S.secrets := by
  obtain ⟨c1, c2, c3, c4, c5, c6, c7, c8⟩ := freshOf_frame S
  obtain ⟨f1, f2, f3, f4, f5⟩ := fresh_inv h
  unfold hashOf
  cases hk : alook S.hashes b with
  | some x => exact ⟨h, OS.le.refl _, hk, h.nz _ (h.hu b x hk), rfl, rfl, rfl, rfl⟩
  | none =>
    have hl : ∀ c k, alook (aput S.hashes b (freshOf S).1) c = some k → (b = c ∧ k = (freshOf S).1) ∨ alook S.hashes c = some k := fun c k e => by
      rw [alook_put] at e
      split at e
      · rename_i hbc; cases e; exact .inl ⟨hbc, rfl⟩
      · exact .inr e
    refine ⟨⟨f1.ok, f1.rng, fun c k e => ?_, fun c d k e1 e2 => ?_, f1.sg, f1.gs, f1.su, f1.pu, f1.ps, f1.eu⟩, ⟨fun c k e => ?_, f2.signs, f2.signed, f2.publics, f2.secrets, f2.used⟩, ?_, f5, c5, c6, c4, c3⟩
    · rcases hl c k e with ⟨_, rfl⟩ | e
      · exact f4
      · exact f2.used _ (h.hu c k e)
    · rcases hl c k e1 with ⟨rfl, rfl⟩ | e1 <;> rcases hl d _ e2 with ⟨rfl, _⟩ | e2
      · rfl
      · exact absurd (h.hu d _ e2) f3
      · rename_i hk2; subst hk2; exact absurd (h.hu c _ e1) f3
      · exact h.hi c d k e1 e2
    · show alook (aput S.hashes b (freshOf S).1) c = some k
      rw [alook_put, if_neg (fun e' => by subst e'; rw [hk] at e; cases e)]; exact e
    · show alook (aput S.hashes b (freshOf S).1) b = _
      rw [alook_put, if_pos rfl]
theorem hash_eq {S : OS} {b : List UInt8} {x : Int} (h : alook S.hashes b = some x) : hashOf S b = (x, S) := by unfold hashOf; rw [h]
theorem badd_mem {l : List Int} {x y : Int} : y ∈ badd l x ↔ y ∈ l ∨ y = x := by
  unfold badd
  split
  · constructor
    · exact .inl
    · rintro (h | rfl)
      · exact h
      · assumption
  · simp
theorem pair_inv {S : OS} (h : OInv S) : OInv (pairOf S).2 ∧ OS.le S (pairOf S).2 ∧ alook (pairOf S).2.publics (pairOf S).1.2 = some (pairOf S).1.1 ∧ (pairOf S).1.1 ∈ (pairOf S).2.secrets ∧ (pairOf S).1.2 ∉ (pairOf S).2.secrets ∧ (pairOf S).1.1 ∉ S.secrets ∧
    (pairOf S).2.hashes = S.hashes ∧ (pairOf S).2.signs = S.signs ∧ (pairOf S).2.signed = S.signed := by
  obtain ⟨a1, a2, a3, a4, a5, a6, a7, a8, a9, a10, a11, a12, a13, a14⟩ := pairOf_spec h.ok
  obtain ⟨k1, _⟩ := pairOf_ok h.ok
  have hsub : ∀ x ∈ S.used, x ∈ (pairOf S).2.used := fun x hx => by rw [a6]; simp [hx]
  have hl : ∀ c k, alook (pairOf S).2.publics c = some k → ((pairOf S).1.2 = c ∧ k = (pairOf S).1.1) ∨ alook S.publics c = some k := fun c k e => by
    rw [a8, alook_put] at e
    split at e
    · rename_i hbc; cases e; exact .inl ⟨hbc, rfl⟩
    · exact .inr e
  have hall : ∀ x ∈ (pairOf S).2.used, 0 < x ∧ (x < 18446744073709551616 ∨ x ≤ 2 * ((pairOf S).2.used.length : Int)) := fun x hx => by
    have h5 : OS.ok { (freshOf S).2 with secrets := badd S.secrets (freshOf S).1 } := (freshOf_spec h.ok).2.2.2
    have r1 := fresh_rng h.ok
    have r2 : 0 < (pairOf S).1.2 ∧ ((pairOf S).1.2 < 18446744073709551616 ∨ (pairOf S).1.2 ≤ 2 * (((freshOf S).2.used.length : Int) + 1)) := fresh_rng h5
    have r3 : (freshOf S).2.used.length = S.used.length + 1 := by rw [(freshOf_spec h.ok).2.2.1]; simp
    have r4 : (pairOf S).2.used.length = S.used.length + 2 := by rw [a6]; simp
    rw [r4]
    rw [a6] at hx
    rcases List.mem_append.1 hx with hx | hx
    · rcases List.mem_append.1 hx with hx | hx
      · have := h.rng x hx; omega
      · simp at hx; rw [hx]; show 0 < (freshOf S).1 ∧ ((freshOf S).1 < _ ∨ (freshOf S).1 ≤ _); omega
    · simp at hx; rw [hx]; omega
  refine ⟨⟨k1, hall, fun b k e => hsub _ (h.hu b k (by rw [← a9]; exact e)), fun b c k e1 e2 => h.hi b c k (by rw [← a9]; exact e1) (by rw [← a9]; exact e2), fun q x e => by rw [a11] at e; rw [a12]; exact h.sg q x e, fun x q e => by rw [a12] at e; rw [a11]; exact h.gs x q e,
    fun x q e => by rw [a12] at e; exact hsub _ (h.su x q e), fun p s e => ?_, fun p s e => ?_, fun s hs => ?_⟩, ⟨fun b k e => by rw [a9]; exact e, fun q x e => by rw [a11]; exact e, fun x q e => by rw [a12]; exact e, fun p s e => ?_, fun s hs => by rw [a7, badd_mem]; exact .inl hs, hsub⟩, ?_, by rw [a7, badd_mem]; exact .inr rfl, fun hs => ?_, fun hs => a3 (h.eu _ hs), a9, a11, a12⟩
  · rcases hl p s e with ⟨rfl, _⟩ | e
    · rw [a6]; simp
    · exact hsub _ (h.pu p s e)
  · rw [a7, badd_mem]
    rcases hl p s e with ⟨_, rfl⟩ | e
    · exact .inr rfl
    · exact .inl (h.ps p s e)
  · rw [a7, badd_mem] at hs
    rcases hs with hs | rfl
    · exact hsub _ (h.eu s hs)
    · rw [a6]; simp
  · rw [a8, alook_put, if_neg (fun e' => a4 (by rw [e']; exact h.pu p s e))]; exact e
  · rw [a8, alook_put, if_pos rfl]
  · rw [a7, badd_mem] at hs
    rcases hs with hs | hs
    · exact a4 (h.eu _ hs)
    · exact a5 hs.symm
theorem sign_inv {S : OS} (h : OInv S) {k : Int} (hk : k ∈ S.secrets) (b : List UInt8) : OInv (signOf S k b).2 ∧ OS.le S (signOf S k b).2 ∧ (signOf S k b).1.2 = true ∧ alook (signOf S k b).2.signed (signOf S k b).1.1 = some (k, b) ∧ alook (signOf S k b).2.signs (k, b) = some (signOf S k b).1.1 ∧
    (signOf S k b).2.hashes = S.hashes ∧ (signOf S k b).2.publics = S.publics ∧ (signOf S k b).2.secrets = S.secrets := by
  obtain ⟨c1, c2, c3, c4, c5, c6, c7, c8⟩ := freshOf_frame S
  obtain ⟨f1, f2, f3, f4, f5⟩ := fresh_inv h
  unfold signOf
  rw [if_pos hk]
  cases hs : alook S.signs (k, b) with
  | some x => exact ⟨h, OS.le.refl _, rfl, h.sg _ _ hs, hs, rfl, rfl, rfl⟩
  | none =>
    have hl : ∀ c z, alook (aput S.signs (k, b) (freshOf S).1) c = some z → ((k, b) = c ∧ z = (freshOf S).1) ∨ alook S.signs c = some z := fun c z e => by
      rw [alook_put] at e
      split at e
      · rename_i hbc; cases e; exact .inl ⟨hbc, rfl⟩
      · exact .inr e
    have hg : ∀ c z, alook (aput S.signed (freshOf S).1 (k, b)) c = some z → ((freshOf S).1 = c ∧ z = (k, b)) ∨ alook S.signed c = some z := fun c z e => by
      rw [alook_put] at e
      split at e
      · rename_i hbc; cases e; exact .inl ⟨hbc, rfl⟩
      · exact .inr e
    have hn : ∀ x q, alook S.signed x = some q → (freshOf S).1 ≠ x := fun x q e e' => f3 (by rw [e']; exact h.su x q e)
    refine ⟨⟨f1.ok, f1.rng, f1.hu, f1.hi, fun q x e => ?_, fun x q e => ?_, fun x q e => ?_, f1.pu, f1.ps, f1.eu⟩, ⟨f2.hashes, fun q x e => ?_, fun x q e => ?_, f2.publics, f2.secrets, f2.used⟩, rfl, ?_, ?_, c1, c4, c3⟩
    · show alook (aput S.signed (freshOf S).1 (k, b)) x = some q
      rcases hl q x e with ⟨rfl, rfl⟩ | e
      · rw [alook_put, if_pos rfl]
      · rw [alook_put, if_neg (hn x q (h.sg q x e))]; exact h.sg q x e
    · show alook (aput S.signs (k, b) (freshOf S).1) q = some x
      rcases hg x q e with ⟨rfl, rfl⟩ | e
      · rw [alook_put, if_pos rfl]
      · rw [alook_put, if_neg (fun e' => by subst e'; have := h.gs x _ e; rw [hs] at this; cases this)]; exact h.gs x q e
    · rcases hg x q e with ⟨rfl, rfl⟩ | e
      · exact f4
      · exact f2.used _ (h.su x q e)
    · show alook (aput S.signs (k, b) (freshOf S).1) q = some x
      rw [alook_put, if_neg (fun e' => by subst e'; rw [hs] at e; cases e)]; exact e
    · show alook (aput S.signed (freshOf S).1 (k, b)) x = some q
      rw [alook_put, if_neg (hn x q e)]; exact e
    · show alook (aput S.signed (freshOf S).1 (k, b)) (freshOf S).1 = _
      rw [alook_put, if_pos rfl]
    · show alook (aput S.signs (k, b) (freshOf S).1) (k, b) = _
      rw [alook_put, if_pos rfl]
theorem sign_no {S : OS} {k : Int} (hk : k ∉ S.secrets) (b : List UInt8) : signOf S k b = ((0, false), S) := by unfold signOf; rw [if_neg hk]
theorem verify_at {S : OS} {p s : Int} (hp : alook S.publics p = some s) (b : List UInt8) (x : Int) : verifyOf S p b x = decide (alook S.signed x = some (s, b)) := by
  unfold verifyOf
  rw [hp]
  cases alook S.signed x with
  | none => simp
  | some q => simp
theorem sign_inv' {S : OS} (h : OInv S) (k : Int) (b : List UInt8) : OInv (signOf S k b).2 ∧ OS.le S (signOf S k b).2 ∧ (signOf S k b).2.hashes = S.hashes ∧ (signOf S k b).2.publics = S.publics ∧ (signOf S k b).2.secrets = S.secrets := by
  by_cases hk : k ∈ S.secrets
  · obtain ⟨a1, a2, a3, a4, a5, a6, a7, a8⟩ := sign_inv h hk b; exact ⟨a1, a2, a6, a7, a8⟩
  · rw [sign_no hk]; exact ⟨h, OS.le.refl _, rfl, rfl, rfl⟩
end Go.Proofs.Ytdelmfpchbpafaa

/- Logs, plainly: what stays true. -/
set_option linter.unusedVariables false
set_option linter.unusedSimpArgs false
set_option maxRecDepth 20000
namespace Go.Proofs.Ytdelmfpchbpafaa
open Go Go.Mx Go.Proofs
def hv (S : OS) (e : Ent) : Int := (alook S.hashes (bytesL e)).getD 0
def sumS (S : OS) (es : List Ent) : Int := match es.getLast? with | none => 0 | some e => hv S e
structure OkAt (S : OS) (wr s : Int) (pre : List Ent) (e : Ent) : Prop where
  right : entRight e = true
  fit : e.fit
  w : e.w = wr
  sg : alook S.signed e.sg = some (s, textL e)
  i : e.i = pre.length
  pv : e.pv = sumS S pre
  late : ∀ x, pre.getLast? = some x → lessS x.t x.tw e.t e.tw = true
def Good (S : OS) (wr s : Int) (es : List Ent) : Prop := ∀ (i : Nat) (e : Ent), es[i]? = some e → OkAt S wr s (es.take i) e ∧ ∃ h, alook S.hashes (bytesL e) = some h
/-- a secret, and its public. -/
structure Keyed (S : OS) (s p : Int) : Prop where
  sec : s ∈ S.secrets
  pub : alook S.publics p = some s
theorem Keyed.le {S S' : OS} {s p : Int} (h : Keyed S s p) (l : OS.le S S') : Keyed S' s p := ⟨l.secrets _ h.sec, l.publics _ _ h.pub⟩
structure LOk (S : OS) (s p : Int) (L : CL) : Prop where
  good : Good S L.wr s L.es
  sum : L.sum = sumS S L.es
  pb : L.pb = p
  few : L.es.length ≤ 200
section
variable {S S' : OS} {s p wr : Int} {L : CL} {e : Ent} {es : List Ent}
theorem hv_le (l : OS.le S S') {h : Int} (hh : alook S.hashes (bytesL e) = some h) : hv S' e = hv S e := by unfold hv; rw [hh, l.hashes _ _ hh]
theorem last_get {es : List Ent} {x : Ent} (h : es.getLast? = some x) : es[es.length - 1]? = some x := by rw [← List.getLast?_eq_getElem?]; exact h
theorem sumS_le (l : OS.le S S') (h : ∀ e ∈ es, ∃ h, alook S.hashes (bytesL e) = some h) : sumS S' es = sumS S es := by
  unfold sumS
  cases hl : es.getLast? with
  | none => rfl
  | some x =>
    obtain ⟨y, hy⟩ := h x (List.mem_of_getElem? (last_get hl))
    exact hv_le l hy
theorem Good.hashed (g : Good S wr s es) : ∀ e ∈ es, ∃ h, alook S.hashes (bytesL e) = some h := fun e he => by
  obtain ⟨i, hi⟩ := List.getElem?_of_mem he
  exact (g i e hi).2
theorem Good.nil : Good S wr s [] := fun i e h => by simp at h
theorem Good.take (g : Good S wr s es) (n : Nat) : Good S wr s (es.take n) := fun i e h => by
  rw [List.getElem?_take] at h
  split at h
  · have := g i e h
    rw [List.take_take, Nat.min_eq_left (by omega)]; exact this
  · cases h
theorem OkAt.le {pre : List Ent} (h : OkAt S wr s pre e) (l : OS.le S S') (hp : ∀ e ∈ pre, ∃ h, alook S.hashes (bytesL e) = some h) : OkAt S' wr s pre e :=
  ⟨h.right, h.fit, h.w, l.signed _ _ h.sg, h.i, by rw [sumS_le l hp]; exact h.pv, h.late⟩
theorem Good.le (g : Good S wr s es) (l : OS.le S S') : Good S' wr s es := fun i e h => by
  obtain ⟨h1, x, hx⟩ := g i e h
  exact ⟨h1.le l (g.take i).hashed, x, l.hashes _ _ hx⟩
theorem Good.add (g : Good S wr s es) (h : OkAt S wr s es e) (hh : ∃ h, alook S.hashes (bytesL e) = some h) : Good S wr s (es ++ [e]) := fun i x hx => by
  by_cases hi : i < es.length
  · rw [List.getElem?_append_left hi] at hx
    have := g i x hx
    rwa [List.take_append_of_le_length (by omega)]
  · have hi2 : i = es.length := by
      have := (List.getElem?_eq_some_iff.1 hx).1
      simp at this; omega
    subst hi2
    rw [List.getElem?_append_right (Nat.le_refl _), Nat.sub_self] at hx
    simp at hx
    subst hx
    rw [List.take_append_of_le_length (Nat.le_refl _), List.take_length]
    exact ⟨h, hh⟩
theorem LOk.nil (wr : Int) : LOk S s p ⟨wr, p, [], 0⟩ := ⟨Good.nil, rfl, rfl, Nat.zero_le _⟩
theorem LOk.le (h : LOk S s p L) (l : OS.le S S') : LOk S' s p L := ⟨h.good.le l, by rw [sumS_le l h.good.hashed]; exact h.sum, h.pb, h.few⟩
theorem sumE_right (hr : entRight e = true) : sumE S e = (((hashOf S (bytesL e)).1, 0), (hashOf S (bytesL e)).2) := by unfold sumE; rw [if_pos hr]
theorem LOk.put (h : LOk S s p L) (inv : OInv S) (he : OkAt S L.wr s L.es e) (hl : L.es.length < 200) : LOk (putC S L e).2 s p (putC S L e).1 ∧ OInv (putC S L e).2 ∧ OS.le S (putC S L e).2 ∧ (putC S L e).2.used.length ≤ S.used.length + 1 := by
  obtain ⟨a1, a2, a3, a4, _⟩ := hash_inv inv (bytesL e)
  have hu := (hashOf_ok inv.ok (bytesL e)).2
  unfold putC
  rw [sumE_right he.right]
  have h' := h.le a2
  refine ⟨⟨h'.good.add (he.le a2 h.good.hashed) ⟨_, a3⟩, ?_, h.pb, by simp; omega⟩, a1, a2, hu⟩
  show (hashOf S (bytesL e)).1 = sumS _ (L.es ++ [e])
  unfold sumS
  rw [List.getLast?_append]
  simp [hv, a3]
theorem LOk.fit (h : LOk S s p L) (inv : OInv S) (hl : S.used.length < 1000000) : 0 ≤ L.sum ∧ L.sum < 18446744073709551616 := by
  rw [h.sum]
  unfold sumS
  cases hl' : L.es.getLast? with
  | none => exact ⟨by show (0 : Int) ≤ 0; decide, by show (0 : Int) < _; decide⟩
  | some x =>
    obtain ⟨y, hy⟩ := h.good.hashed x (List.mem_of_getElem? (last_get hl'))
    show 0 ≤ hv S x ∧ hv S x < _
    unfold hv; rw [hy]
    exact inv.fit (by omega) (inv.hu _ _ hy)
theorem holdsE_iff (hk : Keyed S s p) : holdsE S p e = true ↔ entRight e = true ∧ alook S.signed e.sg = some (s, textL e) := by
  unfold holdsE
  rw [Bool.and_eq_true, verify_at hk.pub, decide_eq_true_eq]
theorem behind_zero (h : behindC L e = 0) : e.pv = L.sum ∧ ∀ x, L.es.getLast? = some x → lessS x.t x.tw e.t e.tw = true := by
  unfold behindC at h
  by_cases hp : e.pv = L.sum
  · rw [if_pos hp] at h
    refine ⟨hp, fun x hx => ?_⟩
    rw [hx] at h
    simp only [] at h
    by_cases hl : lessS x.t x.tw e.t e.tw = true
    · exact hl
    · rw [if_neg hl] at h; cases h
  · rw [if_neg hp] at h; cases h
theorem behind_ok (h1 : e.pv = L.sum) (h2 : ∀ x, L.es.getLast? = some x → lessS x.t x.tw e.t e.tw = true) : behindC L e = 0 := by
  unfold behindC
  rw [if_pos h1]
  cases hl : L.es.getLast? with
  | none => rfl
  | some x => simp only []; rw [if_pos (h2 x hl)]
theorem check_behind (hes : L.es.length ≤ 200) (h : checkC S L e = 0) : behindC L e = 0 := by
  unfold checkC at h
  split at h
  · rename_i h1; exact absurd h h1
  · split at h
    · rename_i h1; exact absurd h h1
    · exact h
theorem LOk.accepted (h : LOk S s p L) (hk : Keyed S s p) (hf : entRight e = true → e.fit) (hc : checkC S L e = 0) : OkAt S L.wr s L.es e ∧ L.es.length < 200 := by
  obtain ⟨q1, q2, q3, q4, q5, q6⟩ := accept_out h.few hc
  rw [h.pb] at q4
  exact ⟨⟨q2, hf q2, q3, ((holdsE_iff hk).1 q4).2, q5, by rw [q6, h.sum], (behind_zero (check_behind h.few hc)).2⟩, q1⟩
theorem LOk.accept (h : LOk S s p L) (inv : OInv S) (hk : Keyed S s p) (hf : entRight e = true → e.fit) : LOk (acceptC S L e).2.2 s p (acceptC S L e).2.1 ∧ OInv (acceptC S L e).2.2 ∧ OS.le S (acceptC S L e).2.2 ∧ (acceptC S L e).2.2.used.length ≤ S.used.length + 1 ∧
    (acceptC S L e).2.1.wr = L.wr ∧ (acceptC S L e).2.1.es = (if (acceptC S L e).1 = 0 then L.es ++ [e] else L.es) := by
  unfold acceptC
  by_cases hc : checkC S L e = 0
  · rw [if_pos hc]
    obtain ⟨h1, h2⟩ := h.accepted hk hf hc
    obtain ⟨a1, a2, a3, a4⟩ := h.put inv h1 h2
    exact ⟨a1, a2, a3, a4, rfl, rfl⟩
  · rw [if_neg hc]
    exact ⟨h, inv, OS.le.refl _, Nat.le_succ _, rfl, by simp only [if_neg hc]⟩
/-- what comes next is accepted. -/
theorem LOk.accepts (h : LOk S s p L) (hk : Keyed S s p) (he : OkAt S L.wr s L.es e) : checkC S L e = 0 := by
  have h1 : rightC S L e = 0 := by
    unfold rightC
    rw [if_pos he.right, if_pos he.w, h.pb, if_pos ((holdsE_iff hk).2 ⟨he.right, he.sg⟩)]
  have h2 : placeC L e = 0 := by
    unfold placeC
    rw [if_neg (by rw [he.i]; omega), if_pos he.i]
  have h3 : behindC L e = 0 := behind_ok (by rw [he.pv, h.sum]) he.late
  unfold checkC
  rw [if_neg (not_not_intro h1), if_neg (not_not_intro h2), h3]
/-- what an issue leaves. -/
theorem LOk.issue (h : LOk S s p L) (inv : OInv S) (hk : Keyed S s p) (hl : S.used.length < 1000000) (t tw ep : Int) (body : List UInt8) :
    LOk (issueC S L s t tw ep body).2.2 s p (issueC S L s t tw ep body).2.1 ∧ OInv (issueC S L s t tw ep body).2.2 ∧ OS.le S (issueC S L s t tw ep body).2.2 ∧ (issueC S L s t tw ep body).2.2.used.length ≤ S.used.length + 2 ∧
    (issueC S L s t tw ep body).2.1.wr = L.wr ∧ (issueC S L s t tw ep body).2.1.es = (if (issueC S L s t tw ep body).1.2 = 0 then L.es ++ [(issueC S L s t tw ep body).1.1] else L.es) ∧
    ((issueC S L s t tw ep body).1.2 = 0 → OkAt (issueC S L s t tw ep body).2.2 L.wr s L.es (issueC S L s t tw ep body).1.1 ∧ L.es.length < 200) ∧ (issueC S L s t tw ep body).1.1.body.length ≤ 1100 ∧ (issueC S L s t tw ep body).1.1.fit := by
  have z0 : Ent.zero.body.length ≤ 1100 := by decide
  have z1 : Ent.zero.fit := ⟨by decide, by decide, by decide, by decide⟩
  unfold issueC
  by_cases h1 : L.es.length ≥ 200
  · rw [if_pos h1]; exact ⟨h, inv, OS.le.refl _, by show S.used.length ≤ _; omega, rfl, rfl, fun h => (by cases h), z0, z1⟩
  rw [if_neg h1]
  by_cases h2 : entRight (nextE L t tw ep body) = true
  · rw [if_pos h2]
    by_cases h3 : behindC L (nextE L t tw ep body) ≠ 0
    · rw [if_pos h3]; exact ⟨h, inv, OS.le.refl _, by show S.used.length ≤ _; omega, rfl, by simp only [if_neg h3], fun h => absurd h h3, z0, z1⟩
    rw [if_neg h3]
    obtain ⟨a1, a2, a3, a4, a5, a6, a7, a8⟩ := sign_inv inv hk.sec (textL (nextE L t tw ep body))
    have hu := (signOf_ok inv.ok s (textL (nextE L t tw ep body))).2
    have hs : signE S s (nextE L t tw ep body) = (({ nextE L t tw ep body with sg := (signOf S s (textL (nextE L t tw ep body))).1.1 }, 0), (signOf S s (textL (nextE L t tw ep body))).2) := by
      unfold signE; rw [if_pos h2, if_pos a3]
    rw [hs]
    rw [if_neg (by simp)]
    have hb3 := behind_zero (Decidable.not_not.1 h3)
    have hsgfit := a1.fit (by omega) (a1.su _ _ a4)
    have hsum := h.fit inv hl
    have hok : OkAt (signOf S s (textL (nextE L t tw ep body))).2 L.wr s L.es { nextE L t tw ep body with sg := (signOf S s (textL (nextE L t tw ep body))).1.1 } :=
      ⟨h2, ⟨hsum.1, hsum.2, hsgfit.1, hsgfit.2⟩, rfl, a4, rfl, by rw [sumS_le a2 h.good.hashed]; exact h.sum, hb3.2⟩
    obtain ⟨b1, b2, b3, b4⟩ := (h.le a2).put a1 hok (by omega)
    refine ⟨b1, b2, a2.trans b3, Nat.le_trans b4 (by omega), rfl, rfl, fun _ => ⟨hok.le b3 ((h.le a2).good.hashed), by omega⟩, ((entRight_iff _).1 h2).2.2.2.2.2.2.2.2.2.1, hok.fit⟩
  · rw [if_neg h2]; exact ⟨h, inv, OS.le.refl _, by show S.used.length ≤ _; omega, rfl, rfl, fun h => (by cases h), z0, z1⟩
theorem issue_sg (inv : OInv S) (hl : S.used.length < 1000000) (b : List UInt8) (hk : Keyed S s p) : 0 ≤ (signOf S s b).1.1 ∧ (signOf S s b).1.1 < 18446744073709551616 := by
  obtain ⟨a1, a2, a3, a4, a5, a6, a7, a8⟩ := sign_inv inv hk.sec b
  have hu := (signOf_ok inv.ok s b).2
  exact a1.fit (by omega) (a1.su _ _ a4)
end
end Go.Proofs.Ytdelmfpchbpafaa

/- The reference's oracle: one list of all that was handed out. -/
set_option linter.unusedVariables false
set_option linter.unusedSimpArgs false
set_option maxRecDepth 20000
namespace Go.Proofs.Ytdelmfpchbpafaa
open Go Go.Mx Go.Proofs
/-- (*cachetteref03.Oracle).at -/
def cachetteref03_Oracle_at.M (o1 : Option Addr) (h2 : Int) (R : Value → World → Prop) (w : World) : Prop :=
 ∃ (I0 : Nat → List Value → World → Prop) (m4 : Nat), I0 m4 [.int .i64 0] w ∧ ∀ (m5 : Nat) (a0 : World) (i3 : Int), I0 m5 [.int .i64 i3] a0 →
 o1.elim False fun a7 =>
 ∃ (a8 : Option Addr) (a4 : Nat) (ab : Nat), a0.cell? (a7.add 1) = some (.slice a8 a4 ab) ∧
 bif decide (i3 < (a4 : Int)) then (
 o1.elim False fun a9 =>
 ∃ (a2 : Option Addr) (a1 : Nat) (a3 : Nat), a0.cell? (a9.add 1) = some (.slice a2 a1 a3) ∧
 a2.elim False fun aa =>
 0 ≤ (i3 : Int) ∧ (i3 : Int) < (a1 : Int) ∧
 ∃ (a6 : Int), a0.cell? ((aa.add (Int.toNat i3 * 6)).add 0) = some (.int .u64 a6) ∧
 bif a6 == h2 then (
 R (.int .i64 i3) a0) else (
 ∃ a5, a5 < m5 ∧ I0 a5 [.int .i64 (IntKind.i64.wrap (i3 + 1))] a0)) else (
 R (.int .i64 (-1)) a0)

theorem cachetteref03_Oracle_at.eq (o1 : Option Addr) (h2 : Int) (R : Value → World → Prop) (w : World) : mfunc Try.prog [(0, [0, 1], [(5, (.one (.int .i64)))])] 46 [.pointer o1, .int .u64 h2] R w = cachetteref03_Oracle_at.M o1 h2 R w := by kernel_rfl
theorem cachetteref03_Oracle_at.ok (o1 : Option Addr) (h2 : Int) {R : Value → World → Prop} {w : World} (h : cachetteref03_Oracle_at.M o1 h2 R w) : Calls Try.prog 46 #[.pointer o1, .int .u64 h2] w fun e w' => ∃ v, e = .returned v ∧ R v w' :=
  mfunc_ok follows (H := [(0, [0, 1], [(5, (.one (.int .i64)))])]) (args := [.pointer o1, .int .u64 h2]) (by rw [cachetteref03_Oracle_at.eq]; exact h)

def cachetteref03_Oracle_at.N (o1 : Option Addr) (h2 : Int) (R : Value → World → Prop) (w : World) : Prop :=
 ∃ (I0 : Nat → List Value → World → Prop) (m4 : Nat), I0 m4 [.int .i64 0] w ∧ ∀ (m5 : Nat) (a0 : World) (i3 : Int), I0 m5 [.int .i64 i3] a0 →
 ∃ a7 : Addr, o1 = some a7 ∧
 ∃ (aa : Option Addr) (a3 : Nat) (a9 : Nat), a0.cell? (a7.add 1) = some (.slice aa a3 a9) ∧
 (i3 < (a3 : Int) →
 ∃ (a2 : Option Addr) (a1 : Nat) (a4 : Nat), a0.cell? (a7.add 1) = some (.slice a2 a1 a4) ∧
 ∃ a6 : Addr, a2 = some a6 ∧
 0 ≤ (i3 : Int) ∧ (i3 : Int) < (a1 : Int) ∧
 ∃ (a5 : Int), a0.cell? ((a6.add (Int.toNat i3 * 6)).add 0) = some (.int .u64 a5) ∧
 (a5 = h2 →
 R (.int .i64 i3) a0) ∧
 (a5 ≠ h2 →
 (-9223372036854775808 : Int) ≤ (i3 + 1) ∧ (i3 + 1) < 9223372036854775808 ∧
 ∃ a8, a8 < m5 ∧ I0 a8 [.int .i64 (i3 + 1)] a0)) ∧
 ((a3 : Int) ≤ i3 →
 R (.int .i64 (-1)) a0)

theorem cachetteref03_Oracle_at.up (o1 : Option Addr) (h2 : Int) {R : Value → World → Prop} {w : World} (h : cachetteref03_Oracle_at.N o1 h2 R w) : cachetteref03_Oracle_at.M o1 h2 R w := by
  unfold cachetteref03_Oracle_at.M
  unfold cachetteref03_Oracle_at.N at h
  obtain ⟨I0, m4, h0, h⟩ := h
  refine ⟨I0, m4, h0, fun m5 aj i3 hI => ?_⟩
  have h := h m5 aj i3 hI
  obtain ⟨a7, a9, h⟩ := h
  refine elim_some a9 ?_
  obtain ⟨ae, ah, ag, aa, h⟩ := h
  refine ⟨ae, ah, ag, aa, ?_⟩
  refine bif_of (fun a0 => ?_) (fun a0 => ?_)
  · have h := h.1 (of_decide_eq_true a0)
    refine elim_some a9 ?_
    obtain ⟨a1, a4, a6, a8, h⟩ := h
    refine ⟨a1, a4, a6, a8, ?_⟩
    obtain ⟨al, a3, h⟩ := h
    refine elim_some a3 ?_
    obtain ⟨ab, af, h⟩ := h
    refine ⟨ab, af, ?_⟩
    obtain ⟨ak, a2, h⟩ := h
    refine ⟨ak, a2, ?_⟩
    refine bif_of (fun a5 => ?_) (fun a5 => ?_)
    · have h := h.1 (beq_t a5)
      exact h
    · have h := h.2 (beq_f a5)
      obtain ⟨ac, ad, h⟩ := h
      try rw [w64 ac ad]
      obtain ⟨ai, hk, h⟩ := h
      exact ⟨ai, hk, h⟩
  · have h := h.2 (Int.not_lt.1 (of_decide_eq_false a0))
    exact h

theorem cachetteref03_Oracle_at.go (o1 : Option Addr) (h2 : Int) {R : Value → World → Prop} {w : World} (h : cachetteref03_Oracle_at.N o1 h2 R w) : Calls Try.prog 46 #[.pointer o1, .int .u64 h2] w fun e w' => ∃ v, e = .returned v ∧ R v w' := cachetteref03_Oracle_at.ok o1 h2 (cachetteref03_Oracle_at.up o1 h2 h)
theorem cachetteref03_Oracle_at.run (o1 : Option Addr) (h2 : Int) {V : Value} {Q : World → Prop} {w : World} (h : cachetteref03_Oracle_at.N o1 h2 (fun v w' => v = V ∧ Q w') w) : Calls Try.prog 46 #[.pointer o1, .int .u64 h2] w (Ret V Q) := (cachetteref03_Oracle_at.go o1 h2 h).mono fun e w' ⟨v, he, hv, hq⟩ => ⟨by rw [he, hv], hq⟩

/-- (*cachetteref03.Oracle).put -/
def cachetteref03_Oracle_put.M (o1 : Option Addr) (g1 : Int) (d7 : Int) (f9 : Option Addr) (ff : Nat) (f5 : Nat) (f2 : Option Addr) (ew : Nat) (fa : Nat) (g9 : Int) (gb : Int) (R : Value → World → Prop) (w : World) : Prop :=
 thenW (w.alloc (.cells #[.int .u64 g1, .int .i64 d7, .slice f9 ff f5, .slice f2 ew fa, .int .u64 g9, .int .u64 gb] 80)) fun g5 =>
 ∃ (I0 : Nat → List Value → World → Prop) (g4 : Nat), I0 g4 [.int .u64 0] g5 ∧ ∀ (ex : Nat) (a6 : World) (h9 : Int), I0 ex [.int .u64 h9] a6 →
 o1.elim False fun fz =>
 ∃ (an : Option Addr) (a8 : Nat) (b8 : Nat), a6.cell? (fz.add 0) = some (.slice an a8 b8) ∧
 bif decide ((a8 : Int) > 0) then (
 bif h9 == 0 then (
 o1.elim False fun ga =>
 ∃ (ad : Option Addr) (aa : Nat) (ao : Nat), a6.cell? (ga.add 0) = some (.slice ad aa ao) ∧
 ad.elim False fun fy =>
 0 ≤ (0 : Int) ∧ (0 : Int) < (aa : Int) ∧
 ∃ (fv : Int), a6.cell? (fy.add (Int.toNat 0 * 1)) = some (.int .u64 fv) ∧
 o1.elim False fun g3 =>
 ∃ (a2 : Option Addr) (a3 : Nat) (a0 : Nat), a6.cell? (g3.add 0) = some (.slice a2 a3 a0) ∧
 (0 : Int) ≤ (1 : Int) ∧ (1 : Int) ≤ (a3 : Int) ∧
 o1.elim False fun fl =>
 canStore a6 ((fl.add 0).add 0) ∧
 thenW (a6.setCell ((fl.add 0).add 0) (.slice (if a0 = Int.toNat 1 then a2 else Option.map (fun z : Addr => z.add ((Int.toNat 1) * 1)) a2) (a3 - (Int.toNat 1)) (a0 - (Int.toNat 1)))) fun f7 =>
 ∃ ft, ft < ex ∧ I0 ft [.int .u64 fv] f7) else (
 Calls Try.prog 46 #[.pointer o1, .int .u64 h9] a6 fun f3 af => ∃ (d6 : Int), f3 = .returned (.int .i64 d6) ∧
 bif decide (d6 ≥ 0) then (
 o1.elim False fun g7 =>
 ∃ (a9 : Option Addr) (ac : Nat) (av : Nat), af.cell? (g7.add 0) = some (.slice a9 ac av) ∧
 a9.elim False fun g6 =>
 0 ≤ (0 : Int) ∧ (0 : Int) < (ac : Int) ∧
 ∃ (fj : Int), af.cell? (g6.add (Int.toNat 0 * 1)) = some (.int .u64 fj) ∧
 o1.elim False fun g0 =>
 ∃ (a5 : Option Addr) (a1 : Nat) (a4 : Nat), af.cell? (g0.add 0) = some (.slice a5 a1 a4) ∧
 (0 : Int) ≤ (1 : Int) ∧ (1 : Int) ≤ (a1 : Int) ∧
 o1.elim False fun fp =>
 canStore af ((fp.add 0).add 0) ∧
 thenW (af.setCell ((fp.add 0).add 0) (.slice (if a4 = Int.toNat 1 then a5 else Option.map (fun z : Addr => z.add ((Int.toNat 1) * 1)) a5) (a1 - (Int.toNat 1)) (a4 - (Int.toNat 1)))) fun fd =>
 ∃ fu, fu < ex ∧ I0 fu [.int .u64 fj] fd) else (
 bif h9 == 0 then (
 ∃ (I2 : Nat → List Value → World → Prop) (g8 : Nat), I2 g8 [.int .u64 1] af ∧ ∀ (fh : Nat) (e3 : World) (dy : Int), I2 fh [.int .u64 dy] e3 →
 Calls Try.prog 46 #[.pointer o1, .int .u64 dy] e3 fun f1 dl => ∃ (c3 : Int), f1 = .returned (.int .i64 c3) ∧
 bif decide (c3 ≥ 0) then (
 ∃ fq, fq < fh ∧ I2 fq [.int .u64 (IntKind.u64.wrap (dy + 1))] dl) else (
 canStore dl (((blk w.heap.size).add 0).add 0) ∧
 thenW (dl.setCell (((blk w.heap.size).add 0).add 0) (.int .u64 dy)) fun fc =>
 thenW (fc.drew) fun bu =>
 o1.elim False fun fx =>
 ∃ (de : Option Addr) (d9 : Nat) (dd : Nat), bu.cell? (fx.add 1) = some (.slice de d9 dd) ∧
 ∃ (eq : Int) (ah : Int) (cf : Option Addr) (cl : Nat) (cj : Nat) (d4 : Option Addr) (cz : Nat) (d5 : Nat) (eg : Int) (er : Int), cellsAt bu (blk w.heap.size) [.int .u64 eq, .int .i64 ah, .slice cf cl cj, .slice d4 cz d5, .int .u64 eg, .int .u64 er] 0 ∧
 thenW (bu.alloc (.cells #[.int .u64 eq, .int .i64 ah, .slice cf cl cj, .slice d4 cz d5, .int .u64 eg, .int .u64 er] 80)) fun e7 =>
 e7.cell? (fx.add 1) = some (.slice de d9 dd) ∧
 ∃ (ee : Option Addr) (eb : Nat) (ec : Nat) (db : World), (Builtin.append_ #[29, 29] 29 #[.slice de d9 dd, .slice (some (blk bu.heap.size)) 1 1]).run Try.prog e7 = .ok (.slice ee eb ec) db ∧
 o1.elim False fun fo =>
 canStore db ((fo.add 1).add 0) ∧
 thenW (db.setCell ((fo.add 1).add 0) (.slice ee eb ec)) fun fb =>
 R (.int .u64 dy) fb)) else (
 Calls Try.prog 46 #[.pointer o1, .int .u64 h9] af fun ez dc => ∃ (cq : Int), ez = .returned (.int .i64 cq) ∧
 bif decide (cq ≥ 0) then (
 ∃ (I2 : Nat → List Value → World → Prop) (g2 : Nat), I2 g2 [.int .u64 1] dc ∧ ∀ (fw : Nat) (dw : World) (es : Int), I2 fw [.int .u64 es] dw →
 Calls Try.prog 46 #[.pointer o1, .int .u64 es] dw fun f0 dh => ∃ (c7 : Int), f0 = .returned (.int .i64 c7) ∧
 bif decide (c7 ≥ 0) then (
 ∃ fm, fm < fw ∧ I2 fm [.int .u64 (IntKind.u64.wrap (es + 1))] dh) else (
 canStore dh (((blk w.heap.size).add 0).add 0) ∧
 thenW (dh.setCell (((blk w.heap.size).add 0).add 0) (.int .u64 es)) fun f6 =>
 thenW (f6.drew) fun bw =>
 o1.elim False fun fs =>
 ∃ (di : Option Addr) (dg : Nat) (dk : Nat), bw.cell? (fs.add 1) = some (.slice di dg dk) ∧
 ∃ (ds : Int) (ag : Int) (bx : Option Addr) (ch : Nat) (ci : Nat) (d1 : Option Addr) (cn : Nat) (c1 : Nat) (e9 : Int) (ea : Int), cellsAt bw (blk w.heap.size) [.int .u64 ds, .int .i64 ag, .slice bx ch ci, .slice d1 cn c1, .int .u64 e9, .int .u64 ea] 0 ∧
 thenW (bw.alloc (.cells #[.int .u64 ds, .int .i64 ag, .slice bx ch ci, .slice d1 cn c1, .int .u64 e9, .int .u64 ea] 80)) fun et =>
 et.cell? (fs.add 1) = some (.slice di dg dk) ∧
 ∃ (e5 : Option Addr) (e8 : Nat) (dp : Nat) (d8 : World), (Builtin.append_ #[29, 29] 29 #[.slice di dg dk, .slice (some (blk bw.heap.size)) 1 1]).run Try.prog et = .ok (.slice e5 e8 dp) d8 ∧
 o1.elim False fun fr =>
 canStore d8 ((fr.add 1).add 0) ∧
 thenW (d8.setCell ((fr.add 1).add 0) (.slice e5 e8 dp)) fun f8 =>
 R (.int .u64 es) f8)) else (
 canStore dc (((blk w.heap.size).add 0).add 0) ∧
 thenW (dc.setCell (((blk w.heap.size).add 0).add 0) (.int .u64 h9)) fun f4 =>
 thenW (f4.drew) fun bv =>
 o1.elim False fun fi =>
 ∃ (da : Option Addr) (dj : Nat) (df : Nat), bv.cell? (fi.add 1) = some (.slice da dj df) ∧
 ∃ (e6 : Int) (ak : Int) (c4 : Option Addr) (d3 : Nat) (ce : Nat) (cs : Option Addr) (cb : Nat) (ck : Nat) (du : Int) (e4 : Int), cellsAt bv (blk w.heap.size) [.int .u64 e6, .int .i64 ak, .slice c4 d3 ce, .slice cs cb ck, .int .u64 du, .int .u64 e4] 0 ∧
 thenW (bv.alloc (.cells #[.int .u64 e6, .int .i64 ak, .slice c4 d3 ce, .slice cs cb ck, .int .u64 du, .int .u64 e4] 80)) fun dq =>
 dq.cell? (fi.add 1) = some (.slice da dj df) ∧
 ∃ (dv : Option Addr) (ep : Nat) (el : Nat) (dm : World), (Builtin.append_ #[29, 29] 29 #[.slice da dj df, .slice (some (blk bv.heap.size)) 1 1]).run Try.prog dq = .ok (.slice dv ep el) dm ∧
 o1.elim False fun fk =>
 canStore dm ((fk.add 1).add 0) ∧
 thenW (dm.setCell ((fk.add 1).add 0) (.slice dv ep el)) fun ey =>
 R (.int .u64 h9) ey))))) else (
 bif h9 == 0 then (
 ∃ (I2 : Nat → List Value → World → Prop) (fe : Nat), I2 fe [.int .u64 1] a6 ∧ ∀ (dn : Nat) (cc : World) (b0 : Int), I2 dn [.int .u64 b0] cc →
 Calls Try.prog 46 #[.pointer o1, .int .u64 b0] cc fun dx bf => ∃ (au : Int), dx = .returned (.int .i64 au) ∧
 bif decide (au ≥ 0) then (
 ∃ eh, eh < dn ∧ I2 eh [.int .u64 (IntKind.u64.wrap (b0 + 1))] bf) else (
 canStore bf (((blk w.heap.size).add 0).add 0) ∧
 thenW (bf.setCell (((blk w.heap.size).add 0).add 0) (.int .u64 b0)) fun e2 =>
 thenW (e2.drew) fun al =>
 o1.elim False fun ed =>
 ∃ (b9 : Option Addr) (bm : Nat) (ax : Nat), al.cell? (ed.add 1) = some (.slice b9 bm ax) ∧
 ∃ (cr : Int) (a7 : Int) (b3 : Option Addr) (bh : Nat) (b1 : Nat) (bt : Option Addr) (bj : Nat) (be : Nat) (cv : Int) (bz : Int), cellsAt al (blk w.heap.size) [.int .u64 cr, .int .i64 a7, .slice b3 bh b1, .slice bt bj be, .int .u64 cv, .int .u64 bz] 0 ∧
 thenW (al.alloc (.cells #[.int .u64 cr, .int .i64 a7, .slice b3 bh b1, .slice bt bj be, .int .u64 cv, .int .u64 bz] 80)) fun c0 =>
 c0.cell? (ed.add 1) = some (.slice b9 bm ax) ∧
 ∃ (cx : Option Addr) (d0 : Nat) (c5 : Nat) (b7 : World), (Builtin.append_ #[29, 29] 29 #[.slice b9 bm ax, .slice (some (blk al.heap.size)) 1 1]).run Try.prog c0 = .ok (.slice cx d0 c5) b7 ∧
 o1.elim False fun eo =>
 canStore b7 ((eo.add 1).add 0) ∧
 thenW (b7.setCell ((eo.add 1).add 0) (.slice cx d0 c5)) fun em =>
 R (.int .u64 b0) em)) else (
 Calls Try.prog 46 #[.pointer o1, .int .u64 h9] a6 fun e0 bs => ∃ (bk : Int), e0 = .returned (.int .i64 bk) ∧
 bif decide (bk ≥ 0) then (
 ∃ (I2 : Nat → List Value → World → Prop) (fg : Nat), I2 fg [.int .u64 1] bs ∧ ∀ (ei : Nat) (cw : World) (aw : Int), I2 ei [.int .u64 aw] cw →
 Calls Try.prog 46 #[.pointer o1, .int .u64 aw] cw fun ej bn => ∃ (b2 : Int), ej = .returned (.int .i64 b2) ∧
 bif decide (b2 ≥ 0) then (
 ∃ ek, ek < ei ∧ I2 ek [.int .u64 (IntKind.u64.wrap (aw + 1))] bn) else (
 canStore bn (((blk w.heap.size).add 0).add 0) ∧
 thenW (bn.setCell (((blk w.heap.size).add 0).add 0) (.int .u64 aw)) fun en =>
 thenW (en.drew) fun aj =>
 o1.elim False fun dz =>
 ∃ (ap : Option Addr) (ar : Nat) (am : Nat), aj.cell? (dz.add 1) = some (.slice ap ar am) ∧
 ∃ (ca : Int) (ab : Int) (bi : Option Addr) (bo : Nat) (bp : Nat) (b5 : Option Addr) (bb : Nat) (ay : Nat) (cg : Int) (c8 : Int), cellsAt aj (blk w.heap.size) [.int .u64 ca, .int .i64 ab, .slice bi bo bp, .slice b5 bb ay, .int .u64 cg, .int .u64 c8] 0 ∧
 thenW (aj.alloc (.cells #[.int .u64 ca, .int .i64 ab, .slice bi bo bp, .slice b5 bb ay, .int .u64 cg, .int .u64 c8] 80)) fun c2 =>
 c2.cell? (dz.add 1) = some (.slice ap ar am) ∧
 ∃ (c9 : Option Addr) (cp : Nat) (cm : Nat) (b4 : World), (Builtin.append_ #[29, 29] 29 #[.slice ap ar am, .slice (some (blk aj.heap.size)) 1 1]).run Try.prog c2 = .ok (.slice c9 cp cm) b4 ∧
 o1.elim False fun dt =>
 canStore b4 ((dt.add 1).add 0) ∧
 thenW (b4.setCell ((dt.add 1).add 0) (.slice c9 cp cm)) fun ev =>
 R (.int .u64 aw) ev)) else (
 canStore bs (((blk w.heap.size).add 0).add 0) ∧
 thenW (bs.setCell (((blk w.heap.size).add 0).add 0) (.int .u64 h9)) fun ef =>
 thenW (ef.drew) fun ai =>
 o1.elim False fun eu =>
 ∃ (aq : Option Addr) (bg : Nat) (br : Nat), ai.cell? (eu.add 1) = some (.slice aq bg br) ∧
 ∃ (cy : Int) (ae : Int) (bl : Option Addr) (b6 : Nat) (bd : Nat) (bq : Option Addr) (ba : Nat) (bc : Nat) (cd : Int) (ct : Int), cellsAt ai (blk w.heap.size) [.int .u64 cy, .int .i64 ae, .slice bl b6 bd, .slice bq ba bc, .int .u64 cd, .int .u64 ct] 0 ∧
 thenW (ai.alloc (.cells #[.int .u64 cy, .int .i64 ae, .slice bl b6 bd, .slice bq ba bc, .int .u64 cd, .int .u64 ct] 80)) fun c6 =>
 c6.cell? (eu.add 1) = some (.slice aq bg br) ∧
 ∃ (d2 : Option Addr) (cu : Nat) (co : Nat) (az : World), (Builtin.append_ #[29, 29] 29 #[.slice aq bg br, .slice (some (blk ai.heap.size)) 1 1]).run Try.prog c6 = .ok (.slice d2 cu co) az ∧
 o1.elim False fun dr =>
 canStore az ((dr.add 1).add 0) ∧
 thenW (az.setCell ((dr.add 1).add 0) (.slice d2 cu co)) fun e1 =>
 R (.int .u64 h9) e1)))

theorem cachetteref03_Oracle_put.eq (o1 : Option Addr) (rH2 : Int) (rKind3 : Int) (rA4a : Option Addr) (rA4n : Nat) (rA4c : Nat) (rB5a : Option Addr) (rB5n : Nat) (rB5c : Nat) (rN6 : Int) (rM7 : Int) (R : Value → World → Prop) (w : World) : mfunc Try.prog [(0, [0, 3], [(5, (.one (.int .u64)))]), (2, [0, 3], [(5, (.one (.int .u64)))])] 28 [.pointer o1, .agg #[.int .u64 rH2, .int .i64 rKind3, .slice rA4a rA4n rA4c, .slice rB5a rB5n rB5c, .int .u64 rN6, .int .u64 rM7]] R w = cachetteref03_Oracle_put.M o1 rH2 rKind3 rA4a rA4n rA4c rB5a rB5n rB5c rN6 rM7 R w := by kernel_rfl
theorem cachetteref03_Oracle_put.ok (o1 : Option Addr) (a8 : Int) (a0 : Int) (a5 : Option Addr) (a6 : Nat) (a4 : Nat) (a3 : Option Addr) (a2 : Nat) (a1 : Nat) (a7 : Int) (a9 : Int) {R : Value → World → Prop} {w : World} (h : cachetteref03_Oracle_put.M o1 a8 a0 a5 a6 a4 a3 a2 a1 a7 a9 R w) : Calls Try.prog 28 #[.pointer o1, .agg #[.int .u64 a8, .int .i64 a0, .slice a5 a6 a4, .slice a3 a2 a1, .int .u64 a7, .int .u64 a9]] w fun e w' => ∃ v, e = .returned v ∧ R v w' :=
  mfunc_ok follows (H := [(0, [0, 3], [(5, (.one (.int .u64)))]), (2, [0, 3], [(5, (.one (.int .u64)))])]) (args := [.pointer o1, .agg #[.int .u64 a8, .int .i64 a0, .slice a5 a6 a4, .slice a3 a2 a1, .int .u64 a7, .int .u64 a9]]) (by rw [cachetteref03_Oracle_put.eq]; exact h)

def cachetteref03_Oracle_put.N (o1 : Option Addr) (el : Int) (ce : Int) (dy : Option Addr) (e9 : Nat) (dw : Nat) (du : Option Addr) (dq : Nat) (e0 : Nat) (en : Int) (eq : Int) (R : Value → World → Prop) (w : World) : Prop :=
 ∀ (dx : World) (p9 : Nat), Ext no w dx → Priv w dx [p9] →
 ∃ (I0 : Nat → List Value → World → Prop) (ep : Nat), I0 ep [.int .u64 0, .int .u64 el, .int .i64 ce, .slice dy e9 dw, .slice du dq e0, .int .u64 en, .int .u64 eq] dx ∧ ∀ (dr : Nat) (a2 : World) (ay : Int) (d4 : Int) (a0 : Int) (an : Option Addr) (ad : Nat) (ae : Nat) (aa : Option Addr) (a9 : Nat) (af : Nat) (cb : Int) (c6 : Int), I0 dr [.int .u64 ay, .int .u64 d4, .int .i64 a0, .slice an ad ae, .slice aa a9 af, .int .u64 cb, .int .u64 c6] a2 →
 ∃ a1 : Addr, o1 = some a1 ∧
 ∃ (b3 : Option Addr) (a7 : Nat) (bt : Nat), a2.cell? (a1.add 0) = some (.slice b3 a7 bt) ∧
 ((a7 : Int) > 0 →
 (ay = 0 →
 ∃ (ao : Option Addr) (al : Nat) (br : Nat), a2.cell? (a1.add 0) = some (.slice ao al br) ∧
 ∃ eh : Addr, ao = some eh ∧
 (0 : Int) < (al : Int) ∧
 ∃ (ed : Int), a2.cell? (eh.add (Int.toNat 0 * 1)) = some (.int .u64 ed) ∧
 ∃ (am : Option Addr) (a4 : Nat) (a5 : Nat), a2.cell? (a1.add 0) = some (.slice am a4 a5) ∧
 (1 : Int) ≤ (a4 : Int) ∧ 
 canStore a2 ((a1.add 0).add 0) ∧
 (∀ p ∈ [p9], p ≠ Addr.block (a1.add 0)) ∧
 thenW (a2.setCell ((a1.add 0).add 0) (.slice (cutA am a5 1 1) (a4 - 1) (a5 - 1))) fun e7 =>
 ∃ ee, ee < dr ∧ I0 ee [.int .u64 ed, .int .u64 d4, .int .i64 a0, .slice an ad ae, .slice aa a9 af, .int .u64 cb, .int .u64 c6] e7) ∧
 (ay ≠ 0 →
 Calls Try.prog 46 #[.pointer o1, .int .u64 ay] a2 fun e4 ai => ∃ (b1 : Int), e4 = .returned (.int .i64 b1) ∧
 Keep [p9] a2 ai ∧
 (b1 ≥ 0 →
 ∃ (ah : Option Addr) (ac : Nat) (b2 : Nat), ai.cell? (a1.add 0) = some (.slice ah ac b2) ∧
 ∃ ef : Addr, ah = some ef ∧
 (0 : Int) < (ac : Int) ∧
 ∃ (eb : Int), ai.cell? (ef.add (Int.toNat 0 * 1)) = some (.int .u64 eb) ∧
 ∃ (ag : Option Addr) (a3 : Nat) (a6 : Nat), ai.cell? (a1.add 0) = some (.slice ag a3 a6) ∧
 (1 : Int) ≤ (a3 : Int) ∧ 
 canStore ai ((a1.add 0).add 0) ∧
 (∀ p ∈ [p9], p ≠ Addr.block (a1.add 0)) ∧
 thenW (ai.setCell ((a1.add 0).add 0) (.slice (cutA ag a6 1 1) (a3 - 1) (a6 - 1))) fun dp =>
 ∃ ec, ec < dr ∧ I0 ec [.int .u64 eb, .int .u64 d4, .int .i64 a0, .slice an ad ae, .slice aa a9 af, .int .u64 cb, .int .u64 c6] dp) ∧
 (b1 < 0 →
 Calls Try.prog 46 #[.pointer o1, .int .u64 ay] ai fun ds cj => ∃ (bf : Int), ds = .returned (.int .i64 bf) ∧
 Keep [p9] ai cj ∧
 (bf ≥ 0 →
 ∃ (I2 : Nat → List Value → World → Prop) (em : Nat), I2 em [.int .u64 1, .int .u64 d4, .int .i64 a0, .slice an ad ae, .slice aa a9 af, .int .u64 cb, .int .u64 c6] cj ∧ ∀ (ej : Nat) (cy : World) (de : Int) (ei : Int) (ap : Int) (ck : Option Addr) (cw : Nat) (cm : Nat) (co : Option Addr) (d3 : Nat) (cz : Nat) (e2 : Int) (e6 : Int), I2 ej [.int .u64 de, .int .u64 ei, .int .i64 ap, .slice ck cw cm, .slice co d3 cz, .int .u64 e2, .int .u64 e6] cy →
 Calls Try.prog 46 #[.pointer o1, .int .u64 de] cy fun dt ch => ∃ (bs : Int), dt = .returned (.int .i64 bs) ∧
 Keep [p9] cy ch ∧
 (bs ≥ 0 →
 ∃ ea, ea < ej ∧ I2 ea [.int .u64 (IntKind.u64.wrap (de + 1)), .int .u64 ei, .int .i64 ap, .slice ck cw cm, .slice co d3 cz, .int .u64 e2, .int .u64 e6] ch) ∧
 (bs < 0 →
 ∀ (c0 : World), Ext (fun b => b = p9) ch c0 →
 ∃ (cu : Option Addr) (cs : Nat) (ci : Nat), c0.cell? (a1.add 1) = some (.slice cu cs ci) ∧
 ∀ (be : World) (dn : Nat), Ext no c0 be → Blk be dn 80 [.int .u64 de, .int .i64 ap, .slice ck cw cm, .slice co d3 cz, .int .u64 e2, .int .u64 e6] → c0.heap.size ≤ dn → dn < be.heap.size →
 be.cell? (a1.add 1) = some (.slice cu cs ci) ∧
 ∃ (dl : Option Addr) (d7 : Nat) (db : Nat) (cl : World), (Builtin.append_ #[29, 29] 29 #[.slice cu cs ci, .slice (some (blk dn)) 1 1]).run Try.prog be = .ok (.slice dl d7 db) cl ∧
 canStore cl ((a1.add 1).add 0) ∧
 thenW (cl.setCell ((a1.add 1).add 0) (.slice dl d7 db)) fun e8 =>
 R (.int .u64 de) e8)) ∧
 (bf < 0 →
 ∀ (bx : World), Ext (fun b => b = p9) cj bx →
 ∃ (cr : Option Addr) (cc : Nat) (d0 : Nat), bx.cell? (a1.add 1) = some (.slice cr cc d0) ∧
 ∀ (bq : World) (dm : Nat), Ext no bx bq → Blk bq dm 80 [.int .u64 ay, .int .i64 a0, .slice an ad ae, .slice aa a9 af, .int .u64 cb, .int .u64 c6] → bx.heap.size ≤ dm → dm < bq.heap.size →
 bq.cell? (a1.add 1) = some (.slice cr cc d0) ∧
 ∃ (dh : Option Addr) (di : Nat) (dc : Nat) (ct : World), (Builtin.append_ #[29, 29] 29 #[.slice cr cc d0, .slice (some (blk dm)) 1 1]).run Try.prog bq = .ok (.slice dh di dc) ct ∧
 canStore ct ((a1.add 1).add 0) ∧
 thenW (ct.setCell ((a1.add 1).add 0) (.slice dh di dc)) fun dv =>
 R (.int .u64 ay) dv)))) ∧
 ((a7 : Int) ≤ 0 →
 (ay = 0 →
 ∃ (I2 : Nat → List Value → World → Prop) (eo : Nat), I2 eo [.int .u64 1, .int .u64 d4, .int .i64 a0, .slice an ad ae, .slice aa a9 af, .int .u64 cb, .int .u64 c6] a2 ∧ ∀ (ek : Nat) (d2 : World) (dk : Int) (eg : Int) (au : Int) (cp : Option Addr) (cv : Nat) (cd : Nat) (cq : Option Addr) (cn : Nat) (cg : Nat) (e3 : Int) (dz : Int), I2 ek [.int .u64 dk, .int .u64 eg, .int .i64 au, .slice cp cv cd, .slice cq cn cg, .int .u64 e3, .int .u64 dz] d2 →
 Calls Try.prog 46 #[.pointer o1, .int .u64 dk] d2 fun e5 cf => ∃ (bb : Int), e5 = .returned (.int .i64 bb) ∧
 Keep [p9] d2 cf ∧
 (bb ≥ 0 →
 ∃ dj, dj < ek ∧ I2 dj [.int .u64 (IntKind.u64.wrap (dk + 1)), .int .u64 eg, .int .i64 au, .slice cp cv cd, .slice cq cn cg, .int .u64 e3, .int .u64 dz] cf) ∧
 (bb < 0 →
 ∀ (av : World), Ext (fun b => b = p9) cf av →
 ∃ (bd : Option Addr) (b4 : Nat) (bm : Nat), av.cell? (a1.add 1) = some (.slice bd b4 bm) ∧
 ∀ (aj : World) (bw : Nat), Ext no av aj → Blk aj bw 80 [.int .u64 dk, .int .i64 au, .slice cp cv cd, .slice cq cn cg, .int .u64 e3, .int .u64 dz] → av.heap.size ≤ bw → bw < aj.heap.size →
 aj.cell? (a1.add 1) = some (.slice bd b4 bm) ∧
 ∃ (c7 : Option Addr) (c1 : Nat) (c5 : Nat) (bk : World), (Builtin.append_ #[29, 29] 29 #[.slice bd b4 bm, .slice (some (blk bw)) 1 1]).run Try.prog aj = .ok (.slice c7 c1 c5) bk ∧
 canStore bk ((a1.add 1).add 0) ∧
 thenW (bk.setCell ((a1.add 1).add 0) (.slice c7 c1 c5)) fun dd =>
 R (.int .u64 dk) dd)) ∧
 (ay ≠ 0 →
 Calls Try.prog 46 #[.pointer o1, .int .u64 ay] a2 fun da bp => ∃ (ar : Int), da = .returned (.int .i64 ar) ∧
 Keep [p9] a2 bp ∧
 (ar ≥ 0 →
 ∃ (I2 : Nat → List Value → World → Prop) (e1 : Nat), I2 e1 [.int .u64 1, .int .u64 d4, .int .i64 a0, .slice an ad ae, .slice aa a9 af, .int .u64 cb, .int .u64 c6] bp ∧ ∀ (d5 : Nat) (bu : World) (bc : Int) (dg : Int) (a8 : Int) (ba : Option Addr) (b5 : Nat) (bi : Nat) (bl : Option Addr) (b7 : Nat) (b9 : Nat) (cx : Int) (d1 : Int), I2 d5 [.int .u64 bc, .int .u64 dg, .int .i64 a8, .slice ba b5 bi, .slice bl b7 b9, .int .u64 cx, .int .u64 d1] bu →
 Calls Try.prog 46 #[.pointer o1, .int .u64 bc] bu fun d9 az => ∃ (aq : Int), d9 = .returned (.int .i64 aq) ∧
 Keep [p9] bu az ∧
 (aq ≥ 0 →
 ∃ d8, d8 < d5 ∧ I2 d8 [.int .u64 (IntKind.u64.wrap (bc + 1)), .int .u64 dg, .int .i64 a8, .slice ba b5 bi, .slice bl b7 b9, .int .u64 cx, .int .u64 d1] az) ∧
 (aq < 0 →
 ∀ (ax : World), Ext (fun b => b = p9) az ax →
 ∃ (bn : Option Addr) (bj : Nat) (b6 : Nat), ax.cell? (a1.add 1) = some (.slice bn bj b6) ∧
 ∀ (ak : World) (bv : Nat), Ext no ax ak → Blk ak bv 80 [.int .u64 bc, .int .i64 a8, .slice ba b5 bi, .slice bl b7 b9, .int .u64 cx, .int .u64 d1] → ax.heap.size ≤ bv → bv < ak.heap.size →
 ak.cell? (a1.add 1) = some (.slice bn bj b6) ∧
 ∃ (c2 : Option Addr) (ca : Nat) (c8 : Nat) (bo : World), (Builtin.append_ #[29, 29] 29 #[.slice bn bj b6, .slice (some (blk bv)) 1 1]).run Try.prog ak = .ok (.slice c2 ca c8) bo ∧
 canStore bo ((a1.add 1).add 0) ∧
 thenW (bo.setCell ((a1.add 1).add 0) (.slice c2 ca c8)) fun d6 =>
 R (.int .u64 bc) d6)) ∧
 (ar < 0 →
 ∀ (aw : World), Ext (fun b => b = p9) bp aw →
 ∃ (bg : Option Addr) (b0 : Nat) (b8 : Nat), aw.cell? (a1.add 1) = some (.slice bg b0 b8) ∧
 ∀ (ab : World) (bz : Nat), Ext no aw ab → Blk ab bz 80 [.int .u64 ay, .int .i64 a0, .slice an ad ae, .slice aa a9 af, .int .u64 cb, .int .u64 c6] → aw.heap.size ≤ bz → bz < ab.heap.size →
 ab.cell? (a1.add 1) = some (.slice bg b0 b8) ∧
 ∃ (c4 : Option Addr) (c9 : Nat) (c3 : Nat) (bh : World), (Builtin.append_ #[29, 29] 29 #[.slice bg b0 b8, .slice (some (blk bz)) 1 1]).run Try.prog ab = .ok (.slice c4 c9 c3) bh ∧
 canStore bh ((a1.add 1).add 0) ∧
 thenW (bh.setCell ((a1.add 1).add 0) (.slice c4 c9 c3)) fun df =>
 R (.int .u64 ay) df)))

theorem cachetteref03_Oracle_put.up (o1 : Option Addr) (ee : Int) (aj : Int) (c2 : Option Addr) (cb : Nat) (c0 : Nat) (bt : Option Addr) (bp : Nat) (c4 : Nat) (fb : Int) (fj : Int) {R : Value → World → Prop} {w : World} (h : cachetteref03_Oracle_put.N o1 ee aj c2 cb c0 bt bp c4 fb fj R w) : cachetteref03_Oracle_put.M o1 ee aj c2 cb c0 bt bp c4 fb fj R w := by
  unfold cachetteref03_Oracle_put.M
  unfold cachetteref03_Oracle_put.N at h
  refine thenW_in fun gf e8 => ?_
  have a0 := Blk.of_new e8
  have gg := ((Ext.refl no w)).size
  have gb := (Ext.refl no w).x_alloc e8
  have h := h gf (w.heap.size) gb (Priv.cons gg a0.lt Priv.nil)
  obtain ⟨I0, gn, h0, h⟩ := h
  refine ⟨fun k vs ww => ∃ (bm : Int) (a1 : Int) (ab : Option Addr) (a8 : Nat) (a9 : Nat) (a7 : Option Addr) (a6 : Nat) (aa : Nat) (b3 : Int) (b2 : Int), Blk ww w.heap.size 80 [.int .u64 bm, .int .i64 a1, .slice ab a8 a9, .slice a7 a6 aa, .int .u64 b3, .int .u64 b2] ∧ I0 k (vs ++ [.int .u64 bm, .int .i64 a1, .slice ab a8 a9, .slice a7 a6 aa, .int .u64 b3, .int .u64 b2]) ww, gn, ⟨ee, aj, c2, cb, c0, bt, bp, c4, fb, fj, a0, h0⟩, fun g4 fm dp hI => ?_⟩
  obtain ⟨bm, a1, ab, a8, a9, a7, a6, aa, b3, b2, a0, hI⟩ := hI
  have h := h g4 fm dp bm a1 ab a8 a9 a7 a6 aa b3 b2 hI
  obtain ⟨gq, a3, h⟩ := h
  refine elim_some a3 ?_
  obtain ⟨b6, bk, bj, fe, h⟩ := h
  refine ⟨b6, bk, bj, fe, ?_⟩
  refine bif_of (fun ez => ?_) (fun ez => ?_)
  · have h := h.1 (of_decide_eq_true ez)
    refine bif_of (fun dx => ?_) (fun dx => ?_)
    · have h := h.1 (beq_t dx)
      refine elim_some a3 ?_
      obtain ⟨bl, be, bi, en, h⟩ := h
      refine ⟨bl, be, bi, en, ?_⟩
      obtain ⟨gs, eh, h⟩ := h
      refine elim_some eh ?_
      obtain ⟨ek, h⟩ := h
      refine ⟨by decide, ek, ?_⟩
      obtain ⟨ga, fh, h⟩ := h
      refine ⟨ga, fh, ?_⟩
      refine elim_some a3 ?_
      obtain ⟨bg, bb, bc, f9, h⟩ := h
      refine ⟨bg, bb, bc, f9, ?_⟩
      obtain ⟨ex, h⟩ := h
      refine ⟨by decide, ex, ?_⟩
      refine elim_some a3 ?_
      obtain ⟨hcs, hof, h⟩ := h
      refine ⟨hcs, thenW_in fun gk fr => ?_⟩
      replace h := thenW_out h fr
      have a0 := a0.off (by rw [block_add]; exact hof _ (by simp)) fr
      obtain ⟨gd, hk, h⟩ := h
      exact ⟨gd, hk, bm, a1, ab, a8, a9, a7, a6, aa, b3, b2, a0, h⟩
    · have h := h.2 (beq_f dx)
      refine h.mono fun gh gc h => ?_
      obtain ⟨cd, he, hk, h⟩ := h
      refine ⟨cd, he, ?_⟩
      have a0 := hk.blk a0 (by simp)
      refine bif_of (fun el => ?_) (fun el => ?_)
      · have h := h.1 (of_decide_eq_true el)
        refine elim_some a3 ?_
        obtain ⟨ba, b7, b5, f3, h⟩ := h
        refine ⟨ba, b7, b5, f3, ?_⟩
        obtain ⟨gr, ey, h⟩ := h
        refine elim_some ey ?_
        obtain ⟨ek, h⟩ := h
        refine ⟨by decide, ek, ?_⟩
        obtain ⟨g2, e0, h⟩ := h
        refine ⟨g2, e0, ?_⟩
        refine elim_some a3 ?_
        obtain ⟨b9, b8, bd, e9, h⟩ := h
        refine ⟨b9, b8, bd, e9, ?_⟩
        obtain ⟨ex, h⟩ := h
        refine ⟨by decide, ex, ?_⟩
        refine elim_some a3 ?_
        obtain ⟨hcs, hof, h⟩ := h
        refine ⟨hcs, thenW_in fun g0 fq => ?_⟩
        replace h := thenW_out h fq
        have a0 := a0.off (by rw [block_add]; exact hof _ (by simp)) fq
        obtain ⟨g5, hk, h⟩ := h
        exact ⟨g5, hk, bm, a1, ab, a8, a9, a7, a6, aa, b3, b2, a0, h⟩
      · have h := h.2 (Int.not_le.1 (of_decide_eq_false el))
        refine bif_ff dx ?_
        refine h.mono fun g6 bs h => ?_
        obtain ⟨d1, he, hk, h⟩ := h
        refine ⟨d1, he, ?_⟩
        have a0 := hk.blk a0 (by simp)
        refine bif_of (fun e2 => ?_) (fun e2 => ?_)
        · have h := h.1 (of_decide_eq_true e2)
          obtain ⟨I2, g8, h0, h⟩ := h
          refine ⟨fun k vs ww => ∃ (df : Int) (a4 : Int) (al : Option Addr) (au : Nat) (am : Nat) (ao : Option Addr) (ay : Nat) (aw : Nat) (c7 : Int) (c9 : Int), Blk ww w.heap.size 80 [.int .u64 df, .int .i64 a4, .slice al au am, .slice ao ay aw, .int .u64 c7, .int .u64 c9] ∧ I2 k (vs ++ [.int .u64 df, .int .i64 a4, .slice al au am, .slice ao ay aw, .int .u64 c7, .int .u64 c9]) ww, g8, ⟨bm, a1, ab, a8, a9, a7, a6, aa, b3, b2, a0, h0⟩, fun gj f8 et hI => ?_⟩
          obtain ⟨df, a4, al, au, am, ao, ay, aw, c7, c9, a0, hI⟩ := hI
          have h := h gj f8 et df a4 al au am ao ay aw c7 c9 hI
          refine h.mono fun g7 br h => ?_
          obtain ⟨ds, he, hk, h⟩ := h
          refine ⟨ds, he, ?_⟩
          have a0 := hk.blk a0 (by simp)
          refine bif_of (fun e7 => ?_) (fun e7 => ?_)
          · have h := h.1 (of_decide_eq_true e7)
            obtain ⟨g1, hk, h⟩ := h
            exact ⟨g1, hk, df, a4, al, au, am, ao, ay, aw, c7, c9, a0, h⟩
          · have h := h.2 (Int.not_le.1 (of_decide_eq_false e7))
            have f6 : Ext (fun b => b = w.heap.size) br br := ((Ext.refl no br)).none
            refine ⟨a0.cani 0 rfl rfl, thenW_in fun dy fz => ?_⟩
            have fk := f6.x_set (q := w.heap.size) (i := 0) rfl (.inl rfl) fz
            have a0 : Blk dy w.heap.size 80 [.int .u64 et, .int .i64 a4, .slice al au am, .slice ao ay aw, .int .u64 c7, .int .u64 c9] := a0.seti 0 rfl fz
            refine thenW_in fun bo fx => ?_
            have ea := fk.x_drew fx
            have a0 := a0.x_drew fx
            refine elim_some a3 ?_
            have h := h bo ea
            obtain ⟨f0, ev, eb, e5, h⟩ := h
            refine ⟨f0, ev, eb, e5, ?_⟩
            refine ⟨et, a4, al, au, am, ao, ay, aw, c7, c9, ⟨a0.celli 0 rfl rfl, a0.celli 1 rfl rfl, a0.celli 2 rfl rfl, a0.celli 3 rfl rfl, a0.celli 4 rfl rfl, a0.celli 5 rfl rfl, trivial⟩, ?_⟩
            refine thenW_in fun eu f1 => ?_
            have h := h eu bo.heap.size ((Ext.refl no bo).x_alloc f1) (Blk.of_new f1) ((Ext.refl no bo)).size (size_lt_alloc f1)
            obtain ⟨ec, h⟩ := h
            refine ⟨ec, ?_⟩
            obtain ⟨fo, ed, eo, ef, hr, h⟩ := h
            refine ⟨fo, ed, eo, ef, hr, ?_⟩
            refine elim_some a3 ?_
            obtain ⟨hcs, h⟩ := h
            refine ⟨hcs, thenW_in fun gm g3 => ?_⟩
            replace h := thenW_out h g3
            exact h
        · have h := h.2 (Int.not_le.1 (of_decide_eq_false e2))
          have f4 : Ext (fun b => b = w.heap.size) bs bs := ((Ext.refl no bs)).none
          refine ⟨a0.cani 0 rfl rfl, thenW_in fun eq fy => ?_⟩
          have f5 := f4.x_set (q := w.heap.size) (i := 0) rfl (.inl rfl) fy
          have a0 : Blk eq w.heap.size 80 [.int .u64 dp, .int .i64 a1, .slice ab a8 a9, .slice a7 a6 aa, .int .u64 b3, .int .u64 b2] := a0.seti 0 rfl fy
          refine thenW_in fun bn fv => ?_
          have eg := f5.x_drew fv
          have a0 := a0.x_drew fv
          refine elim_some a3 ?_
          have h := h bn eg
          obtain ⟨ep, dz, fd, fi, h⟩ := h
          refine ⟨ep, dz, fd, fi, ?_⟩
          refine ⟨dp, a1, ab, a8, a9, a7, a6, aa, b3, b2, ⟨a0.celli 0 rfl rfl, a0.celli 1 rfl rfl, a0.celli 2 rfl rfl, a0.celli 3 rfl rfl, a0.celli 4 rfl rfl, a0.celli 5 rfl rfl, trivial⟩, ?_⟩
          refine thenW_in fun fg ei => ?_
          have h := h fg bn.heap.size ((Ext.refl no bn).x_alloc ei) (Blk.of_new ei) ((Ext.refl no bn)).size (size_lt_alloc ei)
          obtain ⟨e6, h⟩ := h
          refine ⟨e6, ?_⟩
          obtain ⟨f7, fa, es, ew, hr, h⟩ := h
          refine ⟨f7, fa, es, ew, hr, ?_⟩
          refine elim_some a3 ?_
          obtain ⟨hcs, h⟩ := h
          refine ⟨hcs, thenW_in fun ge g9 => ?_⟩
          replace h := thenW_out h g9
          exact h
  · have h := h.2 (Int.not_lt.1 (of_decide_eq_false ez))
    refine bif_of (fun er => ?_) (fun er => ?_)
    · have h := h.1 (beq_t er)
      obtain ⟨I2, gl, h0, h⟩ := h
      refine ⟨fun k vs ww => ∃ (d7 : Int) (a5 : Int) (ap : Option Addr) (ar : Nat) (ai : Nat) (aq : Option Addr) (an : Nat) (ak : Nat) (c8 : Int) (c3 : Int), Blk ww w.heap.size 80 [.int .u64 d7, .int .i64 a5, .slice ap ar ai, .slice aq an ak, .int .u64 c8, .int .u64 c3] ∧ I2 k (vs ++ [.int .u64 d7, .int .i64 a5, .slice ap ar ai, .slice aq an ak, .int .u64 c8, .int .u64 c3]) ww, gl, ⟨bm, a1, ab, a8, a9, a7, a6, aa, b3, b2, a0, h0⟩, fun gp ff fl hI => ?_⟩
      obtain ⟨d7, a5, ap, ar, ai, aq, an, ak, c8, c3, a0, hI⟩ := hI
      have h := h gp ff fl d7 a5 ap ar ai aq an ak c8 c3 hI
      refine h.mono fun gi bq h => ?_
      obtain ⟨cx, he, hk, h⟩ := h
      refine ⟨cx, he, ?_⟩
      have a0 := hk.blk a0 (by simp)
      refine bif_of (fun c6 => ?_) (fun c6 => ?_)
      · have h := h.1 (of_decide_eq_true c6)
        obtain ⟨fc, hk, h⟩ := h
        exact ⟨fc, hk, d7, a5, ap, ar, ai, aq, an, ak, c8, c3, a0, h⟩
      · have h := h.2 (Int.not_le.1 (of_decide_eq_false c6))
        have cs : Ext (fun b => b = w.heap.size) bq bq := ((Ext.refl no bq)).none
        refine ⟨a0.cani 0 rfl rfl, thenW_in fun da de => ?_⟩
        have dj := cs.x_set (q := w.heap.size) (i := 0) rfl (.inl rfl) de
        have a0 : Blk da w.heap.size 80 [.int .u64 fl, .int .i64 a5, .slice ap ar ai, .slice aq an ak, .int .u64 c8, .int .u64 c3] := a0.seti 0 rfl de
        refine thenW_in fun az dv => ?_
        have cn := dj.x_drew dv
        have a0 := a0.x_drew dv
        refine elim_some a3 ?_
        have h := h az cn
        obtain ⟨cz, cl, di, ci, h⟩ := h
        refine ⟨cz, cl, di, ci, ?_⟩
        refine ⟨fl, a5, ap, ar, ai, aq, an, ak, c8, c3, ⟨a0.celli 0 rfl rfl, a0.celli 1 rfl rfl, a0.celli 2 rfl rfl, a0.celli 3 rfl rfl, a0.celli 4 rfl rfl, a0.celli 5 rfl rfl, trivial⟩, ?_⟩
        refine thenW_in fun d2 bv => ?_
        have h := h d2 az.heap.size ((Ext.refl no az).x_alloc bv) (Blk.of_new bv) ((Ext.refl no az)).size (size_lt_alloc bv)
        obtain ⟨cp, h⟩ := h
        refine ⟨cp, ?_⟩
        obtain ⟨cq, ce, ck, d9, hr, h⟩ := h
        refine ⟨cq, ce, ck, d9, hr, ?_⟩
        refine elim_some a3 ?_
        obtain ⟨hcs, h⟩ := h
        refine ⟨hcs, thenW_in fun fu em => ?_⟩
        replace h := thenW_out h em
        exact h
    · have h := h.2 (beq_f er)
      refine h.mono fun ft bh h => ?_
      obtain ⟨bx, he, hk, h⟩ := h
      refine ⟨bx, he, ?_⟩
      have a0 := hk.blk a0 (by simp)
      refine bif_of (fun bw => ?_) (fun bw => ?_)
      · have h := h.1 (of_decide_eq_true bw)
        obtain ⟨I2, f2, h0, h⟩ := h
        refine ⟨fun k vs ww => ∃ (bf : Int) (a2 : Int) (af : Option Addr) (ac : Nat) (ag : Nat) (ah : Option Addr) (ad : Nat) (ae : Nat) (av : Int) (ax : Int), Blk ww w.heap.size 80 [.int .u64 bf, .int .i64 a2, .slice af ac ag, .slice ah ad ae, .int .u64 av, .int .u64 ax] ∧ I2 k (vs ++ [.int .u64 bf, .int .i64 a2, .slice af ac ag, .slice ah ad ae, .int .u64 av, .int .u64 ax]) ww, f2, ⟨bm, a1, ab, a8, a9, a7, a6, aa, b3, b2, a0, h0⟩, fun e3 dt bz hI => ?_⟩
        obtain ⟨bf, a2, af, ac, ag, ah, ad, ae, av, ax, a0, hI⟩ := hI
        have h := h e3 dt bz bf a2 af ac ag ah ad ae av ax hI
        refine h.mono fun fs b4 h => ?_
        obtain ⟨bu, he, hk, h⟩ := h
        refine ⟨bu, he, ?_⟩
        have a0 := hk.blk a0 (by simp)
        refine bif_of (fun c1 => ?_) (fun c1 => ?_)
        · have h := h.1 (of_decide_eq_true c1)
          obtain ⟨ej, hk, h⟩ := h
          exact ⟨ej, hk, bf, a2, af, ac, ag, ah, ad, ae, av, ax, a0, h⟩
        · have h := h.2 (Int.not_le.1 (of_decide_eq_false c1))
          have dg : Ext (fun b => b = w.heap.size) b4 b4 := ((Ext.refl no b4)).none
          refine ⟨a0.cani 0 rfl rfl, thenW_in fun cr du => ?_⟩
          have d3 := dg.x_set (q := w.heap.size) (i := 0) rfl (.inl rfl) du
          have a0 : Blk cr w.heap.size 80 [.int .u64 bz, .int .i64 a2, .slice af ac ag, .slice ah ad ae, .int .u64 av, .int .u64 ax] := a0.seti 0 rfl du
          refine thenW_in fun b1 dn => ?_
          have co := d3.x_drew dn
          have a0 := a0.x_drew dn
          refine elim_some a3 ?_
          have h := h b1 co
          obtain ⟨dk, d6, cu, dc, h⟩ := h
          refine ⟨dk, d6, cu, dc, ?_⟩
          refine ⟨bz, a2, af, ac, ag, ah, ad, ae, av, ax, ⟨a0.celli 0 rfl rfl, a0.celli 1 rfl rfl, a0.celli 2 rfl rfl, a0.celli 3 rfl rfl, a0.celli 4 rfl rfl, a0.celli 5 rfl rfl, trivial⟩, ?_⟩
          refine thenW_in fun d8 c5 => ?_
          have h := h d8 b1.heap.size ((Ext.refl no b1).x_alloc c5) (Blk.of_new c5) ((Ext.refl no b1)).size (size_lt_alloc c5)
          obtain ⟨dh, h⟩ := h
          refine ⟨dh, ?_⟩
          obtain ⟨cf, dm, cw, dq, hr, h⟩ := h
          refine ⟨cf, dm, cw, dq, hr, ?_⟩
          refine elim_some a3 ?_
          obtain ⟨hcs, h⟩ := h
          refine ⟨hcs, thenW_in fun fp e1 => ?_⟩
          replace h := thenW_out h e1
          exact h
      · have h := h.2 (Int.not_le.1 (of_decide_eq_false bw))
        have ct : Ext (fun b => b = w.heap.size) bh bh := ((Ext.refl no bh)).none
        refine ⟨a0.cani 0 rfl rfl, thenW_in fun dr dw => ?_⟩
        have db := ct.x_set (q := w.heap.size) (i := 0) rfl (.inl rfl) dw
        have a0 : Blk dr w.heap.size 80 [.int .u64 dp, .int .i64 a1, .slice ab a8 a9, .slice a7 a6 aa, .int .u64 b3, .int .u64 b2] := a0.seti 0 rfl dw
        refine thenW_in fun b0 d0 => ?_
        have dd := db.x_drew d0
        have a0 := a0.x_drew d0
        refine elim_some a3 ?_
        have h := h b0 dd
        obtain ⟨d4, cc, cv, cm, h⟩ := h
        refine ⟨d4, cc, cv, cm, ?_⟩
        refine ⟨dp, a1, ab, a8, a9, a7, a6, aa, b3, b2, ⟨a0.celli 0 rfl rfl, a0.celli 1 rfl rfl, a0.celli 2 rfl rfl, a0.celli 3 rfl rfl, a0.celli 4 rfl rfl, a0.celli 5 rfl rfl, trivial⟩, ?_⟩
        refine thenW_in fun ch ca => ?_
        have h := h ch b0.heap.size ((Ext.refl no b0).x_alloc ca) (Blk.of_new ca) ((Ext.refl no b0)).size (size_lt_alloc ca)
        obtain ⟨cy, h⟩ := h
        refine ⟨cy, ?_⟩
        obtain ⟨cj, dl, cg, d5, hr, h⟩ := h
        refine ⟨cj, dl, cg, d5, hr, ?_⟩
        refine elim_some a3 ?_
        obtain ⟨hcs, h⟩ := h
        refine ⟨hcs, thenW_in fun fw e4 => ?_⟩
        replace h := thenW_out h e4
        exact h

theorem cachetteref03_Oracle_put.go (o1 : Option Addr) (a8 : Int) (a0 : Int) (a5 : Option Addr) (a6 : Nat) (a4 : Nat) (a3 : Option Addr) (a2 : Nat) (a1 : Nat) (a7 : Int) (a9 : Int) {R : Value → World → Prop} {w : World} (h : cachetteref03_Oracle_put.N o1 a8 a0 a5 a6 a4 a3 a2 a1 a7 a9 R w) : Calls Try.prog 28 #[.pointer o1, .agg #[.int .u64 a8, .int .i64 a0, .slice a5 a6 a4, .slice a3 a2 a1, .int .u64 a7, .int .u64 a9]] w fun e w' => ∃ v, e = .returned v ∧ R v w' := cachetteref03_Oracle_put.ok o1 a8 a0 a5 a6 a4 a3 a2 a1 a7 a9 (cachetteref03_Oracle_put.up o1 a8 a0 a5 a6 a4 a3 a2 a1 a7 a9 h)
/-- (*cachetteref03.Oracle).is -/
def cachetteref03_Oracle_is.M (o1 : Option Addr) (h2 : Int) (bj : Int) (R : Value → World → Prop) (w : World) : Prop :=
 thenW (w.alloc (.cells #[.int .u64 0, .int .i64 0, .slice none 0 0, .slice none 0 0, .int .u64 0, .int .u64 0] 80)) fun c1 =>
 Calls Try.prog 46 #[.pointer o1, .int .u64 h2] c1 fun c2 az => ∃ (a3 : Int), c2 = .returned (.int .i64 a3) ∧
 bif decide (a3 < 0) then (
 canStore az ((blk w.heap.size).add 0) ∧
 thenW (az.setCell ((blk w.heap.size).add 0) (.int .u64 0)) fun bw =>
 canStore bw ((blk w.heap.size).add 1) ∧
 thenW (bw.setCell ((blk w.heap.size).add 1) (.int .i64 0)) fun bx =>
 canStore bx ((blk w.heap.size).add 2) ∧
 thenW (bx.setCell ((blk w.heap.size).add 2) (.slice none 0 0)) fun bf =>
 canStore bf ((blk w.heap.size).add 3) ∧
 thenW (bf.setCell ((blk w.heap.size).add 3) (.slice none 0 0)) fun bh =>
 canStore bh ((blk w.heap.size).add 4) ∧
 thenW (bh.setCell ((blk w.heap.size).add 4) (.int .u64 0)) fun b9 =>
 canStore b9 ((blk w.heap.size).add 5) ∧
 thenW (b9.setCell ((blk w.heap.size).add 5) (.int .u64 0)) fun ba =>
 ∃ (ar : Int) (a0 : Int) (aj : Option Addr) (a5 : Nat) (ai : Nat) (ad : Option Addr) (a7 : Nat) (al : Nat) (ax : Int) (an : Int), cellsAt ba (blk w.heap.size) [.int .u64 ar, .int .i64 a0, .slice aj a5 ai, .slice ad a7 al, .int .u64 ax, .int .u64 an] 0 ∧
 R (.tuple #[.agg #[.int .u64 ar, .int .i64 a0, .slice aj a5 ai, .slice ad a7 al, .int .u64 ax, .int .u64 an], .bool false]) ba) else (
 o1.elim False fun c3 =>
 ∃ (be : Option Addr) (bq : Nat) (bv : Nat), az.cell? (c3.add 1) = some (.slice be bq bv) ∧
 be.elim False fun bz =>
 0 ≤ (a3 : Int) ∧ (a3 : Int) < (bq : Int) ∧
 ∃ (av : Int), az.cell? ((bz.add (Int.toNat a3 * 6)).add 1) = some (.int .i64 av) ∧
 bif av != bj then (
 canStore az ((blk w.heap.size).add 0) ∧
 thenW (az.setCell ((blk w.heap.size).add 0) (.int .u64 0)) fun bk =>
 canStore bk ((blk w.heap.size).add 1) ∧
 thenW (bk.setCell ((blk w.heap.size).add 1) (.int .i64 0)) fun b7 =>
 canStore b7 ((blk w.heap.size).add 2) ∧
 thenW (b7.setCell ((blk w.heap.size).add 2) (.slice none 0 0)) fun bl =>
 canStore bl ((blk w.heap.size).add 3) ∧
 thenW (bl.setCell ((blk w.heap.size).add 3) (.slice none 0 0)) fun bt =>
 canStore bt ((blk w.heap.size).add 4) ∧
 thenW (bt.setCell ((blk w.heap.size).add 4) (.int .u64 0)) fun bp =>
 canStore bp ((blk w.heap.size).add 5) ∧
 thenW (bp.setCell ((blk w.heap.size).add 5) (.int .u64 0)) fun bi =>
 ∃ (ao : Int) (a1 : Int) (am : Option Addr) (a6 : Nat) (ag : Nat) (a9 : Option Addr) (ak : Nat) (aa : Nat) (ap : Int) (aw : Int), cellsAt bi (blk w.heap.size) [.int .u64 ao, .int .i64 a1, .slice am a6 ag, .slice a9 ak aa, .int .u64 ap, .int .u64 aw] 0 ∧
 R (.tuple #[.agg #[.int .u64 ao, .int .i64 a1, .slice am a6 ag, .slice a9 ak aa, .int .u64 ap, .int .u64 aw], .bool false]) bi) else (
 o1.elim False fun c0 =>
 ∃ (bm : Option Addr) (bd : Nat) (bu : Nat), az.cell? (c0.add 1) = some (.slice bm bd bu) ∧
 bm.elim False fun c4 =>
 0 ≤ (a3 : Int) ∧ (a3 : Int) < (bd : Int) ∧
 ∃ (bc : Int) (a8 : Int) (b4 : Option Addr) (b3 : Nat) (b1 : Nat) (b0 : Option Addr) (b2 : Nat) (b5 : Nat) (br : Int) (bn : Int), cellsAt az (c4.add (Int.toNat a3 * 6)) [.int .u64 bc, .int .i64 a8, .slice b4 b3 b1, .slice b0 b2 b5, .int .u64 br, .int .u64 bn] 0 ∧
 canStore az ((blk w.heap.size).add 0) ∧
 thenW (az.setCell ((blk w.heap.size).add 0) (.int .u64 bc)) fun b6 =>
 canStore b6 ((blk w.heap.size).add 1) ∧
 thenW (b6.setCell ((blk w.heap.size).add 1) (.int .i64 a8)) fun bb =>
 canStore bb ((blk w.heap.size).add 2) ∧
 thenW (bb.setCell ((blk w.heap.size).add 2) (.slice b4 b3 b1)) fun bs =>
 canStore bs ((blk w.heap.size).add 3) ∧
 thenW (bs.setCell ((blk w.heap.size).add 3) (.slice b0 b2 b5)) fun bg =>
 canStore bg ((blk w.heap.size).add 4) ∧
 thenW (bg.setCell ((blk w.heap.size).add 4) (.int .u64 br)) fun bo =>
 canStore bo ((blk w.heap.size).add 5) ∧
 thenW (bo.setCell ((blk w.heap.size).add 5) (.int .u64 bn)) fun b8 =>
 ∃ (ay : Int) (a2 : Int) (ab : Option Addr) (ae : Nat) (a4 : Nat) (ac : Option Addr) (af : Nat) (ah : Nat) (aq : Int) (au : Int), cellsAt b8 (blk w.heap.size) [.int .u64 ay, .int .i64 a2, .slice ab ae a4, .slice ac af ah, .int .u64 aq, .int .u64 au] 0 ∧
 R (.tuple #[.agg #[.int .u64 ay, .int .i64 a2, .slice ab ae a4, .slice ac af ah, .int .u64 aq, .int .u64 au], .bool true]) b8))

theorem cachetteref03_Oracle_is.eq (o1 : Option Addr) (h2 : Int) (kind3 : Int) (R : Value → World → Prop) (w : World) : mfunc Try.prog [] 75 [.pointer o1, .int .u64 h2, .int .i64 kind3] R w = cachetteref03_Oracle_is.M o1 h2 kind3 R w := by kernel_rfl
theorem cachetteref03_Oracle_is.ok (o1 : Option Addr) (h2 : Int) (a0 : Int) {R : Value → World → Prop} {w : World} (h : cachetteref03_Oracle_is.M o1 h2 a0 R w) : Calls Try.prog 75 #[.pointer o1, .int .u64 h2, .int .i64 a0] w fun e w' => ∃ v, e = .returned v ∧ R v w' :=
  mfunc_ok follows (H := []) (args := [.pointer o1, .int .u64 h2, .int .i64 a0]) (by rw [cachetteref03_Oracle_is.eq]; exact h)

def cachetteref03_Oracle_is.N (o1 : Option Addr) (h2 : Int) (a8 : Int) (R : Value → World → Prop) (w : World) : Prop :=
 ∀ (al : World) (p5 : Nat), Ext no w al → Priv w al [p5] →
 Calls Try.prog 46 #[.pointer o1, .int .u64 h2] al fun ar a6 => ∃ (a0 : Int), ar = .returned (.int .i64 a0) ∧
 Keep [p5] al a6 ∧
 (a0 < 0 →
 ∀ (ab : World), Ext (fun b => b = p5) a6 ab →
 R (.tuple #[.agg #[.int .u64 0, .int .i64 0, .slice none 0 0, .slice none 0 0, .int .u64 0, .int .u64 0], .bool false]) ab) ∧
 ((0 : Int) ≤ a0 →
 ∃ an : Addr, o1 = some an ∧
 ∃ (af : Option Addr) (ah : Nat) (am : Nat), a6.cell? (an.add 1) = some (.slice af ah am) ∧
 ∃ ap : Addr, af = some ap ∧
 0 ≤ (a0 : Int) ∧ (a0 : Int) < (ah : Int) ∧
 ∃ (a1 : Int), a6.cell? ((ap.add (Int.toNat a0 * 6)).add 1) = some (.int .i64 a1) ∧
 (a1 ≠ a8 →
 ∀ (aj : World), Ext (fun b => b = p5) a6 aj →
 R (.tuple #[.agg #[.int .u64 0, .int .i64 0, .slice none 0 0, .slice none 0 0, .int .u64 0, .int .u64 0], .bool false]) aj) ∧
 (a1 = a8 →
 ∃ (ai : Option Addr) (ak : Nat) (ao : Nat), a6.cell? (an.add 1) = some (.slice ai ak ao) ∧
 ∃ aq : Addr, ai = some aq ∧
 0 ≤ (a0 : Int) ∧ (a0 : Int) < (ak : Int) ∧
 ∃ (ag : Int) (a2 : Int) (a3 : Option Addr) (aa : Nat) (a9 : Nat) (a4 : Option Addr) (a7 : Nat) (a5 : Nat) (ac : Int) (ad : Int), cellsAt a6 (aq.add (Int.toNat a0 * 6)) [.int .u64 ag, .int .i64 a2, .slice a3 aa a9, .slice a4 a7 a5, .int .u64 ac, .int .u64 ad] 0 ∧
 ∀ (ae : World), Ext (fun b => b = p5) a6 ae →
 R (.tuple #[.agg #[.int .u64 ag, .int .i64 a2, .slice a3 aa a9, .slice a4 a7 a5, .int .u64 ac, .int .u64 ad], .bool true]) ae))

theorem cachetteref03_Oracle_is.up (o1 : Option Addr) (h2 : Int) (ab : Int) {R : Value → World → Prop} {w : World} (h : cachetteref03_Oracle_is.N o1 h2 ab R w) : cachetteref03_Oracle_is.M o1 h2 ab R w := by
  unfold cachetteref03_Oracle_is.M
  unfold cachetteref03_Oracle_is.N at h
  refine thenW_in fun ck e4 => ?_
  have a0 := Blk.of_new e4
  have cm := ((Ext.refl no w)).size
  have cl := (Ext.refl no w).x_alloc e4
  have h := h ck (w.heap.size) cl (Priv.cons cm a0.lt Priv.nil)
  refine h.mono fun cp a9 h => ?_
  obtain ⟨al, he, hk, h⟩ := h
  refine ⟨al, he, ?_⟩
  have a0 := hk.blk a0 (by simp)
  refine bif_of (fun c9 => ?_) (fun c9 => ?_)
  · have h := h.1 (of_decide_eq_true c9)
    have bs : Ext (fun b => b = w.heap.size) a9 a9 := ((Ext.refl no a9)).none
    refine ⟨a0.cani 0 rfl rfl, thenW_in fun bt ce => ?_⟩
    have bj := bs.x_set (q := w.heap.size) (i := 0) rfl (.inl rfl) ce
    have a0 : Blk bt w.heap.size 80 [.int .u64 0, .int .i64 0, .slice none 0 0, .slice none 0 0, .int .u64 0, .int .u64 0] := a0.seti 0 rfl ce
    refine ⟨a0.cani 1 rfl rfl, thenW_in fun b2 c5 => ?_⟩
    have aj := bj.x_set (q := w.heap.size) (i := 1) rfl (.inl rfl) c5
    have a0 : Blk b2 w.heap.size 80 [.int .u64 0, .int .i64 0, .slice none 0 0, .slice none 0 0, .int .u64 0, .int .u64 0] := a0.seti 1 rfl c5
    refine ⟨a0.cani 2 rfl rfl, thenW_in fun ak c7 => ?_⟩
    have ao := aj.x_set (q := w.heap.size) (i := 2) rfl (.inl rfl) c7
    have a0 : Blk ak w.heap.size 80 [.int .u64 0, .int .i64 0, .slice none 0 0, .slice none 0 0, .int .u64 0, .int .u64 0] := a0.seti 2 rfl c7
    refine ⟨a0.cani 3 rfl rfl, thenW_in fun bn ch => ?_⟩
    have b7 := ao.x_set (q := w.heap.size) (i := 3) rfl (.inl rfl) ch
    have a0 : Blk bn w.heap.size 80 [.int .u64 0, .int .i64 0, .slice none 0 0, .slice none 0 0, .int .u64 0, .int .u64 0] := a0.seti 3 rfl ch
    refine ⟨a0.cani 4 rfl rfl, thenW_in fun ar cg => ?_⟩
    have bf := b7.x_set (q := w.heap.size) (i := 4) rfl (.inl rfl) cg
    have a0 : Blk ar w.heap.size 80 [.int .u64 0, .int .i64 0, .slice none 0 0, .slice none 0 0, .int .u64 0, .int .u64 0] := a0.seti 4 rfl cg
    refine ⟨a0.cani 5 rfl rfl, thenW_in fun af cf => ?_⟩
    have an := bf.x_set (q := w.heap.size) (i := 5) rfl (.inl rfl) cf
    have a0 : Blk af w.heap.size 80 [.int .u64 0, .int .i64 0, .slice none 0 0, .slice none 0 0, .int .u64 0, .int .u64 0] := a0.seti 5 rfl cf
    refine ⟨0, 0, none, 0, 0, none, 0, 0, 0, 0, ⟨a0.celli 0 rfl rfl, a0.celli 1 rfl rfl, a0.celli 2 rfl rfl, a0.celli 3 rfl rfl, a0.celli 4 rfl rfl, a0.celli 5 rfl rfl, trivial⟩, ?_⟩
    have h := h af an
    exact h
  · have h := h.2 (Int.not_lt.1 (of_decide_eq_false c9))
    obtain ⟨cq, ah, h⟩ := h
    refine elim_some ah ?_
    obtain ⟨bc, bv, bp, b6, h⟩ := h
    refine ⟨bc, bv, bp, b6, ?_⟩
    obtain ⟨co, b1, h⟩ := h
    refine elim_some b1 ?_
    obtain ⟨bb, az, h⟩ := h
    refine ⟨bb, az, ?_⟩
    obtain ⟨ad, bu, h⟩ := h
    refine ⟨ad, bu, ?_⟩
    refine bif_of (fun ay => ?_) (fun ay => ?_)
    · have h := h.1 (bne_t ay)
      have ax : Ext (fun b => b = w.heap.size) a9 a9 := ((Ext.refl no a9)).none
      refine ⟨a0.cani 0 rfl rfl, thenW_in fun bh ca => ?_⟩
      have au := ax.x_set (q := w.heap.size) (i := 0) rfl (.inl rfl) ca
      have a0 : Blk bh w.heap.size 80 [.int .u64 0, .int .i64 0, .slice none 0 0, .slice none 0 0, .int .u64 0, .int .u64 0] := a0.seti 0 rfl ca
      refine ⟨a0.cani 1 rfl rfl, thenW_in fun bx cc => ?_⟩
      have am := au.x_set (q := w.heap.size) (i := 1) rfl (.inl rfl) cc
      have a0 : Blk bx w.heap.size 80 [.int .u64 0, .int .i64 0, .slice none 0 0, .slice none 0 0, .int .u64 0, .int .u64 0] := a0.seti 1 rfl cc
      refine ⟨a0.cani 2 rfl rfl, thenW_in fun ai c2 => ?_⟩
      have av := am.x_set (q := w.heap.size) (i := 2) rfl (.inl rfl) c2
      have a0 : Blk ai w.heap.size 80 [.int .u64 0, .int .i64 0, .slice none 0 0, .slice none 0 0, .int .u64 0, .int .u64 0] := a0.seti 2 rfl c2
      refine ⟨a0.cani 3 rfl rfl, thenW_in fun ap cj => ?_⟩
      have bq := av.x_set (q := w.heap.size) (i := 3) rfl (.inl rfl) cj
      have a0 : Blk ap w.heap.size 80 [.int .u64 0, .int .i64 0, .slice none 0 0, .slice none 0 0, .int .u64 0, .int .u64 0] := a0.seti 3 rfl cj
      refine ⟨a0.cani 4 rfl rfl, thenW_in fun b8 c8 => ?_⟩
      have b3 := bq.x_set (q := w.heap.size) (i := 4) rfl (.inl rfl) c8
      have a0 : Blk b8 w.heap.size 80 [.int .u64 0, .int .i64 0, .slice none 0 0, .slice none 0 0, .int .u64 0, .int .u64 0] := a0.seti 4 rfl c8
      refine ⟨a0.cani 5 rfl rfl, thenW_in fun ae cb => ?_⟩
      have bg := b3.x_set (q := w.heap.size) (i := 5) rfl (.inl rfl) cb
      have a0 : Blk ae w.heap.size 80 [.int .u64 0, .int .i64 0, .slice none 0 0, .slice none 0 0, .int .u64 0, .int .u64 0] := a0.seti 5 rfl cb
      refine ⟨0, 0, none, 0, 0, none, 0, 0, 0, 0, ⟨a0.celli 0 rfl rfl, a0.celli 1 rfl rfl, a0.celli 2 rfl rfl, a0.celli 3 rfl rfl, a0.celli 4 rfl rfl, a0.celli 5 rfl rfl, trivial⟩, ?_⟩
      have h := h ae bg
      exact h
    · have h := h.2 (bne_f ay)
      refine elim_some ah ?_
      obtain ⟨bi, aq, be, aw, h⟩ := h
      refine ⟨bi, aq, be, aw, ?_⟩
      obtain ⟨cn, bo, h⟩ := h
      refine elim_some bo ?_
      obtain ⟨bb, az, h⟩ := h
      refine ⟨bb, az, ?_⟩
      obtain ⟨a8, a1, a3, a4, a2, a5, a7, a6, aa, ac, bk, h⟩ := h
      refine ⟨a8, a1, a3, a4, a2, a5, a7, a6, aa, ac, bk, ?_⟩
      have c0 : Ext (fun b => b = w.heap.size) a9 a9 := ((Ext.refl no a9)).none
      refine ⟨a0.cani 0 rfl rfl, thenW_in fun b4 c1 => ?_⟩
      have br := c0.x_set (q := w.heap.size) (i := 0) rfl (.inl rfl) c1
      have a0 : Blk b4 w.heap.size 80 [.int .u64 a8, .int .i64 0, .slice none 0 0, .slice none 0 0, .int .u64 0, .int .u64 0] := a0.seti 0 rfl c1
      refine ⟨a0.cani 1 rfl rfl, thenW_in fun b0 c3 => ?_⟩
      have bw := br.x_set (q := w.heap.size) (i := 1) rfl (.inl rfl) c3
      have a0 : Blk b0 w.heap.size 80 [.int .u64 a8, .int .i64 a1, .slice none 0 0, .slice none 0 0, .int .u64 0, .int .u64 0] := a0.seti 1 rfl c3
      refine ⟨a0.cani 2 rfl rfl, thenW_in fun bm cd => ?_⟩
      have ba := bw.x_set (q := w.heap.size) (i := 2) rfl (.inl rfl) cd
      have a0 : Blk bm w.heap.size 80 [.int .u64 a8, .int .i64 a1, .slice a3 a4 a2, .slice none 0 0, .int .u64 0, .int .u64 0] := a0.seti 2 rfl cd
      refine ⟨a0.cani 3 rfl rfl, thenW_in fun bz ci => ?_⟩
      have b9 := ba.x_set (q := w.heap.size) (i := 3) rfl (.inl rfl) ci
      have a0 : Blk bz w.heap.size 80 [.int .u64 a8, .int .i64 a1, .slice a3 a4 a2, .slice a5 a7 a6, .int .u64 0, .int .u64 0] := a0.seti 3 rfl ci
      refine ⟨a0.cani 4 rfl rfl, thenW_in fun b5 c6 => ?_⟩
      have bl := b9.x_set (q := w.heap.size) (i := 4) rfl (.inl rfl) c6
      have a0 : Blk b5 w.heap.size 80 [.int .u64 a8, .int .i64 a1, .slice a3 a4 a2, .slice a5 a7 a6, .int .u64 aa, .int .u64 0] := a0.seti 4 rfl c6
      refine ⟨a0.cani 5 rfl rfl, thenW_in fun ag c4 => ?_⟩
      have bd := bl.x_set (q := w.heap.size) (i := 5) rfl (.inl rfl) c4
      have a0 : Blk ag w.heap.size 80 [.int .u64 a8, .int .i64 a1, .slice a3 a4 a2, .slice a5 a7 a6, .int .u64 aa, .int .u64 ac] := a0.seti 5 rfl c4
      refine ⟨a8, a1, a3, a4, a2, a5, a7, a6, aa, ac, ⟨a0.celli 0 rfl rfl, a0.celli 1 rfl rfl, a0.celli 2 rfl rfl, a0.celli 3 rfl rfl, a0.celli 4 rfl rfl, a0.celli 5 rfl rfl, trivial⟩, ?_⟩
      have h := h ag bd
      exact h

theorem cachetteref03_Oracle_is.go (o1 : Option Addr) (h2 : Int) (a0 : Int) {R : Value → World → Prop} {w : World} (h : cachetteref03_Oracle_is.N o1 h2 a0 R w) : Calls Try.prog 75 #[.pointer o1, .int .u64 h2, .int .i64 a0] w fun e w' => ∃ v, e = .returned v ∧ R v w' := cachetteref03_Oracle_is.ok o1 h2 a0 (cachetteref03_Oracle_is.up o1 h2 a0 h)
theorem inf80 : (Try.prog.info? 80).map (fun i => (i.zero, i.size, i.bytes)) = some (some (.agg #[.int .u64 0, .int .i64 0, .slice none 0 0, .slice none 0 0, .int .u64 0, .int .u64 0]), 6, 80) := by kernel_rfl
/-- a row. -/
structure RRow where
  h : Int
  kind : Int
  A : List UInt8
  B : List UInt8
  n : Int
  m : Int
/-- a row, and where its bytes lie. -/
structure PR where
  r : RRow
  aA : Option Addr
  cA : Nat
  aB : Option Addr
  cB : Nat
def PR.C (x : PR) : List Value := [.int .u64 x.r.h, .int .i64 x.r.kind, .slice x.aA x.r.A.length x.cA, .slice x.aB x.r.B.length x.cB, .int .u64 x.r.n, .int .u64 x.r.m]
def PR.ok (w : World) (o : Own) (x : PR) : Prop := Row w o x.aA (bytesV x.r.A) ∧ Row w o x.aB (bytesV x.r.B) ∧ x.r.A.length ≤ x.cA ∧ x.r.B.length ≤ x.cB
def PR.Cs (R : List PR) : List Value := R.flatMap PR.C
structure ROrcP (w : World) (o : Own) (k : Nat) (d : List Int) (R : List PR) : Prop where
  tk : o k = some k
  at_ : ∃ da dc la lc, Blk w k 31 [.slice da d.length dc, .slice la R.length lc] ∧ d.length ≤ dc ∧ Row w o da (d.map u64V) ∧ Grows 80 6 w o k la R.length lc (PR.Cs R) ∧ (∀ ad, la = some ad → ad.block ≠ k)
  rows : ∀ x ∈ R, x.ok w o
def ROrc (w : World) (o : Own) (k : Nat) (d : List Int) (L : List RRow) : Prop := ∃ R, L = R.map PR.r ∧ ROrcP w o k d R
theorem PR.Cs_length (R : List PR) : (PR.Cs R).length = R.length * 6 := by
  induction R with
  | nil => rfl
  | cons x r ih => simp only [PR.Cs, List.flatMap_cons, List.length_append, List.length_cons] at ih ⊢; rw [ih]; simp [PR.C]; omega
theorem PR.Cs_get : ∀ {R : List PR} {i : Nat} {x : PR}, R[i]? = some x → ∀ j, j < 6 → (PR.Cs R)[i * 6 + j]? = x.C[j]?
  | [], i, x, hi, j, hj => by simp at hi
  | a :: r, 0, x, hi, j, hj => by
    simp only [List.getElem?_cons_zero, Option.some.injEq] at hi
    subst hi
    simp only [PR.Cs, List.flatMap_cons, Nat.zero_mul, Nat.zero_add]
    rw [List.getElem?_append_left (by simp [PR.C]; omega)]
  | a :: r, i + 1, x, hi, j, hj => by
    simp only [List.getElem?_cons_succ] at hi
    have := PR.Cs_get hi j hj
    simp only [PR.Cs, List.flatMap_cons] at this ⊢
    rw [List.getElem?_append_right (by simp [PR.C]; omega), show (i + 1) * 6 + j - a.C.length = i * 6 + j by simp [PR.C]; omega]
    exact this
theorem PR.one (x : PR) : ∀ u ∈ x.C, u.oneCell' = true := fun u hu => by
  simp only [PR.C, List.mem_cons, List.not_mem_nil, or_false] at hu
  rcases hu with rfl | rfl | rfl | rfl | rfl | rfl <;> rfl
section
variable {w w' : World} {o o' : Own} {k : Nat} {K : Nat → Prop} {d : List Int} {R : List PR} {L : List RRow}
theorem PR.ok.step {x : PR} (h : x.ok w o) (s : Step K w o w' o') : x.ok w' o' := ⟨h.1.step s, h.2.1.step s, h.2.2⟩
theorem ROrcP.lt (h : ROrcP w o k d R) : k < w.heap.size := by obtain ⟨da, dc, la, lc, hb, _⟩ := h.at_; exact hb.lt
theorem ROrcP.step (h : ROrcP w o k d R) (s : Step K w o w' o') (hk : ¬ K k) : ROrcP w' o' k d R := by
  obtain ⟨da, dc, la, lc, h1, h2, h3, h4, h5⟩ := h.at_
  exact ⟨by rw [s.own h.lt]; exact h.tk, ⟨da, dc, la, lc, s.blk h1 h.tk hk, h2, h3.step s, h4.step s hk, h5⟩, fun x hx => (h.rows x hx).step s⟩
theorem ROrc.step (h : ROrc w o k d L) (s : Step K w o w' o') (hk : ¬ K k) : ROrc w' o' k d L := by
  obtain ⟨R, h1, h2⟩ := h; exact ⟨R, h1, h2.step s hk⟩
theorem ROrc.lt (h : ROrc w o k d L) : k < w.heap.size := by obtain ⟨R, _, h⟩ := h; exact h.lt
theorem ROrc.own (h : ROrc w o k d L) : o k = some k := by obtain ⟨R, _, h⟩ := h; exact h.tk
/-- where a handle stands. -/
def atI (L : List RRow) (h : Int) : Int := match L.findIdx? (fun r => r.h == h) with | some i => i | none => -1
theorem row_cell {la : Option Addr} {ad : Addr} (hr : RowAt w la (PR.Cs R)) (ha : la = some ad) {i : Nat} {x : PR} (hi : R[i]? = some x) {j : Nat} {v : Value} (hv : x.C[j]? = some v) : w.cell? ((ad.add (i * 6)).add j) = some v := by
  have hj : j < 6 := by have := (List.getElem?_eq_some_iff.1 hv).1; simpa [PR.C] using this
  subst ha
  rw [add_add]
  exact hr.at_ ((PR.Cs_get hi j hj).trans hv)
theorem Cs_ne (h : R ≠ []) : PR.Cs R ≠ [] := fun e => by
  have := PR.Cs_length R
  rw [e] at this
  simp at this
  exact h (List.eq_nil_of_length_eq_zero (by omega))
theorem at_spec (h : ROrcP w o k d R) (hl : R.length < 1000000) (x : Int) :
    Calls Try.prog 46 #[.pointer (some (blk k)), .int .u64 x] w (Ret (.int .i64 (atI (R.map PR.r) x)) fun w' => w' = w) := by
  refine cachetteref03_Oracle_at.run _ _ ?_
  unfold cachetteref03_Oracle_at.N
  obtain ⟨da, dc, la, lc, h1, h2, h3, h4, h5⟩ := h.at_
  refine ⟨fun q vs w1 => ∃ t : Nat, vs = [.int .i64 t] ∧ q + t = R.length ∧ (∀ y ∈ R.take t, y.r.h ≠ x) ∧ w1 = w, R.length, ⟨0, rfl, rfl, by simp, rfl⟩, ?_⟩
  rintro q w1 i ⟨t, hi, hq, hn, rfl⟩
  simp only [List.cons.injEq, Value.int.injEq, true_and, and_true] at hi
  subst hi
  refine ⟨_, rfl, la, R.length, lc, h1.cella (i := 1) rfl, fun ht => ?_, fun ht => ?_⟩
  · have htl : t < R.length := by omega
    have hne : R ≠ [] := by intro e; subst e; simp at htl
    obtain ⟨ad, ha⟩ := h4.row.addr (Cs_ne hne)
    have hg : R[t]? = some R[t] := List.getElem?_eq_getElem htl
    refine ⟨la, R.length, lc, h1.cella (i := 1) rfl, ad, ha, by omega, by omega, R[t].r.h, by rw [Int.toNat_natCast]; exact row_cell h4.row ha hg (j := 0) rfl, fun he => ?_, fun he => ?_⟩
    · refine ⟨?_, rfl⟩
      have : (R.map PR.r).findIdx? (fun r => r.h == x) = some t := by
        rw [List.findIdx?_eq_some_iff_getElem]
        refine ⟨by simpa using htl, by simpa using he, fun j hj => ?_⟩
        have := hn R[j] (List.mem_take_iff_getElem.2 ⟨j, by omega, rfl⟩)
        simpa using this
      unfold atI
      rw [this]
    · refine ⟨by omega, by omega, q - 1, by omega, t + 1, rfl, by omega, fun y hy => ?_, rfl⟩
      rw [List.take_add_one, hg] at hy
      rcases List.mem_append.1 hy with hy | hy
      · exact hn y hy
      · simp at hy; rw [hy]; exact he
  · obtain rfl : t = R.length := by omega
    rw [List.take_length] at hn
    refine ⟨?_, rfl⟩
    have : (R.map PR.r).findIdx? (fun r => r.h == x) = none := by
      rw [List.findIdx?_eq_none_iff]
      intro r hr
      obtain ⟨y, hy, rfl⟩ := List.mem_map.1 hr
      simpa using hn y hy
    unfold atI
    rw [this]
theorem atI_mem (L : List RRow) (x : Int) : 0 ≤ atI L x ↔ x ∈ L.map RRow.h := by
  unfold atI
  cases h : L.findIdx? (fun r => r.h == x) with
  | some i =>
    rw [List.findIdx?_eq_some_iff_getElem] at h
    obtain ⟨h1, h2, _⟩ := h
    simp only [Int.natCast_nonneg, true_iff]
    exact List.mem_map.2 ⟨L[i], List.getElem_mem h1, by simpa using h2⟩
  | none =>
    rw [List.findIdx?_eq_none_iff] at h
    constructor
    · intro h; exact absurd h (by show ¬ (0 : Int) ≤ -1; decide)
    · intro hm
      obtain ⟨r, hr, rfl⟩ := List.mem_map.1 hm
      have := h r hr
      simp at this
/-- a fresh handle, and the draws that are left. -/
def freshR (d used : List Int) : Int × List Int := match pickD d used with | some q => q | none => (pickN used (used.length + 1) 1, [])
/-- what is left of put, once the handle is found. -/
def putTail (RR : Value → World → Prop) (w : World) (p : Nat) (a : Addr) (h kind : Int) (aA : Option Addr) (nA cA : Nat) (aB : Option Addr) (nB cB : Nat) (n m : Int) : Prop :=
  ∀ (w67 : World), Ext (fun b => b = p) w w67 →
  ∃ (La : Option Addr) (Ln : Nat) (Lc : Nat), w67.cell? (a.add 1) = some (.slice La Ln Lc) ∧
  ∀ (w70 : World) (q : Nat), Ext no w67 w70 → Blk w70 q 80 [.int .u64 h, .int .i64 kind, .slice aA nA cA, .slice aB nB cB, .int .u64 n, .int .u64 m] → w67.heap.size ≤ q → q < w70.heap.size →
  w70.cell? (a.add 1) = some (.slice La Ln Lc) ∧
  ∃ (a73a : Option Addr) (a73n : Nat) (a73c : Nat) (w74 : World), (Builtin.append_ #[29, 29] 29 #[.slice La Ln Lc, .slice (some (blk q)) 1 1]).run Try.prog w70 = .ok (.slice a73a a73n a73c) w74 ∧
  canStore w74 ((a.add 1).add 0) ∧
  thenW (w74.setCell ((a.add 1).add 0) (.slice a73a a73n a73c)) fun w75 =>
  RR (.int .u64 h) w75
theorem tail_ok {w0 : World} {o0 : Own} {p : Nat} (h : ROrcP w o k d R) (s : Step (fun j => j = k) w0 o0 w o) (hl : R.length < 1000000) (hp : w0.heap.size ≤ p) (hp' : o p = some p) (hpk : p ≠ k) (x : PR) (hx : x.ok w o) :
    putTail (fun v w' => ∃ o', v = .int .u64 x.r.h ∧ Step (fun j => j = k) w0 o0 w' o' ∧ ROrc w' o' k d (R.map PR.r ++ [x.r])) w p (blk k) x.r.h x.r.kind x.aA x.r.A.length x.cA x.aB x.r.B.length x.cB x.r.n x.r.m := by
  intro w67 X67
  obtain ⟨o67, s67⟩ := Step.store1 X67 s.ok hp'
  have h67 := h.step s67 (fun e => hpk e.symm)
  have s067 := s.trans' s67 fun j hj => .inr (by omega)
  have hx67 := hx.step s67
  obtain ⟨da, dc, la, lc, h1, h2, h3, h4, h5⟩ := h67.at_
  refine ⟨la, R.length, lc, h1.cella (i := 1) rfl, fun w70 q X70 hq hq1 hq2 => ?_⟩
  have s70 := Step.of_no X70 s067.ok
  have h70 := h67.step s70 id
  have s070 := s067.trans s70.none
  have hx70 := hx67.step s70
  obtain ⟨i, hi, hz, hsz, hby⟩ := info_of inf80
  have hb70 := s70.blk h1 h67.tk id
  obtain ⟨a', c', w74, o74, hr, s74, g74, hkeep, hblk⟩ := (h4.step s70 id).push (ty := 29) Try.underlying29 hi hz hsz hby rfl (by decide) s070.ok h70.lt (xa := some (blk q)) (m := 1) (xc := 1) (news := x.C) rfl (RowAt.of_blk hq) x.one (by omega) (by omega)
  have hb74 : Blk w74 k 31 [.slice da d.length dc, .slice la R.length lc] := by
    unfold Blk at hb70 ⊢
    rw [hkeep k h70.lt fun ad ha e => h5 ad ha e.symm]; exact hb70
  have s074 := s070.trans s74
  refine ⟨hb70.cella (i := 1) rfl, a', _, c', w74, hr, hb74.cana (i := 1) rfl, thenW_in fun w75 e75 => ?_⟩
  have X75 : Ext (fun b => b = k) w74 w75 := (Ext.refl (fun b => b = k) w74).x_set (q := k) (i := 1) rfl (.inl rfl) e75
  have tk74 : o74 k = some k := (s74.own h70.lt).trans h70.tk
  obtain ⟨o75, s75⟩ := Step.store1 X75 s74.ok tk74
  have hk74 : k < w74.heap.size := Nat.lt_of_lt_of_le h70.lt s74.size
  have hne : ∀ ad, a' = some ad → ad.block ≠ k := fun ad ha e => by
    rcases hblk ad ha with ⟨b, hb1, hb2⟩ | hq
    · exact h5 b hb1 (by omega)
    · have := h70.lt; omega
  refine ⟨o75, rfl, s074.trans s75, R ++ [x], by simp, ⟨(s75.own hk74).trans tk74, ⟨da, dc, a', c', ?_, h2, ((h3.step s70).step s74).step s75, ?_, hne⟩, fun y hy => ?_⟩⟩
  · have := hb74.seti 1 rfl e75
    rw [List.length_append]; exact this
  · have := g74.keep X75 (fun ad ha => hne ad ha) (o' := o75) fun b hb => s75.own hb
    rw [List.length_append, show PR.Cs (R ++ [x]) = PR.Cs R ++ x.C by simp [PR.Cs]]; exact this
  · rcases List.mem_append.1 hy with hy | hy
    · exact ((h70.rows y hy).step s74).step s75
    · simp at hy; subst hy; exact (hx70.step s74).step s75
/-- the counter of put. -/
def putLoop (RR : Value → World → Prop) (w : World) (p : Nat) (op : Option Addr) (a : Addr) (rh kind : Int) (aA : Option Addr) (nA cA : Nat) (aB : Option Addr) (nB cB : Nat) (n m : Int) : Prop :=
  ∃ (I2 : Nat → List Value → World → Prop) (m58 : Nat), I2 m58 [.int .u64 1, .int .u64 rh, .int .i64 kind, .slice aA nA cA, .slice aB nB cB, .int .u64 n, .int .u64 m] w ∧ ∀ (m59 : Nat) (ww60 : World) (h51 : Int) (H52 : Int) (Kind53 : Int) (A54a : Option Addr) (A54n : Nat) (A54c : Nat) (B55a : Option Addr) (B55n : Nat) (B55c : Nat) (N56 : Int) (M57 : Int), I2 m59 [.int .u64 h51, .int .u64 H52, .int .i64 Kind53, .slice A54a A54n A54c, .slice B55a B55n B55c, .int .u64 N56, .int .u64 M57] ww60 →
    Calls Try.prog 46 #[.pointer op, .int .u64 h51] ww60 fun ee62 ww63 => ∃ (atv61 : Int), ee62 = .returned (.int .i64 atv61) ∧
    Keep [p] ww60 ww63 ∧
    (atv61 ≥ 0 →
      ∃ m65, m65 < m59 ∧ I2 m65 [.int .u64 (IntKind.u64.wrap (h51 + 1)), .int .u64 H52, .int .i64 Kind53, .slice A54a A54n A54c, .slice B55a B55n B55c, .int .u64 N56, .int .u64 M57] ww63) ∧
    (atv61 < 0 → putTail RR ww63 p a h51 Kind53 A54a A54n A54c B55a B55n B55c N56 M57)
theorem loop_ok {w0 : World} {o0 : Own} {p : Nat} (h : ROrcP w o k d R) (s : Step (fun j => j = k) w0 o0 w o) (hl : R.length < 1000000) (hp : w0.heap.size ≤ p) (hp' : o p = some p) (hpk : p ≠ k) (x : PR) (hx : x.ok w o) :
    putLoop (fun v w' => ∃ o', v = .int .u64 (pickN (R.map fun y => y.r.h) (R.length + 1) 1) ∧ Step (fun j => j = k) w0 o0 w' o' ∧ ROrc w' o' k d (R.map PR.r ++ [{ x.r with h := pickN (R.map fun y => y.r.h) (R.length + 1) 1 }])) w p (some (blk k)) (blk k) x.r.h x.r.kind x.aA x.r.A.length x.cA x.aB x.r.B.length x.cB x.r.n x.r.m := by
  obtain ⟨a1, a2, a3, a4, a5⟩ := pickN_spec (R.map fun y => y.r.h) (R.length + 1) 1 (Int.le_refl _) (gap _ _ _ (by simp))
  generalize pickN (R.map fun y => y.r.h) (R.length + 1) 1 = z at *
  refine ⟨fun q vs w1 => ∃ t : Int, 1 ≤ t ∧ t ≤ z ∧ q = (z - t).toNat ∧ vs = [.int .u64 t, .int .u64 x.r.h, .int .i64 x.r.kind, .slice x.aA x.r.A.length x.cA, .slice x.aB x.r.B.length x.cB, .int .u64 x.r.n, .int .u64 x.r.m] ∧ w1 = w, (z - 1).toNat, ⟨1, Int.le_refl _, a1, rfl, rfl, rfl⟩, ?_⟩
  rintro q w1 t H Kd Aa An Ac Ba Bn Bc Nn Mm ⟨t', ht1, ht2, rfl, hvs, rfl⟩
  simp only [List.cons.injEq, Value.int.injEq, Value.slice.injEq, true_and, and_true] at hvs
  obtain ⟨rfl, rfl, rfl, ⟨rfl, rfl, rfl⟩, ⟨rfl, rfl, rfl⟩, rfl, rfl⟩ := hvs
  refine (at_spec h hl t).mono fun e w63 ⟨he, hw⟩ => ⟨_, he, by subst hw; exact Keep.refl _ _, fun hat => ?_, fun hat => ?_⟩
  · subst hw
    have hm := (atI_mem _ _).1 hat
    rw [List.map_map] at hm
    have hne : t ≠ z := fun e => by subst e; exact a3 hm
    refine ⟨(z - (t + 1)).toNat, by omega, t + 1, by omega, by omega, rfl, ?_, rfl⟩
    rw [wu64 (by omega) (by omega)]
  · subst hw
    have hm : ¬ t ∈ R.map fun y => y.r.h := fun e => by
      have := (atI_mem (R.map PR.r) t).2 (by rw [List.map_map]; exact e)
      omega
    have : t = z := Decidable.byContradiction fun hne => hm (a5 t ht1 (by omega))
    subst this
    exact tail_ok h s hl hp hp' hpk { x with r := { x.r with h := t } } hx
def putR (d : List Int) (L : List RRow) (r : RRow) : Int × List Int × List RRow :=
  ((freshR d (L.map RRow.h)).1, (freshR d (L.map RRow.h)).2, L ++ [{ r with h := (freshR d (L.map RRow.h)).1 }])
/-- the handle at hand, and the draws behind it. -/
def pend (h : Int) (d used : List Int) : Option (Int × List Int) := if h ≠ 0 ∧ h ∉ used then some (h, d) else pickD d used
theorem put_spec (h : ROrc w o k d L) (ok : Tags w o) (hd : ∀ x ∈ d, 0 ≤ x ∧ x < 18446744073709551616) (hl : L.length < 1000000) (x : PR) (hx : x.ok w o) :
    Calls Try.prog 28 #[.pointer (some (blk k)), .agg #[.int .u64 x.r.h, .int .i64 x.r.kind, .slice x.aA x.r.A.length x.cA, .slice x.aB x.r.B.length x.cB, .int .u64 x.r.n, .int .u64 x.r.m]] w
      (Gs (fun j => j = k) w o (.int .u64 (putR d L x.r).1) fun w' o' => ROrc w' o' k (putR d L x.r).2.1 (putR d L x.r).2.2) := by
  obtain ⟨R, rfl, h⟩ := h
  rw [List.length_map] at hl
  refine (cachetteref03_Oracle_put.go _ _ _ _ _ _ _ _ _ _ _ (R := fun v w' => ∃ o', v = .int .u64 (putR d (R.map PR.r) x.r).1 ∧ Step (fun j => j = k) w o w' o' ∧ ROrc w' o' k (putR d (R.map PR.r) x.r).2.1 (putR d (R.map PR.r) x.r).2.2) ?_).mono fun e w' ⟨v, he, o', hv, hw⟩ => ⟨o', by rw [he, hv], hw⟩
  unfold cachetteref03_Oracle_put.N
  intro w8 p9 X8 hp
  obtain ⟨o8, s8, tp8⟩ := Step.priv1 X8 hp ok
  have hp := hp.one
  have hkl := h.lt
  have hpk : p9 ≠ k := by omega
  have hU : (R.map PR.r).map RRow.h = R.map fun y => y.r.h := by rw [List.map_map]; rfl
  refine ⟨fun q vs w1 => ∃ (t : Int) (d1 : List Int) (o1 : Own), vs = [.int .u64 t, .int .u64 x.r.h, .int .i64 x.r.kind, .slice x.aA x.r.A.length x.cA, .slice x.aB x.r.B.length x.cB, .int .u64 x.r.n, .int .u64 x.r.m] ∧ q = d1.length ∧ pend t d1 (R.map fun y => y.r.h) = pickD d (R.map fun y => y.r.h) ∧ (∀ y ∈ d1, 0 ≤ y ∧ y < 18446744073709551616) ∧
      Step (fun j => j = k) w o w1 o1 ∧ ROrcP w1 o1 k d1 R ∧ o1 p9 = some p9 ∧ p9 < w1.heap.size, d.length, ⟨0, d, o8, rfl, rfl, by unfold pend; rw [if_neg (fun h => h.1 rfl)], hd, s8.none, h.step s8 id, tp8, hp.2⟩, ?_⟩
  rintro q w1 t H Kd Aa An Ac Ba Bn Bc Nn Mm ⟨t', d1, o1, hvs, rfl, hpd, hd1, s1, h1, tp1, lp1⟩
  simp only [List.cons.injEq, Value.int.injEq, Value.slice.injEq, true_and, and_true] at hvs
  obtain ⟨rfl, rfl, rfl, ⟨rfl, rfl, rfl⟩, ⟨rfl, rfl, rfl⟩, rfl, rfl⟩ := hvs
  have hx1 := hx.step s1
  obtain ⟨da, dc, la, lc, b1, b2, b3, b4, b5⟩ := id h1.at_
  -- a draw is taken
  have draw : ∀ (y : Int) (r : List Int), d1 = y :: r → ∀ w32, w32 = w1.setCell (((blk k).add 0).add 0) (.slice (cutA da dc 1 1) (d1.length - 1) (dc - 1)) → ∃ o32, Step (fun j => j = k) w o w32 o32 ∧ ROrcP w32 o32 k r R ∧ o32 p9 = some p9 ∧ p9 < w32.heap.size := fun y r hy w32 e32 => by
    subst hy
    have X32 : Ext (fun b => b = k) w1 w32 := (Ext.refl (fun b => b = k) w1).x_set (q := k) (i := 0) rfl (.inl rfl) e32
    obtain ⟨o32, s32⟩ := Step.store1 X32 s1.ok h1.tk
    have hb := b1.seti 0 rfl e32
    refine ⟨o32, s1.trans s32, ⟨(s32.own h1.lt).trans h1.tk, ⟨cutA da dc 1 1, dc - 1, la, lc, hb, by simp at b2; omega, ?_, b4.keep X32 (fun ad ha => b5 ad ha) fun b hb => s32.own hb, b5⟩, fun z hz => (h1.rows z hz).step s32⟩, (s32.own lp1).trans tp1, Nat.lt_of_lt_of_le lp1 s32.size⟩
    have hc := b3.1.cut 1 dc (by rw [List.length_map]; exact b2)
    have e1 : List.drop 1 (List.map u64V (y :: r)) = r.map u64V := rfl
    rw [e1] at hc
    have : Row w1 o1 (cutA da dc 1 1) (r.map u64V) := ⟨hc, fun h0 ad ha => by
      obtain ⟨b, hb, hbb⟩ := cutA_block ha
      rw [← hbb]; exact b3.2 (by simp) b hb⟩
    exact this.step s32
  have hnone : pickD d (R.map fun y => y.r.h) = none → putR d (R.map PR.r) x.r = (pickN (R.map fun y => y.r.h) (R.length + 1) 1, [], R.map PR.r ++ [{ x.r with h := pickN (R.map fun y => y.r.h) (R.length + 1) 1 }]) := fun hn => by
    unfold putR freshR
    rw [hU, hn, List.length_map]
  have hsome : ∀ z r, pickD d (R.map fun y => y.r.h) = some (z, r) → putR d (R.map PR.r) x.r = (z, r, R.map PR.r ++ [{ x.r with h := z }]) := fun z r hn => by
    unfold putR freshR
    rw [hU, hn]
  have hin : ∀ z, 0 ≤ atI (R.map PR.r) z ↔ z ∈ R.map fun y => y.r.h := fun z => by rw [atI_mem, List.map_map]; rfl
  refine ⟨_, rfl, da, d1.length, dc, b1.cella (i := 0) rfl, fun hpos => ⟨fun h0 => ?_, fun h0 => ?_⟩, fun hneg => ⟨fun h0 => ?_, fun h0 => ?_⟩⟩
  · -- none at hand, and draws are left
    subst h0
    cases d1 with
    | nil => simp at hpos
    | cons y r =>
      obtain ⟨ad, ha⟩ := b3.1.addr (by simp)
      have hy := hd1 y (by simp)
      refine ⟨da, _, dc, b1.cella (i := 0) rfl, ad, ha, by omega, y, by subst ha; exact b3.1.at_ (i := 0) rfl, da, _, dc, b1.cella (i := 0) rfl, by simp only [List.length_cons]; omega, b1.cana (i := 0) rfl, fun z hz => by simp at hz; subst hz; exact hpk, thenW_in fun w32 e32 => ?_⟩
      obtain ⟨o32, s32, h32, t32, l32⟩ := draw y r rfl w32 e32
      refine ⟨r.length, by simp, y, r, o32, rfl, rfl, ?_, fun z hz => hd1 z (by simp [hz]), s32, h32, t32, l32⟩
      rw [← hpd, show pend 0 (y :: r) (R.map fun y => y.r.h) = pickD (y :: r) (R.map fun y => y.r.h) from if_neg fun h => h.1 rfl]
      unfold pend
      simp only [pickD]
      by_cases c : y ≠ 0 ∧ y ∉ R.map fun y => y.r.h
      · rw [if_pos c, if_neg (by rintro (h | h); exact c.1 h; exact c.2 h)]
      · rw [if_neg c, if_pos (by by_cases hy0 : y = 0; exact .inl hy0; exact .inr (Decidable.not_not.1 fun h => c ⟨hy0, h⟩))]
  · -- one at hand, and draws are left
    refine (at_spec h1 hl t).mono fun e w36 ⟨he, hw⟩ => ⟨_, he, by subst hw; exact Keep.refl _ _, fun hat => ?_, fun hat => ?_⟩ <;> subst hw
    · have hused := (hin t).1 hat
      cases d1 with
      | nil => simp at hpos
      | cons y r =>
        obtain ⟨ad, ha⟩ := b3.1.addr (by simp)
        refine ⟨da, _, dc, b1.cella (i := 0) rfl, ad, ha, by omega, y, by subst ha; exact b3.1.at_ (i := 0) rfl, da, _, dc, b1.cella (i := 0) rfl, by simp only [List.length_cons]; omega, b1.cana (i := 0) rfl, fun z hz => by simp at hz; subst hz; exact hpk, thenW_in fun w45 e45 => ?_⟩
        obtain ⟨o32, s32, h32, t32, l32⟩ := draw y r rfl w45 e45
        refine ⟨r.length, by simp, y, r, o32, rfl, rfl, ?_, fun z hz => hd1 z (by simp [hz]), s32, h32, t32, l32⟩
        rw [← hpd, show pend t (y :: r) (R.map fun y => y.r.h) = pickD (y :: r) (R.map fun y => y.r.h) from if_neg fun h => h.2 hused]
        unfold pend
        simp only [pickD]
        by_cases c : y ≠ 0 ∧ y ∉ R.map fun y => y.r.h
        · rw [if_pos c, if_neg (by rintro (h | h); exact c.1 h; exact c.2 h)]
        · rw [if_neg c, if_pos (by by_cases hy0 : y = 0; exact .inl hy0; exact .inr (Decidable.not_not.1 fun h => c ⟨hy0, h⟩))]
    · have hfree : t ∉ R.map fun y => y.r.h := fun e => by have := (hin t).2 e; omega
      refine (at_spec h1 hl t).mono fun e w49 ⟨he, hw⟩ => ⟨_, he, by subst hw; exact Keep.refl _ _, fun hat2 => absurd hat2 (by omega), fun _ => ?_⟩
      subst hw
      have : pickD d (R.map fun y => y.r.h) = some (t, d1) := by rw [← hpd]; unfold pend; rw [if_pos ⟨h0, hfree⟩]
      rw [hsome _ _ this]
      exact tail_ok h1 s1 hl hp.1 tp1 hpk { x with r := { x.r with h := t } } hx1
  · -- none at hand, none left
    obtain rfl : d1 = [] := List.eq_nil_of_length_eq_zero (by omega)
    subst h0
    have : pickD d (R.map fun y => y.r.h) = none := by rw [← hpd]; unfold pend; rw [if_neg (fun h => h.1 rfl)]; rfl
    rw [hnone this]
    exact loop_ok h1 s1 hl hp.1 tp1 hpk x hx1
  · -- one at hand, none left
    obtain rfl : d1 = [] := List.eq_nil_of_length_eq_zero (by omega)
    refine (at_spec h1 hl t).mono fun e w36 ⟨he, hw⟩ => ⟨_, he, by subst hw; exact Keep.refl _ _, fun hat => ?_, fun hat => ?_⟩ <;> subst hw
    · have hused := (hin t).1 hat
      have : pickD d (R.map fun y => y.r.h) = none := by rw [← hpd]; unfold pend; rw [if_neg (fun h : t ≠ 0 ∧ t ∉ _ => h.2 hused)]; rfl
      rw [hnone this]
      exact loop_ok h1 s1 hl hp.1 tp1 hpk x hx1
    · have hfree : t ∉ R.map fun y => y.r.h := fun e => by have := (hin t).2 e; omega
      have : pickD d (R.map fun y => y.r.h) = some (t, []) := by rw [← hpd]; unfold pend; rw [if_pos ⟨h0, hfree⟩]
      rw [hsome _ _ this]
      exact tail_ok h1 s1 hl hp.1 tp1 hpk { x with r := { x.r with h := t } } hx1
end
end Go.Proofs.Ytdelmfpchbpafaa

/- The reference's oracle: what its calls answer. -/
set_option linter.unusedVariables false
set_option linter.unusedSimpArgs false
set_option maxRecDepth 20000
namespace Go.Proofs.Ytdelmfpchbpafaa
open Go Go.Mx Go.Proofs
/-- (*cachetteref03.Oracle).Hash -/
def cachetteref03_Oracle_Hash.M (o1 : Option Addr) (an : Option Addr) (ap : Nat) (ao : Nat) (R : Value → World → Prop) (w : World) : Prop :=
 ∃ (I0 : Nat → List Value → World → Prop) (m4 : Nat), I0 m4 [.int .i64 0] w ∧ ∀ (m5 : Nat) (a2 : World) (i3 : Int), I0 m5 [.int .i64 i3] a2 →
 o1.elim False fun a7 =>
 ∃ (av : Option Addr) (au : Nat) (az : Nat), a2.cell? (a7.add 1) = some (.slice av au az) ∧
 bif decide (i3 < (au : Int)) then (
 o1.elim False fun a9 =>
 ∃ (a6 : Option Addr) (aa : Nat) (ah : Nat), a2.cell? (a9.add 1) = some (.slice a6 aa ah) ∧
 a6.elim False fun b1 =>
 0 ≤ (i3 : Int) ∧ (i3 : Int) < (aa : Int) ∧
 ∃ (a0 : Int), a2.cell? ((b1.add (Int.toNat i3 * 6)).add 1) = some (.int .i64 a0) ∧
 bif a0 == 1 then (
 o1.elim False fun ax =>
 ∃ (a5 : Option Addr) (ac : Nat) (ai : Nat), a2.cell? (ax.add 1) = some (.slice a5 ac ai) ∧
 a5.elim False fun ay =>
 0 ≤ (i3 : Int) ∧ (i3 : Int) < (ac : Int) ∧
 ∃ (af : Option Addr) (ad : Nat) (ab : Nat), a2.cell? ((ay.add (Int.toNat i3 * 6)).add 2) = some (.slice af ad ab) ∧
 Calls Try.prog 41 #[.slice af ad ab, .slice an ap ao] a2 fun ag a3 => ∃ (a1 : Bool), ag = .returned (.bool a1) ∧
 bif a1 then (
 o1.elim False fun b0 =>
 ∃ (a8 : Option Addr) (ae : Nat) (aj : Nat), a3.cell? (b0.add 1) = some (.slice a8 ae aj) ∧
 a8.elim False fun aw =>
 0 ≤ (i3 : Int) ∧ (i3 : Int) < (ae : Int) ∧
 ∃ (aq : Int), a3.cell? ((aw.add (Int.toNat i3 * 6)).add 0) = some (.int .u64 aq) ∧
 R (.int .u64 aq) a3) else (
 ∃ ar, ar < m5 ∧ I0 ar [.int .i64 (IntKind.i64.wrap (i3 + 1))] a3)) else (
 ∃ am, am < m5 ∧ I0 am [.int .i64 (IntKind.i64.wrap (i3 + 1))] a2)) else (
 Calls Try.prog 28 #[.pointer o1, .agg #[.int .u64 0, .int .i64 1, .slice an ap ao, .slice none 0 0, .int .u64 0, .int .u64 0]] a2 fun ak al => ∃ (a4 : Int), ak = .returned (.int .u64 a4) ∧
 R (.int .u64 a4) al)

theorem cachetteref03_Oracle_Hash.eq (o1 : Option Addr) (b2a : Option Addr) (b2n : Nat) (b2c : Nat) (R : Value → World → Prop) (w : World) : mfunc Try.prog [(0, [0, 1], [(5, (.one (.int .i64)))])] 67 [.pointer o1, .slice b2a b2n b2c] R w = cachetteref03_Oracle_Hash.M o1 b2a b2n b2c R w := by kernel_rfl
theorem cachetteref03_Oracle_Hash.ok (o1 : Option Addr) (a2 : Option Addr) (a1 : Nat) (a0 : Nat) {R : Value → World → Prop} {w : World} (h : cachetteref03_Oracle_Hash.M o1 a2 a1 a0 R w) : Calls Try.prog 67 #[.pointer o1, .slice a2 a1 a0] w fun e w' => ∃ v, e = .returned v ∧ R v w' :=
  mfunc_ok follows (H := [(0, [0, 1], [(5, (.one (.int .i64)))])]) (args := [.pointer o1, .slice a2 a1 a0]) (by rw [cachetteref03_Oracle_Hash.eq]; exact h)

def cachetteref03_Oracle_Hash.N (o1 : Option Addr) (ao : Option Addr) (av : Nat) (ap : Nat) (R : Value → World → Prop) (w : World) : Prop :=
 ∃ (I0 : Nat → List Value → World → Prop) (m4 : Nat), I0 m4 [.int .i64 0] w ∧ ∀ (m5 : Nat) (a3 : World) (i3 : Int), I0 m5 [.int .i64 i3] a3 →
 ∃ a7 : Addr, o1 = some a7 ∧
 ∃ (ax : Option Addr) (ai : Nat) (ay : Nat), a3.cell? (a7.add 1) = some (.slice ax ai ay) ∧
 (i3 < (ai : Int) →
 ∃ (a5 : Option Addr) (ab : Nat) (aj : Nat), a3.cell? (a7.add 1) = some (.slice a5 ab aj) ∧
 ∃ an : Addr, a5 = some an ∧
 0 ≤ (i3 : Int) ∧ (i3 : Int) < (ab : Int) ∧
 ∃ (a1 : Int), a3.cell? ((an.add (Int.toNat i3 * 6)).add 1) = some (.int .i64 a1) ∧
 (a1 = 1 →
 ∃ (a8 : Option Addr) (ac : Nat) (ag : Nat), a3.cell? (a7.add 1) = some (.slice a8 ac ag) ∧
 ∃ aq : Addr, a8 = some aq ∧
 0 ≤ (i3 : Int) ∧ (i3 : Int) < (ac : Int) ∧
 ∃ (ae : Option Addr) (aa : Nat) (ad : Nat), a3.cell? ((aq.add (Int.toNat i3 * 6)).add 2) = some (.slice ae aa ad) ∧
 Calls Try.prog 41 #[.slice ae aa ad, .slice ao av ap] a3 fun al a2 => ∃ (a0 : Bool), al = .returned (.bool a0) ∧
 (a0 = true →
 ∃ (a6 : Option Addr) (a9 : Nat) (af : Nat), a2.cell? (a7.add 1) = some (.slice a6 a9 af) ∧
 ∃ aw : Addr, a6 = some aw ∧
 0 ≤ (i3 : Int) ∧ (i3 : Int) < (a9 : Int) ∧
 ∃ (au : Int), a2.cell? ((aw.add (Int.toNat i3 * 6)).add 0) = some (.int .u64 au) ∧
 R (.int .u64 au) a2) ∧
 (a0 = false →
 (-9223372036854775808 : Int) ≤ (i3 + 1) ∧ (i3 + 1) < 9223372036854775808 ∧
 ∃ ar, ar < m5 ∧ I0 ar [.int .i64 (i3 + 1)] a2)) ∧
 (a1 ≠ 1 →
 (-9223372036854775808 : Int) ≤ (i3 + 1) ∧ (i3 + 1) < 9223372036854775808 ∧
 ∃ am, am < m5 ∧ I0 am [.int .i64 (i3 + 1)] a3)) ∧
 ((ai : Int) ≤ i3 →
 Calls Try.prog 28 #[.pointer o1, .agg #[.int .u64 0, .int .i64 1, .slice ao av ap, .slice none 0 0, .int .u64 0, .int .u64 0]] a3 fun ah ak => ∃ (a4 : Int), ah = .returned (.int .u64 a4) ∧
 R (.int .u64 a4) ak)

theorem cachetteref03_Oracle_Hash.up (o1 : Option Addr) (az : Option Addr) (b1 : Nat) (b0 : Nat) {R : Value → World → Prop} {w : World} (h : cachetteref03_Oracle_Hash.N o1 az b1 b0 R w) : cachetteref03_Oracle_Hash.M o1 az b1 b0 R w := by
  unfold cachetteref03_Oracle_Hash.M
  unfold cachetteref03_Oracle_Hash.N at h
  obtain ⟨I0, m4, h0, h⟩ := h
  refine ⟨I0, m4, h0, fun m5 bb i3 hI => ?_⟩
  have h := h m5 bb i3 hI
  obtain ⟨a7, a5, h⟩ := h
  refine elim_some a5 ?_
  obtain ⟨b4, b9, b5, b3, h⟩ := h
  refine ⟨b4, b9, b5, b3, ?_⟩
  refine bif_of (fun aa => ?_) (fun aa => ?_)
  · have h := h.1 (of_decide_eq_true aa)
    refine elim_some a5 ?_
    obtain ⟨ab, al, au, ax, h⟩ := h
    refine ⟨ab, al, au, ax, ?_⟩
    obtain ⟨be, ad, h⟩ := h
    refine elim_some ad ?_
    obtain ⟨a2, a3, h⟩ := h
    refine ⟨a2, a3, ?_⟩
    obtain ⟨a1, ac, h⟩ := h
    refine ⟨a1, ac, ?_⟩
    refine bif_of (fun ao => ?_) (fun ao => ?_)
    · have h := h.1 (beq_t ao)
      refine elim_some a5 ?_
      obtain ⟨ah, aq, ae, av, h⟩ := h
      refine ⟨ah, aq, ae, av, ?_⟩
      obtain ⟨bf, ag, h⟩ := h
      refine elim_some ag ?_
      obtain ⟨a2, a3, h⟩ := h
      refine ⟨a2, a3, ?_⟩
      obtain ⟨aw, ak, ar, an, h⟩ := h
      refine ⟨aw, ak, ar, an, ?_⟩
      refine h.mono fun bd ba h => ?_
      obtain ⟨a0, he, h⟩ := h
      refine ⟨a0, he, ?_⟩
      refine bif_of (fun ap => ?_) (fun ap => ?_)
      · have h := h.1 ap
        refine elim_some a5 ?_
        obtain ⟨ai, aj, a8, af, h⟩ := h
        refine ⟨ai, aj, a8, af, ?_⟩
        obtain ⟨bg, am, h⟩ := h
        refine elim_some am ?_
        obtain ⟨a2, a3, h⟩ := h
        refine ⟨a2, a3, ?_⟩
        obtain ⟨b7, ay, h⟩ := h
        refine ⟨b7, ay, ?_⟩
        exact h
      · have h := h.2 ap
        obtain ⟨a6, a9, h⟩ := h
        try rw [w64 a6 a9]
        obtain ⟨b6, hk, h⟩ := h
        exact ⟨b6, hk, h⟩
    · have h := h.2 (beq_f ao)
      obtain ⟨a6, a9, h⟩ := h
      try rw [w64 a6 a9]
      obtain ⟨b2, hk, h⟩ := h
      exact ⟨b2, hk, h⟩
  · have h := h.2 (Int.not_lt.1 (of_decide_eq_false aa))
    refine h.mono fun b8 bc h => ?_
    obtain ⟨a4, he, h⟩ := h
    refine ⟨a4, he, ?_⟩
    exact h

theorem cachetteref03_Oracle_Hash.go (o1 : Option Addr) (a2 : Option Addr) (a1 : Nat) (a0 : Nat) {R : Value → World → Prop} {w : World} (h : cachetteref03_Oracle_Hash.N o1 a2 a1 a0 R w) : Calls Try.prog 67 #[.pointer o1, .slice a2 a1 a0] w fun e w' => ∃ v, e = .returned v ∧ R v w' := cachetteref03_Oracle_Hash.ok o1 a2 a1 a0 (cachetteref03_Oracle_Hash.up o1 a2 a1 a0 h)
/-- (*cachetteref03.Oracle).Pair -/
def cachetteref03_Oracle_Pair.M (o1 : Option Addr) (R : Value → World → Prop) (w : World) : Prop :=
 Calls Try.prog 28 #[.pointer o1, .agg #[.int .u64 0, .int .i64 3, .slice none 0 0, .slice none 0 0, .int .u64 0, .int .u64 0]] w fun a4 a2 => ∃ (a0 : Int), a4 = .returned (.int .u64 a0) ∧
 Calls Try.prog 28 #[.pointer o1, .agg #[.int .u64 0, .int .i64 4, .slice none 0 0, .slice none 0 0, .int .u64 a0, .int .u64 0]] a2 fun a3 a5 => ∃ (a1 : Int), a3 = .returned (.int .u64 a1) ∧
 R (.tuple #[.int .u64 a0, .int .u64 a1]) a5

theorem cachetteref03_Oracle_Pair.eq (o1 : Option Addr) (R : Value → World → Prop) (w : World) : mfunc Try.prog [] 9 [.pointer o1] R w = cachetteref03_Oracle_Pair.M o1 R w := by kernel_rfl
theorem cachetteref03_Oracle_Pair.ok (o1 : Option Addr) {R : Value → World → Prop} {w : World} (h : cachetteref03_Oracle_Pair.M o1 R w) : Calls Try.prog 9 #[.pointer o1] w fun e w' => ∃ v, e = .returned v ∧ R v w' :=
  mfunc_ok follows (H := []) (args := [.pointer o1]) (by rw [cachetteref03_Oracle_Pair.eq]; exact h)

def cachetteref03_Oracle_Pair.N (o1 : Option Addr) (R : Value → World → Prop) (w : World) : Prop :=
 Calls Try.prog 28 #[.pointer o1, .agg #[.int .u64 0, .int .i64 3, .slice none 0 0, .slice none 0 0, .int .u64 0, .int .u64 0]] w fun a4 a2 => ∃ (a0 : Int), a4 = .returned (.int .u64 a0) ∧
 Calls Try.prog 28 #[.pointer o1, .agg #[.int .u64 0, .int .i64 4, .slice none 0 0, .slice none 0 0, .int .u64 a0, .int .u64 0]] a2 fun a3 a5 => ∃ (a1 : Int), a3 = .returned (.int .u64 a1) ∧
 R (.tuple #[.int .u64 a0, .int .u64 a1]) a5

theorem cachetteref03_Oracle_Pair.up (o1 : Option Addr) {R : Value → World → Prop} {w : World} (h : cachetteref03_Oracle_Pair.N o1 R w) : cachetteref03_Oracle_Pair.M o1 R w := by
  unfold cachetteref03_Oracle_Pair.M
  unfold cachetteref03_Oracle_Pair.N at h
  refine h.mono fun a4 a2 h => ?_
  obtain ⟨a1, he, h⟩ := h
  refine ⟨a1, he, ?_⟩
  refine h.mono fun a3 a5 h => ?_
  obtain ⟨a0, he, h⟩ := h
  refine ⟨a0, he, ?_⟩
  exact h

theorem cachetteref03_Oracle_Pair.go (o1 : Option Addr) {R : Value → World → Prop} {w : World} (h : cachetteref03_Oracle_Pair.N o1 R w) : Calls Try.prog 9 #[.pointer o1] w fun e w' => ∃ v, e = .returned v ∧ R v w' := cachetteref03_Oracle_Pair.ok o1 (cachetteref03_Oracle_Pair.up o1 h)
/-- (*cachetteref03.Oracle).Sign -/
def cachetteref03_Oracle_Sign.M (o1 : Option Addr) (a2 : Int) (b6 : Option Addr) (be : Nat) (bb : Nat) (R : Value → World → Prop) (w : World) : Prop :=
 Calls Try.prog 75 #[.pointer o1, .int .u64 a2, .int .i64 3] w fun b2 a0 => ∃ (H4 : Int) (a9 : Int) (ba : Option Addr) (b8 : Nat) (bg : Nat) (b7 : Option Addr) (bc : Nat) (bj : Nat) (N8 : Int) (M9 : Int) (a7 : Bool), b2 = .returned (.tuple #[.agg #[.int .u64 H4, .int .i64 a9, .slice ba b8 bg, .slice b7 bc bj, .int .u64 N8, .int .u64 M9], .bool a7]) ∧
 thenW (a0.alloc (.cells #[.int .u64 0, .int .i64 0, .slice none 0 0, .slice none 0 0, .int .u64 0, .int .u64 0] 80)) fun ad =>
 canStore ad ((blk a0.heap.size).add 0) ∧
 thenW (ad.setCell ((blk a0.heap.size).add 0) (.int .u64 H4)) fun ao =>
 canStore ao ((blk a0.heap.size).add 1) ∧
 thenW (ao.setCell ((blk a0.heap.size).add 1) (.int .i64 a9)) fun aa =>
 canStore aa ((blk a0.heap.size).add 2) ∧
 thenW (aa.setCell ((blk a0.heap.size).add 2) (.slice ba b8 bg)) fun ak =>
 canStore ak ((blk a0.heap.size).add 3) ∧
 thenW (ak.setCell ((blk a0.heap.size).add 3) (.slice b7 bc bj)) fun al =>
 canStore al ((blk a0.heap.size).add 4) ∧
 thenW (al.setCell ((blk a0.heap.size).add 4) (.int .u64 N8)) fun af =>
 canStore af ((blk a0.heap.size).add 5) ∧
 thenW (af.setCell ((blk a0.heap.size).add 5) (.int .u64 M9)) fun aq =>
 bif !a7 then (
 R (.tuple #[.int .u64 0, .int .i64 11]) aq) else (
 ∃ (I0 : Nat → List Value → World → Prop) (bo : Nat), I0 bo [.int .i64 0] aq ∧ ∀ (av : Nat) (a1 : World) (a3 : Int), I0 av [.int .i64 a3] a1 →
 o1.elim False fun bs =>
 ∃ (b4 : Option Addr) (ac : Nat) (b1 : Nat), a1.cell? (bs.add 1) = some (.slice b4 ac b1) ∧
 bif decide (a3 < (ac : Int)) then (
 o1.elim False fun bt =>
 ∃ (ah : Option Addr) (ai : Nat) (aw : Nat), a1.cell? (bt.add 1) = some (.slice ah ai aw) ∧
 ah.elim False fun bq =>
 0 ≤ (a3 : Int) ∧ (a3 : Int) < (ai : Int) ∧
 ∃ (a5 : Int), a1.cell? ((bq.add (Int.toNat a3 * 6)).add 1) = some (.int .i64 a5) ∧
 bif a5 == 5 then (
 o1.elim False fun bk =>
 ∃ (ar : Option Addr) (an : Nat) (ax : Nat), a1.cell? (bk.add 1) = some (.slice ar an ax) ∧
 ar.elim False fun bl =>
 0 ≤ (a3 : Int) ∧ (a3 : Int) < (an : Int) ∧
 ∃ (bd : Int), a1.cell? ((bl.add (Int.toNat a3 * 6)).add 4) = some (.int .u64 bd) ∧
 bif bd == a2 then (
 o1.elim False fun bm =>
 ∃ (ap : Option Addr) (aj : Nat) (b3 : Nat), a1.cell? (bm.add 1) = some (.slice ap aj b3) ∧
 ap.elim False fun bn =>
 0 ≤ (a3 : Int) ∧ (a3 : Int) < (aj : Int) ∧
 ∃ (ag : Option Addr) (au : Nat) (ae : Nat), a1.cell? ((bn.add (Int.toNat a3 * 6)).add 2) = some (.slice ag au ae) ∧
 Calls Try.prog 41 #[.slice ag au ae, .slice b6 be bb] a1 fun b5 a6 => ∃ (a4 : Bool), b5 = .returned (.bool a4) ∧
 bif a4 then (
 o1.elim False fun br =>
 ∃ (am : Option Addr) (ab : Nat) (b0 : Nat), a6.cell? (br.add 1) = some (.slice am ab b0) ∧
 am.elim False fun bp =>
 0 ≤ (a3 : Int) ∧ (a3 : Int) < (ab : Int) ∧
 ∃ (b9 : Int), a6.cell? ((bp.add (Int.toNat a3 * 6)).add 0) = some (.int .u64 b9) ∧
 R (.tuple #[.int .u64 b9, .int .i64 0]) a6) else (
 ∃ bf, bf < av ∧ I0 bf [.int .i64 (IntKind.i64.wrap (a3 + 1))] a6)) else (
 ∃ bi, bi < av ∧ I0 bi [.int .i64 (IntKind.i64.wrap (a3 + 1))] a1)) else (
 ∃ bh, bh < av ∧ I0 bh [.int .i64 (IntKind.i64.wrap (a3 + 1))] a1)) else (
 Calls Try.prog 28 #[.pointer o1, .agg #[.int .u64 0, .int .i64 5, .slice b6 be bb, .slice none 0 0, .int .u64 a2, .int .u64 0]] a1 fun az ay => ∃ (a8 : Int), az = .returned (.int .u64 a8) ∧
 R (.tuple #[.int .u64 a8, .int .i64 0]) ay))

theorem cachetteref03_Oracle_Sign.eq (o1 : Option Addr) (secret2 : Int) (b3a : Option Addr) (b3n : Nat) (b3c : Nat) (R : Value → World → Prop) (w : World) : mfunc Try.prog [(0, [0, 1, 2], [(10, (.one (.int .i64)))])] 60 [.pointer o1, .int .u64 secret2, .slice b3a b3n b3c] R w = cachetteref03_Oracle_Sign.M o1 secret2 b3a b3n b3c R w := by kernel_rfl
theorem cachetteref03_Oracle_Sign.ok (o1 : Option Addr) (a0 : Int) (a3 : Option Addr) (a2 : Nat) (a1 : Nat) {R : Value → World → Prop} {w : World} (h : cachetteref03_Oracle_Sign.M o1 a0 a3 a2 a1 R w) : Calls Try.prog 60 #[.pointer o1, .int .u64 a0, .slice a3 a2 a1] w fun e w' => ∃ v, e = .returned v ∧ R v w' :=
  mfunc_ok follows (H := [(0, [0, 1, 2], [(10, (.one (.int .i64)))])]) (args := [.pointer o1, .int .u64 a0, .slice a3 a2 a1]) (by rw [cachetteref03_Oracle_Sign.eq]; exact h)

def cachetteref03_Oracle_Sign.N (o1 : Option Addr) (a2 : Int) (b2 : Option Addr) (bc : Nat) (b7 : Nat) (R : Value → World → Prop) (w : World) : Prop :=
 Calls Try.prog 75 #[.pointer o1, .int .u64 a2, .int .i64 3] w fun b1 ae => ∃ (H4 : Int) (an : Int) (bf : Option Addr) (be : Nat) (bi : Nat) (bd : Option Addr) (bg : Nat) (bj : Nat) (N8 : Int) (M9 : Int) (a5 : Bool), b1 = .returned (.tuple #[.agg #[.int .u64 H4, .int .i64 an, .slice bf be bi, .slice bd bg bj, .int .u64 N8, .int .u64 M9], .bool a5]) ∧
 (a5 = false →
 ∀ (a6 : World), Ext no ae a6 →
 R (.tuple #[.int .u64 0, .int .i64 11]) a6) ∧
 (a5 = true →
 ∀ (a6 : World), Ext no ae a6 →
 ∃ (I0 : Nat → List Value → World → Prop) (bh : Nat), I0 bh [.int .i64 0] a6 ∧ ∀ (ao : Nat) (a0 : World) (a1 : Int), I0 ao [.int .i64 a1] a0 →
 ∃ aa : Addr, o1 = some aa ∧
 ∃ (aw : Option Addr) (a9 : Nat) (ax : Nat), a0.cell? (aa.add 1) = some (.slice aw a9 ax) ∧
 (a1 < (a9 : Int) →
 ∃ (ak : Option Addr) (ad : Nat) (ap : Nat), a0.cell? (aa.add 1) = some (.slice ak ad ap) ∧
 ∃ ba : Addr, ak = some ba ∧
 0 ≤ (a1 : Int) ∧ (a1 : Int) < (ad : Int) ∧
 ∃ (a3 : Int), a0.cell? ((ba.add (Int.toNat a1 * 6)).add 1) = some (.int .i64 a3) ∧
 (a3 = 5 →
 ∃ (aj : Option Addr) (af : Nat) (ay : Nat), a0.cell? (aa.add 1) = some (.slice aj af ay) ∧
 ∃ b3 : Addr, aj = some b3 ∧
 0 ≤ (a1 : Int) ∧ (a1 : Int) < (af : Int) ∧
 ∃ (aq : Int), a0.cell? ((b3.add (Int.toNat a1 * 6)).add 4) = some (.int .u64 aq) ∧
 (aq = a2 →
 ∃ (am : Option Addr) (ah : Nat) (av : Nat), a0.cell? (aa.add 1) = some (.slice am ah av) ∧
 ∃ bb : Addr, am = some bb ∧
 0 ≤ (a1 : Int) ∧ (a1 : Int) < (ah : Int) ∧
 ∃ (ab : Option Addr) (al : Nat) (ag : Nat), a0.cell? ((bb.add (Int.toNat a1 * 6)).add 2) = some (.slice ab al ag) ∧
 Calls Try.prog 41 #[.slice ab al ag, .slice b2 bc b7] a0 fun au a7 => ∃ (a4 : Bool), au = .returned (.bool a4) ∧
 (a4 = true →
 ∃ (ac : Option Addr) (ai : Nat) (b0 : Nat), a7.cell? (aa.add 1) = some (.slice ac ai b0) ∧
 ∃ b6 : Addr, ac = some b6 ∧
 0 ≤ (a1 : Int) ∧ (a1 : Int) < (ai : Int) ∧
 ∃ (b9 : Int), a7.cell? ((b6.add (Int.toNat a1 * 6)).add 0) = some (.int .u64 b9) ∧
 R (.tuple #[.int .u64 b9, .int .i64 0]) a7) ∧
 (a4 = false →
 (-9223372036854775808 : Int) ≤ (a1 + 1) ∧ (a1 + 1) < 9223372036854775808 ∧
 ∃ b8, b8 < ao ∧ I0 b8 [.int .i64 (a1 + 1)] a7)) ∧
 (aq ≠ a2 →
 (-9223372036854775808 : Int) ≤ (a1 + 1) ∧ (a1 + 1) < 9223372036854775808 ∧
 ∃ b4, b4 < ao ∧ I0 b4 [.int .i64 (a1 + 1)] a0)) ∧
 (a3 ≠ 5 →
 (-9223372036854775808 : Int) ≤ (a1 + 1) ∧ (a1 + 1) < 9223372036854775808 ∧
 ∃ b5, b5 < ao ∧ I0 b5 [.int .i64 (a1 + 1)] a0)) ∧
 ((a9 : Int) ≤ a1 →
 Calls Try.prog 28 #[.pointer o1, .agg #[.int .u64 0, .int .i64 5, .slice b2 bc b7, .slice none 0 0, .int .u64 a2, .int .u64 0]] a0 fun az ar => ∃ (a8 : Int), az = .returned (.int .u64 a8) ∧
 R (.tuple #[.int .u64 a8, .int .i64 0]) ar))

theorem cachetteref03_Oracle_Sign.up (o1 : Option Addr) (a3 : Int) (c5 : Option Addr) (c2 : Nat) (c7 : Nat) {R : Value → World → Prop} {w : World} (h : cachetteref03_Oracle_Sign.N o1 a3 c5 c2 c7 R w) : cachetteref03_Oracle_Sign.M o1 a3 c5 c2 c7 R w := by
  unfold cachetteref03_Oracle_Sign.M
  unfold cachetteref03_Oracle_Sign.N at h
  refine h.mono fun cl a0 h => ?_
  obtain ⟨H4, a1, ad, af, ah, al, aj, ak, N8, M9, ag, he, h⟩ := h
  refine ⟨H4, a1, ad, af, ah, al, aj, ak, N8, M9, ag, he, ?_⟩
  refine thenW_in fun cn ca => ?_
  have a2 := Blk.of_new ca
  have aa := ((Ext.refl no a0)).size
  have bf := (Ext.refl no a0).x_alloc ca
  refine ⟨a2.cani 0 rfl rfl, thenW_in fun b1 c9 => ?_⟩
  have bo := bf.x_set (q := a0.heap.size) (i := 0) rfl (.inr aa) c9
  have a2 : Blk b1 a0.heap.size 80 [.int .u64 H4, .int .i64 0, .slice none 0 0, .slice none 0 0, .int .u64 0, .int .u64 0] := a2.seti 0 rfl c9
  refine ⟨a2.cani 1 rfl rfl, thenW_in fun b3 c8 => ?_⟩
  have ar := bo.x_set (q := a0.heap.size) (i := 1) rfl (.inr aa) c8
  have a2 : Blk b3 a0.heap.size 80 [.int .u64 H4, .int .i64 a1, .slice none 0 0, .slice none 0 0, .int .u64 0, .int .u64 0] := a2.seti 1 rfl c8
  refine ⟨a2.cani 2 rfl rfl, thenW_in fun bn c1 => ?_⟩
  have am := ar.x_set (q := a0.heap.size) (i := 2) rfl (.inr aa) c1
  have a2 : Blk bn a0.heap.size 80 [.int .u64 H4, .int .i64 a1, .slice ad af ah, .slice none 0 0, .int .u64 0, .int .u64 0] := a2.seti 2 rfl c1
  refine ⟨a2.cani 3 rfl rfl, thenW_in fun bv c4 => ?_⟩
  have b5 := am.x_set (q := a0.heap.size) (i := 3) rfl (.inr aa) c4
  have a2 : Blk bv a0.heap.size 80 [.int .u64 H4, .int .i64 a1, .slice ad af ah, .slice al aj ak, .int .u64 0, .int .u64 0] := a2.seti 3 rfl c4
  refine ⟨a2.cani 4 rfl rfl, thenW_in fun bk c6 => ?_⟩
  have bh := b5.x_set (q := a0.heap.size) (i := 4) rfl (.inr aa) c6
  have a2 : Blk bk a0.heap.size 80 [.int .u64 H4, .int .i64 a1, .slice ad af ah, .slice al aj ak, .int .u64 N8, .int .u64 0] := a2.seti 4 rfl c6
  refine ⟨a2.cani 5 rfl rfl, thenW_in fun a9 c3 => ?_⟩
  have ai := bh.x_set (q := a0.heap.size) (i := 5) rfl (.inr aa) c3
  have a2 : Blk a9 a0.heap.size 80 [.int .u64 H4, .int .i64 a1, .slice ad af ah, .slice al aj ak, .int .u64 N8, .int .u64 M9] := a2.seti 5 rfl c3
  refine bif_of (fun au => ?_) (fun au => ?_)
  · have h := h.1 (not_t au)
    have h := h a9 ai
    exact h
  · have h := h.2 (not_f au)
    have h := h a9 ai
    obtain ⟨I0, ci, h0, h⟩ := h
    refine ⟨I0, ci, h0, fun ck az cm hI => ?_⟩
    have h := h ck az cm hI
    obtain ⟨cs, a4, h⟩ := h
    refine elim_some a4 ?_
    obtain ⟨ap, b2, bs, bu, h⟩ := h
    refine ⟨ap, b2, bs, bu, ?_⟩
    refine bif_of (fun bb => ?_) (fun bb => ?_)
    · have h := h.1 (of_decide_eq_true bb)
      refine elim_some a4 ?_
      obtain ⟨b0, an, br, bj, h⟩ := h
      refine ⟨b0, an, br, bj, ?_⟩
      obtain ⟨cr, ao, h⟩ := h
      refine elim_some ao ?_
      obtain ⟨a8, a5, h⟩ := h
      refine ⟨a8, a5, ?_⟩
      obtain ⟨a6, bc, h⟩ := h
      refine ⟨a6, bc, ?_⟩
      refine bif_of (fun bp => ?_) (fun bp => ?_)
      · have h := h.1 (beq_t bp)
        refine elim_some a4 ?_
        obtain ⟨bw, b6, b9, bz, h⟩ := h
        refine ⟨bw, b6, b9, bz, ?_⟩
        obtain ⟨cp, bx, h⟩ := h
        refine elim_some bx ?_
        obtain ⟨a8, a5, h⟩ := h
        refine ⟨a8, a5, ?_⟩
        obtain ⟨cc, bg, h⟩ := h
        refine ⟨cc, bg, ?_⟩
        refine bif_of (fun bt => ?_) (fun bt => ?_)
        · have h := h.1 (beq_t bt)
          refine elim_some a4 ?_
          obtain ⟨be, bd, b7, av, h⟩ := h
          refine ⟨be, bd, b7, av, ?_⟩
          obtain ⟨cq, bl, h⟩ := h
          refine elim_some bl ?_
          obtain ⟨a8, a5, h⟩ := h
          refine ⟨a8, a5, ?_⟩
          obtain ⟨b4, bq, aq, bm, h⟩ := h
          refine ⟨b4, bq, aq, bm, ?_⟩
          refine h.mono fun cd cb h => ?_
          obtain ⟨a7, he, h⟩ := h
          refine ⟨a7, he, ?_⟩
          refine bif_of (fun ba => ?_) (fun ba => ?_)
          · have h := h.1 ba
            refine elim_some a4 ?_
            obtain ⟨bi, ax, c0, aw, h⟩ := h
            refine ⟨bi, ax, c0, aw, ?_⟩
            obtain ⟨ct, ay, h⟩ := h
            refine elim_some ay ?_
            obtain ⟨a8, a5, h⟩ := h
            refine ⟨a8, a5, ?_⟩
            obtain ⟨ch, b8, h⟩ := h
            refine ⟨ch, b8, ?_⟩
            exact h
          · have h := h.2 ba
            obtain ⟨ab, ae, h⟩ := h
            try rw [w64 ab ae]
            obtain ⟨ce, hk, h⟩ := h
            exact ⟨ce, hk, h⟩
        · have h := h.2 (beq_f bt)
          obtain ⟨ab, ae, h⟩ := h
          try rw [w64 ab ae]
          obtain ⟨cg, hk, h⟩ := h
          exact ⟨cg, hk, h⟩
      · have h := h.2 (beq_f bp)
        obtain ⟨ab, ae, h⟩ := h
        try rw [w64 ab ae]
        obtain ⟨co, hk, h⟩ := h
        exact ⟨co, hk, h⟩
    · have h := h.2 (Int.not_lt.1 (of_decide_eq_false bb))
      refine h.mono fun cf cj h => ?_
      obtain ⟨ac, he, h⟩ := h
      refine ⟨ac, he, ?_⟩
      exact h

theorem cachetteref03_Oracle_Sign.go (o1 : Option Addr) (a0 : Int) (a3 : Option Addr) (a2 : Nat) (a1 : Nat) {R : Value → World → Prop} {w : World} (h : cachetteref03_Oracle_Sign.N o1 a0 a3 a2 a1 R w) : Calls Try.prog 60 #[.pointer o1, .int .u64 a0, .slice a3 a2 a1] w fun e w' => ∃ v, e = .returned v ∧ R v w' := cachetteref03_Oracle_Sign.ok o1 a0 a3 a2 a1 (cachetteref03_Oracle_Sign.up o1 a0 a3 a2 a1 h)
/-- (*cachetteref03.Oracle).Verify -/
def cachetteref03_Oracle_Verify.M (o1 : Option Addr) (a5 : Int) (be : Option Addr) (bg : Nat) (bf : Nat) (ay : Int) (R : Value → World → Prop) (w : World) : Prop :=
 Calls Try.prog 75 #[.pointer o1, .int .u64 a5, .int .i64 4] w fun b0 a1 => ∃ (H5 : Int) (a7 : Int) (b4 : Option Addr) (bb : Nat) (bc : Nat) (b8 : Option Addr) (ba : Nat) (b2 : Nat) (N9 : Int) (b7 : Int) (a8 : Bool), b0 = .returned (.tuple #[.agg #[.int .u64 H5, .int .i64 a7, .slice b4 bb bc, .slice b8 ba b2, .int .u64 N9, .int .u64 b7], .bool a8]) ∧
 thenW (a1.alloc (.cells #[.int .u64 0, .int .i64 0, .slice none 0 0, .slice none 0 0, .int .u64 0, .int .u64 0] 80)) fun ar =>
 canStore ar ((blk a1.heap.size).add 0) ∧
 thenW (ar.setCell ((blk a1.heap.size).add 0) (.int .u64 H5)) fun a9 =>
 canStore a9 ((blk a1.heap.size).add 1) ∧
 thenW (a9.setCell ((blk a1.heap.size).add 1) (.int .i64 a7)) fun al =>
 canStore al ((blk a1.heap.size).add 2) ∧
 thenW (al.setCell ((blk a1.heap.size).add 2) (.slice b4 bb bc)) fun ao =>
 canStore ao ((blk a1.heap.size).add 3) ∧
 thenW (ao.setCell ((blk a1.heap.size).add 3) (.slice b8 ba b2)) fun af =>
 canStore af ((blk a1.heap.size).add 4) ∧
 thenW (af.setCell ((blk a1.heap.size).add 4) (.int .u64 N9)) fun au =>
 canStore au ((blk a1.heap.size).add 5) ∧
 thenW (au.setCell ((blk a1.heap.size).add 5) (.int .u64 b7)) fun b1 =>
 Calls Try.prog 75 #[.pointer o1, .int .u64 ay, .int .i64 5] b1 fun ax a0 => ∃ (bd : Int) (a4 : Int) (aa : Option Addr) (ag : Nat) (ad : Nat) (am : Option Addr) (ab : Nat) (an : Nat) (b6 : Int) (b9 : Int) (a6 : Bool), ax = .returned (.tuple #[.agg #[.int .u64 bd, .int .i64 a4, .slice aa ag ad, .slice am ab an, .int .u64 b6, .int .u64 b9], .bool a6]) ∧
 thenW (a0.alloc (.cells #[.int .u64 0, .int .i64 0, .slice none 0 0, .slice none 0 0, .int .u64 0, .int .u64 0] 80)) fun av =>
 canStore av ((blk a0.heap.size).add 0) ∧
 thenW (av.setCell ((blk a0.heap.size).add 0) (.int .u64 bd)) fun ah =>
 canStore ah ((blk a0.heap.size).add 1) ∧
 thenW (ah.setCell ((blk a0.heap.size).add 1) (.int .i64 a4)) fun ai =>
 canStore ai ((blk a0.heap.size).add 2) ∧
 thenW (ai.setCell ((blk a0.heap.size).add 2) (.slice aa ag ad)) fun aj =>
 canStore aj ((blk a0.heap.size).add 3) ∧
 thenW (aj.setCell ((blk a0.heap.size).add 3) (.slice am ab an)) fun ae =>
 canStore ae ((blk a0.heap.size).add 4) ∧
 thenW (ae.setCell ((blk a0.heap.size).add 4) (.int .u64 b6)) fun aq =>
 canStore aq ((blk a0.heap.size).add 5) ∧
 thenW (aq.setCell ((blk a0.heap.size).add 5) (.int .u64 b9)) fun a2 =>
 bif a8 then (
 bif a6 then (
 ∃ (b5 : Int), a2.cell? ((blk a0.heap.size).add 4) = some (.int .u64 b5) ∧
 ∃ (b3 : Int), a2.cell? ((blk a1.heap.size).add 4) = some (.int .u64 b3) ∧
 bif b5 == b3 then (
 ∃ (ap : Option Addr) (ac : Nat) (ak : Nat), a2.cell? ((blk a0.heap.size).add 2) = some (.slice ap ac ak) ∧
 Calls Try.prog 41 #[.slice ap ac ak, .slice be bg bf] a2 fun aw az => ∃ (a3 : Bool), aw = .returned (.bool a3) ∧
 R (.bool a3) az) else (
 R (.bool false) a2)) else (
 R (.bool false) a2)) else (
 R (.bool false) a2)

theorem cachetteref03_Oracle_Verify.eq (o1 : Option Addr) (publicv2 : Int) (b3a : Option Addr) (b3n : Nat) (b3c : Nat) (sig4 : Int) (R : Value → World → Prop) (w : World) : mfunc Try.prog [] 63 [.pointer o1, .int .u64 publicv2, .slice b3a b3n b3c, .int .u64 sig4] R w = cachetteref03_Oracle_Verify.M o1 publicv2 b3a b3n b3c sig4 R w := by kernel_rfl
theorem cachetteref03_Oracle_Verify.ok (o1 : Option Addr) (a0 : Int) (a2 : Option Addr) (a3 : Nat) (a4 : Nat) (a1 : Int) {R : Value → World → Prop} {w : World} (h : cachetteref03_Oracle_Verify.M o1 a0 a2 a3 a4 a1 R w) : Calls Try.prog 63 #[.pointer o1, .int .u64 a0, .slice a2 a3 a4, .int .u64 a1] w fun e w' => ∃ v, e = .returned v ∧ R v w' :=
  mfunc_ok follows (H := []) (args := [.pointer o1, .int .u64 a0, .slice a2 a3 a4, .int .u64 a1]) (by rw [cachetteref03_Oracle_Verify.eq]; exact h)

def cachetteref03_Oracle_Verify.N (o1 : Option Addr) (a5 : Int) (an : Option Addr) (ax : Nat) (ap : Nat) (ai : Int) (R : Value → World → Prop) (w : World) : Prop :=
 Calls Try.prog 75 #[.pointer o1, .int .u64 a5, .int .i64 4] w fun al a8 => ∃ (H5 : Int) (ac : Int) (aq : Option Addr) (az : Nat) (b0 : Nat) (av : Option Addr) (ay : Nat) (ao : Nat) (N9 : Int) (ar : Int) (a3 : Bool), al = .returned (.tuple #[.agg #[.int .u64 H5, .int .i64 ac, .slice aq az b0, .slice av ay ao, .int .u64 N9, .int .u64 ar], .bool a3]) ∧
 ∀ (a6 : World) (am : Nat), Ext no a8 a6 → Priv a8 a6 [am] →
 Calls Try.prog 75 #[.pointer o1, .int .u64 ai, .int .i64 5] a6 fun ak a4 => ∃ (au : Int) (a7 : Int) (aa : Option Addr) (a9 : Nat) (ab : Nat) (aj : Option Addr) (ad : Nat) (ah : Nat) (ae : Int) (aw : Int) (a2 : Bool), ak = .returned (.tuple #[.agg #[.int .u64 au, .int .i64 a7, .slice aa a9 ab, .slice aj ad ah, .int .u64 ae, .int .u64 aw], .bool a2]) ∧
 Keep [am] a6 a4 ∧
 (a3 = true →
 (a2 = true →
 (ae = N9 →
 ∀ (a0 : World), Ext no a4 a0 →
 Calls Try.prog 41 #[.slice aa a9 ab, .slice an ax ap] a0 fun af ag => ∃ (a1 : Bool), af = .returned (.bool a1) ∧
 R (.bool a1) ag) ∧
 (ae ≠ N9 →
 ∀ (a0 : World), Ext no a4 a0 →
 R (.bool false) a0)) ∧
 (a2 = false →
 ∀ (a0 : World), Ext no a4 a0 →
 R (.bool false) a0)) ∧
 (a3 = false →
 ∀ (a0 : World), Ext no a4 a0 →
 R (.bool false) a0)

theorem cachetteref03_Oracle_Verify.up (o1 : Option Addr) (a7 : Int) (bz : Option Addr) (bv : Nat) (c1 : Nat) (ao : Int) {R : Value → World → Prop} {w : World} (h : cachetteref03_Oracle_Verify.N o1 a7 bz bv c1 ao R w) : cachetteref03_Oracle_Verify.M o1 a7 bz bv c1 ao R w := by
  unfold cachetteref03_Oracle_Verify.M
  unfold cachetteref03_Oracle_Verify.N at h
  refine h.mono fun cb a2 h => ?_
  obtain ⟨H5, a4, ap, aq, ak, av, au, aw, N9, c5, an, he, h⟩ := h
  refine ⟨H5, a4, ap, aq, ak, av, au, aw, N9, c5, an, he, ?_⟩
  refine thenW_in fun c7 c4 => ?_
  have a1 := Blk.of_new c4
  have ai := ((Ext.refl no a2)).size
  have bj := (Ext.refl no a2).x_alloc c4
  refine ⟨a1.cani 0 rfl rfl, thenW_in fun b4 c3 => ?_⟩
  have az := bj.x_set (q := a2.heap.size) (i := 0) rfl (.inr ai) c3
  have a1 : Blk b4 a2.heap.size 80 [.int .u64 H5, .int .i64 0, .slice none 0 0, .slice none 0 0, .int .u64 0, .int .u64 0] := a1.seti 0 rfl c3
  refine ⟨a1.cani 1 rfl rfl, thenW_in fun bg bu => ?_⟩
  have ax := az.x_set (q := a2.heap.size) (i := 1) rfl (.inr ai) bu
  have a1 : Blk bg a2.heap.size 80 [.int .u64 H5, .int .i64 a4, .slice none 0 0, .slice none 0 0, .int .u64 0, .int .u64 0] := a1.seti 1 rfl bu
  refine ⟨a1.cani 2 rfl rfl, thenW_in fun br bx => ?_⟩
  have b5 := ax.x_set (q := a2.heap.size) (i := 2) rfl (.inr ai) bx
  have a1 : Blk br a2.heap.size 80 [.int .u64 H5, .int .i64 a4, .slice ap aq ak, .slice none 0 0, .int .u64 0, .int .u64 0] := a1.seti 2 rfl bx
  refine ⟨a1.cani 3 rfl rfl, thenW_in fun bd c0 => ?_⟩
  have bc := b5.x_set (q := a2.heap.size) (i := 3) rfl (.inr ai) c0
  have a1 : Blk bd a2.heap.size 80 [.int .u64 H5, .int .i64 a4, .slice ap aq ak, .slice av au aw, .int .u64 0, .int .u64 0] := a1.seti 3 rfl c0
  refine ⟨a1.cani 4 rfl rfl, thenW_in fun bs bw => ?_⟩
  have bl := bc.x_set (q := a2.heap.size) (i := 4) rfl (.inr ai) bw
  have a1 : Blk bs a2.heap.size 80 [.int .u64 H5, .int .i64 a4, .slice ap aq ak, .slice av au aw, .int .u64 N9, .int .u64 0] := a1.seti 4 rfl bw
  refine ⟨a1.cani 5 rfl rfl, thenW_in fun al c2 => ?_⟩
  have b6 := bl.x_set (q := a2.heap.size) (i := 5) rfl (.inr ai) c2
  have a1 : Blk al a2.heap.size 80 [.int .u64 H5, .int .i64 a4, .slice ap aq ak, .slice av au aw, .int .u64 N9, .int .u64 c5] := a1.seti 5 rfl c2
  have h := h al (a2.heap.size) b6 (Priv.cons ai a1.lt Priv.nil)
  refine h.mono fun cc a0 h => ?_
  obtain ⟨ah, a3, aa, a8, a9, ae, af, ad, ar, c6, am, he, hk, h⟩ := h
  refine ⟨ah, a3, aa, a8, a9, ae, af, ad, ar, c6, am, he, ?_⟩
  have a1 := hk.blk a1 (by simp)
  refine thenW_in fun c9 b3 => ?_
  have a6 := Blk.of_new b3
  have aj := ((Ext.refl no a0)).size
  have a5 := Nat.ne_of_lt a1.lt
  have a1 := a1.x_alloc b3
  have bm := (Ext.refl no a0).x_alloc b3
  refine ⟨a6.cani 0 rfl rfl, thenW_in fun bq b7 => ?_⟩
  have bi := bm.x_set (q := a0.heap.size) (i := 0) rfl (.inr aj) b7
  have a1 := a1.oth (q := a0.heap.size) (i := 0) rfl a5 b7
  have a6 : Blk bq a0.heap.size 80 [.int .u64 ah, .int .i64 0, .slice none 0 0, .slice none 0 0, .int .u64 0, .int .u64 0] := a6.seti 0 rfl b7
  refine ⟨a6.cani 1 rfl rfl, thenW_in fun bf be => ?_⟩
  have b1 := bi.x_set (q := a0.heap.size) (i := 1) rfl (.inr aj) be
  have a1 := a1.oth (q := a0.heap.size) (i := 1) rfl a5 be
  have a6 : Blk bf a0.heap.size 80 [.int .u64 ah, .int .i64 a3, .slice none 0 0, .slice none 0 0, .int .u64 0, .int .u64 0] := a6.seti 1 rfl be
  refine ⟨a6.cani 2 rfl rfl, thenW_in fun bo b2 => ?_⟩
  have b0 := b1.x_set (q := a0.heap.size) (i := 2) rfl (.inr aj) b2
  have a1 := a1.oth (q := a0.heap.size) (i := 2) rfl a5 b2
  have a6 : Blk bo a0.heap.size 80 [.int .u64 ah, .int .i64 a3, .slice aa a8 a9, .slice none 0 0, .int .u64 0, .int .u64 0] := a6.seti 2 rfl b2
  refine ⟨a6.cani 3 rfl rfl, thenW_in fun ba bb => ?_⟩
  have bk := b0.x_set (q := a0.heap.size) (i := 3) rfl (.inr aj) bb
  have a1 := a1.oth (q := a0.heap.size) (i := 3) rfl a5 bb
  have a6 : Blk ba a0.heap.size 80 [.int .u64 ah, .int .i64 a3, .slice aa a8 a9, .slice ae af ad, .int .u64 0, .int .u64 0] := a6.seti 3 rfl bb
  refine ⟨a6.cani 4 rfl rfl, thenW_in fun b8 bh => ?_⟩
  have b9 := bk.x_set (q := a0.heap.size) (i := 4) rfl (.inr aj) bh
  have a1 := a1.oth (q := a0.heap.size) (i := 4) rfl a5 bh
  have a6 : Blk b8 a0.heap.size 80 [.int .u64 ah, .int .i64 a3, .slice aa a8 a9, .slice ae af ad, .int .u64 ar, .int .u64 0] := a6.seti 4 rfl bh
  refine ⟨a6.cani 5 rfl rfl, thenW_in fun ab bp => ?_⟩
  have ac := b9.x_set (q := a0.heap.size) (i := 5) rfl (.inr aj) bp
  have a1 := a1.oth (q := a0.heap.size) (i := 5) rfl a5 bp
  have a6 : Blk ab a0.heap.size 80 [.int .u64 ah, .int .i64 a3, .slice aa a8 a9, .slice ae af ad, .int .u64 ar, .int .u64 c6] := a6.seti 5 rfl bp
  refine bif_of (fun bn => ?_) (fun bn => ?_)
  · have h := h.1 bn
    refine bif_of (fun bt => ?_) (fun bt => ?_)
    · have h := h.1 bt
      refine ⟨ar, a6.celli 4 rfl rfl, ?_⟩
      refine ⟨N9, a1.celli 4 rfl rfl, ?_⟩
      refine bif_of (fun ay => ?_) (fun ay => ?_)
      · have h := h.1 (beq_t ay)
        refine ⟨aa, a8, a9, a6.celli 2 rfl rfl, ?_⟩
        have h := h ab ac
        refine h.mono fun c8 ca h => ?_
        obtain ⟨ag, he, h⟩ := h
        refine ⟨ag, he, ?_⟩
        exact h
      · have h := h.2 (beq_f ay)
        have h := h ab ac
        exact h
    · have h := h.2 bt
      have h := h ab ac
      exact h
  · have h := h.2 bn
    have h := h ab ac
    exact h

theorem cachetteref03_Oracle_Verify.go (o1 : Option Addr) (a0 : Int) (a2 : Option Addr) (a3 : Nat) (a4 : Nat) (a1 : Int) {R : Value → World → Prop} {w : World} (h : cachetteref03_Oracle_Verify.N o1 a0 a2 a3 a4 a1 R w) : Calls Try.prog 63 #[.pointer o1, .int .u64 a0, .slice a2 a3 a4, .int .u64 a1] w fun e w' => ∃ v, e = .returned v ∧ R v w' := cachetteref03_Oracle_Verify.ok o1 a0 a2 a3 a4 a1 (cachetteref03_Oracle_Verify.up o1 a0 a2 a3 a4 a1 h)
theorem cachetteref03_Oracle_Verify.run (o1 : Option Addr) (a0 : Int) (a2 : Option Addr) (a3 : Nat) (a4 : Nat) (a1 : Int) {V : Value} {Q : World → Prop} {w : World} (h : cachetteref03_Oracle_Verify.N o1 a0 a2 a3 a4 a1 (fun v w' => v = V ∧ Q w') w) : Calls Try.prog 63 #[.pointer o1, .int .u64 a0, .slice a2 a3 a4, .int .u64 a1] w (Ret V Q) := (cachetteref03_Oracle_Verify.go o1 a0 a2 a3 a4 a1 h).mono fun e w' ⟨v, he, hv, hq⟩ => ⟨by rw [he, hv], hq⟩

def isR (L : List RRow) (x kind : Int) : Option RRow := (L.find? fun r => r.h == x).bind fun r => if r.kind = kind then some r else none
def hashR (d : List Int) (L : List RRow) (b : List UInt8) : Int × List Int × List RRow :=
  match L.find? (fun r => r.kind == 1 && decide (r.A = b)) with
  | some r => (r.h, d, L)
  | none => putR d L ⟨0, 1, b, [], 0, 0⟩
def pairR (d : List Int) (L : List RRow) : (Int × Int) × List Int × List RRow :=
  let p := putR d L ⟨0, 3, [], [], 0, 0⟩
  let q := putR p.2.1 p.2.2 ⟨0, 4, [], [], p.1, 0⟩
  ((p.1, q.1), q.2)
def signR (d : List Int) (L : List RRow) (s : Int) (b : List UInt8) : (Int × Int) × List Int × List RRow :=
  match isR L s 3 with
  | none => ((0, 11), d, L)
  | some _ =>
    match L.find? (fun r => r.kind == 5 && (r.n == s && decide (r.A = b))) with
    | some r => ((r.h, 0), d, L)
    | none => let q := putR d L ⟨0, 5, b, [], s, 0⟩; ((q.1, 0), q.2)
def verifyR (L : List RRow) (p : Int) (b : List UInt8) (x : Int) : Bool :=
  match isR L p 4, isR L x 5 with
  | some y, some z => decide (z.n = y.n ∧ z.A = b)
  | _, _ => false
def zeroC : Value := .agg #[.int .u64 0, .int .i64 0, .slice none 0 0, .slice none 0 0, .int .u64 0, .int .u64 0]
def PR.V (x : PR) : Value := .agg #[.int .u64 x.r.h, .int .i64 x.r.kind, .slice x.aA x.r.A.length x.cA, .slice x.aB x.r.B.length x.cB, .int .u64 x.r.n, .int .u64 x.r.m]
section
variable {w w' : World} {o o' : Own} {k : Nat} {K : Nat → Prop} {d : List Int} {R : List PR} {L : List RRow}
theorem atI_some {L : List RRow} {x : Int} {i : Nat} (h : atI L x = i) : ∃ hi : i < L.length, L[i].h = x ∧ L.find? (fun r => r.h == x) = some L[i] := by
  unfold atI at h
  cases hf : L.findIdx? (fun r => r.h == x) with
  | none => rw [hf] at h; simp at h
  | some j =>
    rw [hf] at h
    have : j = i := by simp at h; omega
    subst this
    rw [List.findIdx?_eq_some_iff_getElem] at hf
    obtain ⟨h1, h2, h3⟩ := hf
    refine ⟨h1, by simpa using h2, ?_⟩
    rw [List.find?_eq_some_iff_getElem]
    exact ⟨h2, j, h1, rfl, fun q hq => by simpa using h3 q hq⟩
theorem atI_none {L : List RRow} {x : Int} (h : atI L x < 0) : L.find? (fun r => r.h == x) = none := by
  rw [List.find?_eq_none]
  intro r hr
  have h1 : x ∉ L.map (·.h) := fun hm => by have := (atI_mem L x).2 hm; omega
  intro e
  exact h1 (List.mem_map.2 ⟨r, hr, by simpa using e⟩)
theorem is_spec (h : ROrcP w o k d R) (ht : Tags w o) (hl : R.length < 1000000) (x kind : Int) :
    Calls Try.prog 75 #[.pointer (some (blk k)), .int .u64 x, .int .i64 kind] w (fun e w' => Ext no w w' ∧ ((isR (R.map PR.r) x kind = none ∧ e = .returned (.tuple #[zeroC, .bool false])) ∨ ∃ y ∈ R, isR (R.map PR.r) x kind = some y.r ∧ e = .returned (.tuple #[y.V, .bool true]))) := by
  refine (cachetteref03_Oracle_is.go _ _ _ (R := fun v w' => Ext no w w' ∧ ((isR (R.map PR.r) x kind = none ∧ v = .tuple #[zeroC, .bool false]) ∨ ∃ y ∈ R, isR (R.map PR.r) x kind = some y.r ∧ v = .tuple #[y.V, .bool true])) ?_).mono fun e w' ⟨v, he, hx, hv⟩ => ⟨hx, hv.imp (fun ⟨a, b⟩ => ⟨a, by rw [he, b]⟩) fun ⟨y, a, b, c⟩ => ⟨y, a, b, by rw [he, c]⟩⟩
  unfold cachetteref03_Oracle_is.N
  intro w4 p5 X4 hp
  have hp := hp.one
  have X5 : ∀ {w1}, Ext (fun b => b = p5) w4 w1 → Ext no w w1 := fun h => X4.then h fun b hb => .inr (by omega)
  obtain ⟨da, dc, la, lc, h1, h2, h3, h4, h5⟩ := id h.at_
  have hb4 := h1.ext X4 id
  have hat : Calls Try.prog 46 #[.pointer (some (blk k)), .int .u64 x] w4 (Ret (.int .i64 (atI (R.map PR.r) x)) fun w' => w' = w4) := by
    exact at_spec (h.step (Step.of_no X4 ht) id) hl x
  refine hat.mono fun e w8 ⟨he, hw⟩ => ⟨_, he, by subst hw; exact Keep.refl _ _, fun hn => ?_, fun hn => ?_⟩ <;> subst hw
  · intro w15 X15
    refine ⟨X5 X15, .inl ⟨?_, rfl⟩⟩
    unfold isR
    rw [atI_none hn]; rfl
  · obtain ⟨i, hi⟩ : ∃ i : Nat, atI (R.map PR.r) x = i := ⟨(atI (R.map PR.r) x).toNat, by omega⟩
    obtain ⟨hil, hih, hif⟩ := atI_some hi
    rw [List.length_map] at hil
    rw [hi]
    have hg : R[i]? = some R[i] := List.getElem?_eq_getElem hil
    rw [List.getElem_map] at hih hif
    have hrow := h4.row.no X4
    obtain ⟨ad, ha⟩ := hrow.addr (Cs_ne (by intro e; subst e; simp at hil))
    refine ⟨_, rfl, la, R.length, lc, hb4.cella (i := 1) rfl, ad, ha, by omega, by omega, R[i].r.kind, by rw [Int.toNat_natCast]; exact row_cell hrow ha hg (j := 1) rfl, fun hk => ?_, fun hk => ?_⟩
    · intro w28 X28
      refine ⟨X5 X28, .inl ⟨?_, rfl⟩⟩
      unfold isR
      rw [hif]
      show (if R[i].r.kind = kind then some R[i].r else none) = none
      rw [if_neg hk]
    · refine ⟨la, R.length, lc, hb4.cella (i := 1) rfl, ad, ha, by omega, by omega, R[i].r.h, R[i].r.kind, R[i].aA, _, R[i].cA, R[i].aB, _, R[i].cB, R[i].r.n, R[i].r.m, ?_, fun w44 X44 => ⟨X5 X44, .inr ⟨R[i], List.getElem_mem hil, ?_, rfl⟩⟩⟩
      · rw [Int.toNat_natCast]
        exact ⟨row_cell hrow ha hg (j := 0) rfl, row_cell hrow ha hg (j := 1) rfl, row_cell hrow ha hg (j := 2) rfl, row_cell hrow ha hg (j := 3) rfl, row_cell hrow ha hg (j := 4) rfl, row_cell hrow ha hg (j := 5) rfl, trivial⟩
      · unfold isR
        rw [hif]
        show (if R[i].r.kind = kind then some R[i].r else none) = _
        rw [if_pos hk]
/-- what is asked of a row. -/
structure ROk (w : World) (o : Own) (d : List Int) (L : List RRow) : Prop where
  tags : Tags w o
  draws : ∀ x ∈ d, 0 ≤ x ∧ x < 18446744073709551616
  short : L.length < 1000000
  bytes : ∀ r ∈ L, r.A.length < 1000000 ∧ r.B.length < 1000000
theorem freshR_draws {d used : List Int} (hd : ∀ x ∈ d, 0 ≤ x ∧ x < 18446744073709551616) : ∀ x ∈ (freshR d used).2, 0 ≤ x ∧ x < 18446744073709551616 := fun x hx => by
  unfold freshR at hx
  cases hp : pickD d used with
  | none => rw [hp] at hx; simp at hx
  | some q => obtain ⟨a, b⟩ := q; rw [hp] at hx; exact hd x (pickD_rest hp x hx)
theorem putR_len (d : List Int) (L : List RRow) (r : RRow) : (putR d L r).2.2.length = L.length + 1 := by simp [putR]
theorem rPair_spec (h : ROrc w o k d L) (hk : ROk w o d L) (hl : L.length + 1 < 1000000) :
    Calls Try.prog 9 #[.pointer (some (blk k))] w (Gs (fun j => j = k) w o (.tuple #[.int .u64 (pairR d L).1.1, .int .u64 (pairR d L).1.2]) fun w' o' => ROrc w' o' k (pairR d L).2.1 (pairR d L).2.2) := by
  refine (cachetteref03_Oracle_Pair.go _ (R := fun v w' => ∃ o', v = .tuple #[.int .u64 (pairR d L).1.1, .int .u64 (pairR d L).1.2] ∧ Step (fun j => j = k) w o w' o' ∧ ROrc w' o' k (pairR d L).2.1 (pairR d L).2.2) ?_).mono fun e w' ⟨v, he, o', hv, hw⟩ => ⟨o', by rw [he, hv], hw⟩
  unfold cachetteref03_Oracle_Pair.N
  have z : ∀ (w : World) (o : Own) (kd n : Int), PR.ok w o ⟨⟨0, kd, [], [], n, 0⟩, none, 0, none, 0⟩ := fun w o kd n => ⟨Row.nil _ _ _, Row.nil _ _ _, Nat.le_refl _, Nat.le_refl _⟩
  refine (put_spec h hk.tags hk.draws hk.short ⟨⟨0, 3, [], [], 0, 0⟩, none, 0, none, 0⟩ (z _ _ _ _)).mono fun e w4 ⟨o4, he, s4, h4⟩ => ⟨_, he, ?_⟩
  refine (put_spec h4 s4.ok (freshR_draws hk.draws) (by rw [putR_len]; exact hl) ⟨⟨0, 4, [], [], (putR d L ⟨0, 3, [], [], 0, 0⟩).1, 0⟩, none, 0, none, 0⟩ (z _ _ _ _)).mono fun e w7 ⟨o7, he, s7, h7⟩ => ⟨_, he, o7, rfl, s4.trans s7, h7⟩
/-- a walk through the rows: none of those ahead is the one. -/
theorem find_at {L : List RRow} {p : RRow → Bool} {t : Nat} (hn : ∀ y ∈ L.take t, p y = false) (ht : t < L.length) (hp : p L[t] = true) : L.find? p = some L[t] := by
  rw [List.find?_eq_some_iff_getElem]
  exact ⟨hp, t, ht, rfl, fun j hj => by simp [hn L[j] (List.mem_take_iff_getElem.2 ⟨j, by omega, rfl⟩)]⟩
theorem find_end {L : List RRow} {p : RRow → Bool} (hn : ∀ y ∈ L, p y = false) : L.find? p = none := by
  rw [List.find?_eq_none]; intro y hy; simp [hn y hy]
theorem take_step {α : Type} {L : List α} {P : α → Prop} {t : Nat} (hn : ∀ y ∈ L.take t, P y) (ht : t < L.length) (hp : P L[t]) : ∀ y ∈ L.take (t + 1), P y := fun y hy => by
  rw [List.take_add_one, List.getElem?_eq_getElem ht] at hy
  rcases List.mem_append.1 hy with hy | hy
  · exact hn y hy
  · simp at hy; rw [hy]; exact hp
theorem rHash_spec (h : ROrc w o k d L) (hk : ROk w o d L) {a : Option Addr} {c : Nat} {b : List UInt8} (hr : Row w o a (bytesV b)) (hc : b.length ≤ c) :
    Calls Try.prog 67 #[.pointer (some (blk k)), .slice a b.length c] w (Gs (fun j => j = k) w o (.int .u64 (hashR d L b).1) fun w' o' => ROrc w' o' k (hashR d L b).2.1 (hashR d L b).2.2) := by
  refine (cachetteref03_Oracle_Hash.go _ _ _ _ (R := fun v w' => ∃ o', v = .int .u64 (hashR d L b).1 ∧ Step (fun j => j = k) w o w' o' ∧ ROrc w' o' k (hashR d L b).2.1 (hashR d L b).2.2) ?_).mono fun e w' ⟨v, he, o', hv, hw⟩ => ⟨o', by rw [he, hv], hw⟩
  unfold cachetteref03_Oracle_Hash.N
  obtain ⟨R, hLR, h0⟩ := id h
  have hlen : L.length = R.length := by rw [hLR, List.length_map]
  have hget : ∀ t (ht : t < R.length), L[t]'(by omega) = R[t].r := fun t ht => by simp [hLR]
  refine ⟨fun q vs w1 => ∃ (t : Nat) (o1 : Own), vs = [.int .i64 t] ∧ q + t = L.length ∧ (∀ y ∈ L.take t, (y.kind == 1 && decide (y.A = b)) = false) ∧ Step no w o w1 o1, L.length, ⟨0, o, rfl, rfl, by simp, Step.refl _ hk.tags⟩, ?_⟩
  rintro q w1 i ⟨t, o1, hi, hq, hn, s1⟩
  simp only [List.cons.injEq, Value.int.injEq, true_and, and_true] at hi
  subst hi
  have h1 := h0.step s1 id
  obtain ⟨da, dc, la, lc, b1, b2, b3, b4, b5⟩ := id h1.at_
  have hk1 := hk.short
  refine ⟨_, rfl, la, R.length, lc, b1.cella (i := 1) rfl, fun ht => ?_, fun ht => ?_⟩
  · have htl : t < R.length := by omega
    have htL : t < L.length := by omega
    have hg : R[t]? = some R[t] := List.getElem?_eq_getElem htl
    obtain ⟨ad, ha⟩ := b4.row.addr (Cs_ne (by intro e; subst e; simp at htl))
    have hst := hk.bytes L[t] (List.getElem_mem htL)
    rw [hget t htl] at hst
    refine ⟨la, R.length, lc, b1.cella (i := 1) rfl, ad, ha, by omega, by omega, R[t].r.kind, by rw [Int.toNat_natCast]; exact row_cell b4.row ha hg (j := 1) rfl, fun hkd => ?_, fun hkd => ?_⟩
    · refine ⟨la, R.length, lc, b1.cella (i := 1) rfl, ad, ha, by omega, by omega, R[t].aA, _, R[t].cA, by rw [Int.toNat_natCast]; exact row_cell b4.row ha hg (j := 2) rfl, ?_⟩
      refine (W.sameB_spec (h1.rows R[t] (List.getElem_mem htl)).1.1 (hr.step s1).1 (by omega)).mono fun e w24 ⟨he, X24⟩ => ⟨_, he, fun hs => ?_, fun hs => ?_⟩
      · have hs := of_decide_eq_true hs
        have s24' := Step.of_no X24 s1.ok
        have s24 := s1.trans s24'
        have h24 := h1.step s24' id
        obtain ⟨da, dc, la, lc, b1, b2, b3, b4, b5⟩ := id h24.at_
        obtain ⟨ad, ha⟩ := b4.row.addr (Cs_ne (by intro e; subst e; simp at htl))
        have hf : L.find? (fun r => r.kind == 1 && decide (r.A = b)) = some L[t] := find_at hn htL (by rw [hget t htl, hkd, hs]; simp)
        have hres : hashR d L b = (R[t].r.h, d, L) := by unfold hashR; rw [hf]; simp only [hget t htl]
        rw [hres]
        exact ⟨la, R.length, lc, b1.cella (i := 1) rfl, ad, ha, by omega, by omega, R[t].r.h, by rw [Int.toNat_natCast]; exact row_cell b4.row ha hg (j := 0) rfl, _, rfl, s24.none, R, hLR, h24⟩
      · have hs := of_decide_eq_false hs
        exact ⟨by omega, by omega, q - 1, by omega, t + 1, grow w1 o1, rfl, by omega, take_step hn htL (by rw [hget t htl]; simp [hs]), s1.trans (Step.of_no X24 s1.ok)⟩
    · exact ⟨by omega, by omega, q - 1, by omega, t + 1, o1, rfl, by omega, take_step hn htL (by rw [hget t htl]; simp [hkd]), s1⟩
  · obtain rfl : t = L.length := by omega
    rw [List.take_length] at hn
    have hres : hashR d L b = putR d L ⟨0, 1, b, [], 0, 0⟩ := by unfold hashR; rw [find_end hn]
    rw [hres]
    refine (put_spec (h.step s1 id) s1.ok hk.draws hk.short ⟨⟨0, 1, b, [], 0, 0⟩, a, c, none, 0⟩ ⟨hr.step s1, Row.nil _ _ _, hc, Nat.le_refl _⟩).mono fun e w35 ⟨o35, he, s35, h35⟩ => ⟨_, he, o35, rfl, s1.none.trans s35, h35⟩
theorem rSign_spec (h : ROrc w o k d L) (hk : ROk w o d L) (s : Int) {a : Option Addr} {c : Nat} {b : List UInt8} (hr : Row w o a (bytesV b)) (hc : b.length ≤ c) :
    Calls Try.prog 60 #[.pointer (some (blk k)), .int .u64 s, .slice a b.length c] w (Gs (fun j => j = k) w o (.tuple #[.int .u64 (signR d L s b).1.1, .int .i64 (signR d L s b).1.2]) fun w' o' => ROrc w' o' k (signR d L s b).2.1 (signR d L s b).2.2) := by
  refine (cachetteref03_Oracle_Sign.go _ _ _ _ _ (R := fun v w' => ∃ o', v = .tuple #[.int .u64 (signR d L s b).1.1, .int .i64 (signR d L s b).1.2] ∧ Step (fun j => j = k) w o w' o' ∧ ROrc w' o' k (signR d L s b).2.1 (signR d L s b).2.2) ?_).mono fun e w' ⟨v, he, o', hv, hw⟩ => ⟨o', by rw [he, hv], hw⟩
  unfold cachetteref03_Oracle_Sign.N
  obtain ⟨R, hLR, h0⟩ := id h
  have hlen : L.length = R.length := by rw [hLR, List.length_map]
  have hk1 := hk.short
  have hget : ∀ t (ht : t < R.length), L[t]'(by omega) = R[t].r := fun t ht => by simp [hLR]
  refine (is_spec h0 hk.tags (by omega) s 3).mono fun e w12 ⟨X12, hor⟩ => ?_
  rw [← hLR] at hor
  have s12 := Step.of_no X12 hk.tags
  rcases hor with ⟨hn, he⟩ | ⟨y, hy, hn, he⟩
  · refine ⟨_, _, _, _, _, _, _, _, _, _, _, he, fun _ w19 X19 => ?_, fun h => (by cases h)⟩
    have s19' := Step.of_no X19 s12.ok
    have s19 := s12.trans s19'
    have hres : signR d L s b = ((0, 11), d, L) := by unfold signR; rw [hn]
    rw [hres]
    exact ⟨_, rfl, s19.none, h.step s19 id⟩
  · refine ⟨_, _, _, _, _, _, _, _, _, _, _, he, fun h => (by cases h), fun _ w19 X19 => ?_⟩
    have s19' := Step.of_no X19 s12.ok
    have s19 := s12.trans s19'
    refine ⟨fun q vs w1 => ∃ (t : Nat) (o1 : Own), vs = [.int .i64 t] ∧ q + t = L.length ∧ (∀ y ∈ L.take t, (y.kind == 5 && (y.n == s && decide (y.A = b))) = false) ∧ Step no w o w1 o1, L.length, ⟨0, _, rfl, rfl, by simp, s19⟩, ?_⟩
    rintro q w1 i ⟨t, o1, hi, hq, hne, s1⟩
    simp only [List.cons.injEq, Value.int.injEq, true_and, and_true] at hi
    subst hi
    have h1 := h0.step s1 id
    obtain ⟨da, dc, la, lc, b1, b2, b3, b4, b5⟩ := id h1.at_
    refine ⟨_, rfl, la, R.length, lc, b1.cella (i := 1) rfl, fun ht => ?_, fun ht => ?_⟩
    · have htl : t < R.length := by omega
      have htL : t < L.length := by omega
      have hg : R[t]? = some R[t] := List.getElem?_eq_getElem htl
      obtain ⟨ad, ha⟩ := b4.row.addr (Cs_ne (by intro e; subst e; simp at htl))
      have hst := hk.bytes L[t] (List.getElem_mem htL)
      rw [hget t htl] at hst
      refine ⟨la, R.length, lc, b1.cella (i := 1) rfl, ad, ha, by omega, by omega, R[t].r.kind, by rw [Int.toNat_natCast]; exact row_cell b4.row ha hg (j := 1) rfl, fun hkd => ?_, fun hkd => ?_⟩
      · refine ⟨la, R.length, lc, b1.cella (i := 1) rfl, ad, ha, by omega, by omega, R[t].r.n, by rw [Int.toNat_natCast]; exact row_cell b4.row ha hg (j := 4) rfl, fun hnn => ?_, fun hnn => ?_⟩
        · refine ⟨la, R.length, lc, b1.cella (i := 1) rfl, ad, ha, by omega, by omega, R[t].aA, _, R[t].cA, by rw [Int.toNat_natCast]; exact row_cell b4.row ha hg (j := 2) rfl, ?_⟩
          refine (W.sameB_spec (h1.rows R[t] (List.getElem_mem htl)).1.1 (hr.step s1).1 (by omega)).mono fun e w24 ⟨he, X24⟩ => ⟨_, he, fun hs => ?_, fun hs => ?_⟩
          · have hs := of_decide_eq_true hs
            have s24' := Step.of_no X24 s1.ok
            have s24 := s1.trans s24'
            have h24 := h1.step s24' id
            obtain ⟨da, dc, la, lc, b1, b2, b3, b4, b5⟩ := id h24.at_
            obtain ⟨ad, ha⟩ := b4.row.addr (Cs_ne (by intro e; subst e; simp at htl))
            have hf : L.find? (fun r => r.kind == 5 && (r.n == s && decide (r.A = b))) = some L[t] := find_at hne htL (by rw [hget t htl, hkd, hnn, hs]; simp)
            have hres : signR d L s b = ((R[t].r.h, 0), d, L) := by unfold signR; rw [hn]; simp only [hf, hget t htl]
            rw [hres]
            exact ⟨la, R.length, lc, b1.cella (i := 1) rfl, ad, ha, by omega, by omega, R[t].r.h, by rw [Int.toNat_natCast]; exact row_cell b4.row ha hg (j := 0) rfl, _, rfl, s24.none, R, hLR, h24⟩
          · have hs := of_decide_eq_false hs
            exact ⟨by omega, by omega, q - 1, by omega, t + 1, grow w1 o1, rfl, by omega, take_step hne htL (by rw [hget t htl]; simp [hs]), s1.trans (Step.of_no X24 s1.ok)⟩
        · exact ⟨by omega, by omega, q - 1, by omega, t + 1, o1, rfl, by omega, take_step hne htL (by rw [hget t htl]; simp [hnn]), s1⟩
      · exact ⟨by omega, by omega, q - 1, by omega, t + 1, o1, rfl, by omega, take_step hne htL (by rw [hget t htl]; simp [hkd]), s1⟩
    · obtain rfl : t = L.length := by omega
      rw [List.take_length] at hne
      have hres : signR d L s b = (((putR d L ⟨0, 5, b, [], s, 0⟩).1, 0), (putR d L ⟨0, 5, b, [], s, 0⟩).2) := by unfold signR; rw [hn]; simp only [find_end hne]
      rw [hres]
      refine (put_spec (h.step s1 id) s1.ok hk.draws hk.short ⟨⟨0, 5, b, [], s, 0⟩, a, c, none, 0⟩ ⟨hr.step s1, Row.nil _ _ _, hc, Nat.le_refl _⟩).mono fun e w35 ⟨o35, he, s35, h35⟩ => ⟨_, he, o35, rfl, s1.none.trans s35, h35⟩
theorem rVerify_spec (h : ROrc w o k d L) (hk : ROk w o d L) (p x : Int) {a : Option Addr} {c : Nat} {b : List UInt8} (hr : Row w o a (bytesV b)) :
    Calls Try.prog 63 #[.pointer (some (blk k)), .int .u64 p, .slice a b.length c, .int .u64 x] w (Ret (.bool (verifyR L p b x)) fun w' => Ext no w w') := by
  refine cachetteref03_Oracle_Verify.run _ _ _ _ _ _ ?_
  unfold cachetteref03_Oracle_Verify.N
  obtain ⟨R, hLR, h0⟩ := id h
  have hlen : L.length = R.length := by rw [hLR, List.length_map]
  have hk1 := hk.short
  refine (is_spec h0 hk.tags (by omega) p 4).mono fun e w13 ⟨X13, hor⟩ => ?_
  rw [← hLR] at hor
  have s13 := Step.of_no X13 hk.tags
  have rest : ∀ (w20 : World) (p21 : Nat), Ext no w13 w20 → Priv w13 w20 [p21] → ∀ (N9 : Int) (b1 : Bool), (isR L p 4 = none ∧ b1 = false ∨ ∃ y, isR L p 4 = some y ∧ b1 = true ∧ y.n = N9) →
      Calls Try.prog 75 #[.pointer (some (blk k)), .int .u64 x, .int .i64 5] w20 fun ee29 ww30 => ∃ (H22 : Int) (Kind23 : Int) (A24a : Option Addr) (A24n : Nat) (A24c : Nat) (B25a : Option Addr) (B25n : Nat) (B25c : Nat) (N26 : Int) (M27 : Int) (isv28 : Bool), ee29 = .returned (.tuple #[.agg #[.int .u64 H22, .int .i64 Kind23, .slice A24a A24n A24c, .slice B25a B25n B25c, .int .u64 N26, .int .u64 M27], .bool isv28]) ∧
      Keep [p21] w20 ww30 ∧
      (b1 = true →
        (isv28 = true →
          (N26 = N9 →
            ∀ (ww37 : World), Ext no ww30 ww37 →
            Calls Try.prog 41 #[.slice A24a A24n A24c, .slice a b.length c] ww37 fun ee43 ww44 => ∃ (same42 : Bool), ee43 = .returned (.bool same42) ∧
            (Value.bool same42 = .bool (verifyR L p b x) ∧ Ext no w ww44)) ∧
          (N26 ≠ N9 →
            ∀ (ww37 : World), Ext no ww30 ww37 →
            (Value.bool false = .bool (verifyR L p b x) ∧ Ext no w ww37))) ∧
        (isv28 = false →
          ∀ (ww37 : World), Ext no ww30 ww37 →
          (Value.bool false = .bool (verifyR L p b x) ∧ Ext no w ww37))) ∧
      (b1 = false →
        ∀ (ww37 : World), Ext no ww30 ww37 →
        (Value.bool false = .bool (verifyR L p b x) ∧ Ext no w ww37)) := fun w20 p21 X20 hp N9 b1 hb1 => by
    have s20' := Step.of_no X20 s13.ok
    have s20 := s13.trans s20'
    refine (is_spec (h0.step s20 id) s20.ok (by omega) x 5).mono fun e w30 ⟨X30, hor⟩ => ?_
    rw [← hLR] at hor
    have Y30 := (X13.trans X20).trans X30
    have s30 := s20.trans (Step.of_no X30 s20.ok)
    rcases hor with ⟨hn, he⟩ | ⟨y, hy, hn, he⟩
    · have hf : verifyR L p b x = false := by unfold verifyR; rw [hn]; cases isR L p 4 <;> rfl
      exact ⟨_, _, _, _, _, _, _, _, _, _, _, he, X30.kept, fun _ => ⟨fun h => (by cases h), fun _ w37 X37 => ⟨by rw [hf], Y30.trans X37⟩⟩, fun _ w37 X37 => ⟨by rw [hf], Y30.trans X37⟩⟩
    · rcases hb1 with ⟨h4, rfl⟩ | ⟨z, h4, rfl, hz⟩
      · have hf : verifyR L p b x = false := by unfold verifyR; rw [h4]
        exact ⟨_, _, _, _, _, _, _, _, _, _, _, he, X30.kept, fun h => (by cases h), fun _ w37 X37 => ⟨by rw [hf], Y30.trans X37⟩⟩
      · have hv : verifyR L p b x = decide (y.r.n = z.n ∧ y.r.A = b) := by unfold verifyR; rw [h4, hn]
        refine ⟨_, _, _, _, _, _, _, _, _, _, _, he, X30.kept, fun _ => ⟨fun _ => ⟨fun hnn w37 X37 => ?_, fun hnn w37 X37 => ⟨by rw [hv, decide_eq_false fun h => hnn (h.1.trans hz)], Y30.trans X37⟩⟩, fun h => (by cases h)⟩, fun h => (by cases h)⟩
        have s37 := s30.trans (Step.of_no X37 s30.ok)
        have hyL : y.r ∈ L := by rw [hLR]; exact List.mem_map.2 ⟨y, hy, rfl⟩
        refine (W.sameB_spec ((h0.rows y hy).step s37).1.1 (hr.step s37).1 (hk.bytes _ hyL).1).mono fun e w44 ⟨he, X44⟩ => ⟨_, he, ?_, (Y30.trans X37).trans X44⟩
        rw [hv]
        congr 1
        rw [decide_eq_decide]
        exact ⟨fun h => ⟨hnn.trans hz.symm, h⟩, fun h => h.2⟩
  rcases hor with ⟨hn, he⟩ | ⟨y, hy, hn, he⟩
  · exact ⟨_, _, _, _, _, _, _, _, _, _, _, he, fun w20 p21 X20 hp => rest w20 p21 X20 hp 0 false (.inl ⟨hn, rfl⟩)⟩
  · exact ⟨_, _, _, _, _, _, _, _, _, _, _, he, fun w20 p21 X20 hp => rest w20 p21 X20 hp y.r.n true (.inr ⟨y.r, hn, rfl, rfl⟩)⟩
end
end Go.Proofs.Ytdelmfpchbpafaa

/- The two oracles side by side: tables against rows. -/
set_option linter.unusedVariables false
set_option linter.unusedSimpArgs false
namespace Go.Proofs.Ytdelmfpchbpafaa
open Go Go.Mx Go.Proofs
theorem ex_add {L : List RRow} {r0 : RRow} {f : RRow → Prop} : (∃ r ∈ L ++ [r0], f r) ↔ (∃ r ∈ L, f r) ∨ f r0 := by
  constructor
  · rintro ⟨r, hr, h⟩
    rcases List.mem_append.1 hr with hr | hr
    · exact .inl ⟨r, hr, h⟩
    · simp at hr; subst hr; exact .inr h
  · rintro (⟨r, hr, h⟩ | h)
    · exact ⟨r, List.mem_append_left _ hr, h⟩
    · exact ⟨r0, by simp, h⟩
theorem ex_no {L : List RRow} {r0 : RRow} {f : RRow → Prop} (h : ¬ f r0) : (∃ r ∈ L ++ [r0], f r) ↔ ∃ r ∈ L, f r := by
  rw [ex_add]; exact ⟨fun h' => h'.resolve_right h, .inl⟩
theorem alook_new {κ β : Type} [DecidableEq κ] {T : List (κ × β)} {k c : κ} {v y : β} (h : alook T k = none) : alook (aput T k v) c = some y ↔ alook T c = some y ∨ (k = c ∧ v = y) := by
  rw [alook_put]
  by_cases hc : k = c
  · subst hc; rw [if_pos rfl, h]; simp
  · rw [if_neg hc]; simp [hc]
structure Sim (S : OS) (d : List Int) (L : List RRow) : Prop where
  ok : S.ok
  dr : S.draws = d
  us : S.used = L.map RRow.h
  nd : (L.map RRow.h).Nodup
  nz : ∀ r ∈ L, r.h ≠ 0
  hs : ∀ b x, alook S.hashes b = some x ↔ ∃ r ∈ L, r.kind = 1 ∧ r.A = b ∧ r.h = x
  ky : ∀ k, k ∈ S.keys ↔ ∃ r ∈ L, r.kind = 2 ∧ r.h = k
  sc : ∀ s, s ∈ S.secrets ↔ ∃ r ∈ L, r.kind = 3 ∧ r.h = s
  pb : ∀ p s, alook S.publics p = some s ↔ ∃ r ∈ L, r.kind = 4 ∧ r.h = p ∧ r.n = s
  sg : ∀ q x, alook S.signs q = some x ↔ ∃ r ∈ L, r.kind = 5 ∧ (r.n, r.A) = q ∧ r.h = x
  sd : ∀ x q, alook S.signed x = some q ↔ ∃ r ∈ L, r.kind = 5 ∧ (r.n, r.A) = q ∧ r.h = x
  se : ∀ x q, alook S.sealed x = some q ↔ ∃ r ∈ L, r.kind = 6 ∧ r.h = x ∧ q = ⟨r.n, r.A, r.B⟩
  wr : ∀ x q, alook S.wrapped x = some q ↔ ∃ r ∈ L, r.kind = 7 ∧ r.h = x ∧ (r.n, r.m) = q
theorem Sim.init {l : List Int} (hl : ∀ d ∈ l, 0 ≤ d ∧ d < 18446744073709551616) : Sim (OS.init l) l [] := by
  refine ⟨OS.init_ok l hl, rfl, rfl, by simp, by simp, ?_, ?_, ?_, ?_, ?_, ?_, ?_, ?_⟩ <;> simp [OS.init, alook]
section
variable {S : OS} {d : List Int} {L : List RRow}
theorem Sim.mem_used (h : Sim S d L) {r : RRow} (hr : r ∈ L) : r.h ∈ S.used := by rw [h.us]; exact List.mem_map_of_mem hr
theorem uniq : ∀ {L : List RRow}, (L.map RRow.h).Nodup → ∀ {r s : RRow}, r ∈ L → s ∈ L → r.h = s.h → r = s
  | [], _, r, s, hr, _, _ => by cases hr
  | a :: l, hn, r, s, hr, hs, he => by
    simp only [List.map_cons, List.nodup_cons] at hn
    rcases List.mem_cons.1 hr with rfl | hr' <;> rcases List.mem_cons.1 hs with rfl | hs'
    · rfl
    · exact (hn.1 (List.mem_map.2 ⟨s, hs', he.symm⟩)).elim
    · exact (hn.1 (List.mem_map.2 ⟨r, hr', he⟩)).elim
    · exact uniq hn.2 hr' hs' he
theorem isR_some (hn : (L.map RRow.h).Nodup) {x k : Int} {r : RRow} : isR L x k = some r ↔ r ∈ L ∧ r.h = x ∧ r.kind = k := by
  unfold isR
  constructor
  · intro h
    rw [Option.bind_eq_some_iff] at h
    obtain ⟨a, h1, h2⟩ := h
    have m := List.mem_of_find?_eq_some h1
    have e := List.find?_some h1
    split at h2
    · rename_i hk; cases h2; exact ⟨m, by simpa using e, hk⟩
    · cases h2
  · rintro ⟨h1, h2, h3⟩
    cases hf : L.find? (fun r => r.h == x) with
    | none =>
      rw [List.find?_eq_none] at hf
      exact absurd (by simpa using h2) (hf r h1)
    | some a =>
      have m := List.mem_of_find?_eq_some hf
      have e := List.find?_some hf
      obtain rfl : a = r := uniq hn m h1 (by rw [h2]; simpa using e)
      show (if a.kind = k then some a else none) = some a
      rw [if_pos h3]
theorem isR_none (hn : (L.map RRow.h).Nodup) {x k : Int} : isR L x k = none ↔ ¬ ∃ r ∈ L, r.kind = k ∧ r.h = x := by
  constructor
  · rintro h ⟨r, h1, h2, h3⟩
    rw [(isR_some hn).2 ⟨h1, h3, h2⟩] at h; cases h
  · intro h
    cases hi : isR L x k with
    | none => rfl
    | some r => obtain ⟨a, b, c⟩ := (isR_some hn).1 hi; exact absurd ⟨r, a, c, b⟩ h
/-- the same handle. -/
theorem Sim.fresh (h : Sim S d L) (r : RRow) : (putR d L r).1 = (freshOf S).1 ∧ (putR d L r).2.1 = (freshOf S).2.draws := by
  obtain ⟨h1, h2, h3, h4⟩ := h.ok
  unfold putR freshOf freshR
  rw [← h.us, ← h.dr]
  cases hp : pickD S.draws S.used with
  | some q => exact ⟨rfl, rfl⟩
  | none =>
    refine ⟨?_, rfl⟩
    obtain ⟨a1, a2, a3, a4, a5⟩ := pickN_spec S.used (S.used.length + 1) S.next h1 (gap S.used _ _ (by omega))
    obtain ⟨b1, b2, b3, b4, b5⟩ := pickN_spec S.used (S.used.length + 1) 1 (Int.le_refl _) (gap S.used _ _ (by omega))
    show pickN S.used (S.used.length + 1) 1 = pickN S.used (S.used.length + 1) S.next
    generalize pickN S.used (S.used.length + 1) 1 = x at *
    generalize pickN S.used (S.used.length + 1) S.next = y at *
    rcases Int.lt_trichotomy x y with c | c | c
    · exfalso
      by_cases hx : x < S.next
      · exact b3 (h2 x b1 hx)
      · exact b3 (a5 x (by omega) c)
    · exact c
    · exact absurd (b5 y (by omega) c) a3
/-- a row more: all but the tables. -/
theorem Sim.put (h : Sim S d L) (r : RRow) : (freshOf S).2.ok ∧ (freshOf S).2.draws = (putR d L r).2.1 ∧ (freshOf S).2.used = (putR d L r).2.2.map RRow.h ∧ ((putR d L r).2.2.map RRow.h).Nodup ∧ (∀ z ∈ (putR d L r).2.2, z.h ≠ 0) ∧
    (putR d L r).2.2 = L ++ [{ r with h := (freshOf S).1 }] ∧ (∀ z ∈ L, z.h ≠ (freshOf S).1) := by
  obtain ⟨a1, a2, a3, a4⟩ := freshOf_spec h.ok
  obtain ⟨b1, b2⟩ := h.fresh r
  have e : (putR d L r).2.2 = L ++ [{ r with h := (freshOf S).1 }] := by rw [← b1]; rfl
  have hne : ∀ z ∈ L, z.h ≠ (freshOf S).1 := fun z hz he => a2 (he ▸ h.mem_used hz)
  refine ⟨a4, b2.symm, by rw [a3, e, h.us]; simp, ?_, ?_, e, hne⟩
  · rw [e, List.map_append, List.nodup_append]
    refine ⟨h.nd, by simp, fun a ha b hb => ?_⟩
    obtain ⟨z, hz, rfl⟩ := List.mem_map.1 ha
    simp at hb; subst hb; exact hne z hz
  · rw [e]
    intro z hz
    rcases List.mem_append.1 hz with hz | hz
    · exact h.nz z hz
    · simp at hz; subst hz; exact a1
theorem new_none {κ β : Type} [DecidableEq κ] {T : List (κ × β)} {k : κ} (h : ∀ y, ¬ alook T k = some y) : alook T k = none := by
  cases hk : alook T k with
  | none => rfl
  | some y => exact absurd hk (h y)
theorem Sim.find (h : Sim S d L) {p : RRow → Bool} {x : Int} (hx : ∃ r ∈ L, p r = true ∧ r.h = x) (hu : ∀ r ∈ L, p r = true → r.h = x) : ∃ r, L.find? p = some r ∧ r.h = x := by
  cases hf : L.find? p with
  | none => obtain ⟨r, a, b, _⟩ := hx; rw [List.find?_eq_none] at hf; exact absurd b (hf r a)
  | some r => exact ⟨r, rfl, hu r (List.mem_of_find?_eq_some hf) (List.find?_some hf)⟩
theorem hash_sim (h : Sim S d L) (b : List UInt8) : (hashR d L b).1 = (hashOf S b).1 ∧ Sim (hashOf S b).2 (hashR d L b).2.1 (hashR d L b).2.2 := by
  unfold hashR hashOf
  cases hk : alook S.hashes b with
  | some x =>
    obtain ⟨r, h1, h2, h3, h4⟩ := (h.hs b x).1 hk
    obtain ⟨z, hz, hx⟩ := h.find (p := fun r => r.kind == 1 && decide (r.A = b)) ⟨r, h1, by simp [h2, h3], h4⟩ fun r hr hp => by
      simp at hp
      have := (h.hs b r.h).2 ⟨r, hr, hp.1, hp.2, rfl⟩
      rw [hk] at this; exact (Option.some.inj this).symm
    rw [hz]
    exact ⟨hx, h⟩
  | none =>
    have hf : L.find? (fun r => r.kind == 1 && decide (r.A = b)) = none := by
      rw [List.find?_eq_none]
      intro r hr hp
      simp at hp
      rw [(h.hs b r.h).2 ⟨r, hr, hp.1, hp.2, rfl⟩] at hk; cases hk
    rw [hf]
    obtain ⟨a1, a2, a3, a4, a5, a6, a7⟩ := h.put ⟨0, 1, b, [], 0, 0⟩
    obtain ⟨c1, c2, c3, c4, c5, c6, c7, c8⟩ := freshOf_frame S
    refine ⟨(h.fresh _).1, ⟨a1, a2, a3, a4, a5, fun c x => ?_, fun k => ?_, fun s => ?_, fun p s => ?_, fun q x => ?_, fun x q => ?_, fun x q => ?_, fun x q => ?_⟩⟩ <;> simp only [a6]
    · rw [alook_new hk, h.hs, ex_add]; simp
    · rw [c2, h.ky, ex_no (by simp)]
    · rw [c3, h.sc, ex_no (by simp)]
    · rw [c4, h.pb, ex_no (by simp)]
    · rw [c5, h.sg, ex_no (by simp)]
    · rw [c6, h.sd, ex_no (by simp)]
    · rw [c7, h.se, ex_no (by simp)]
    · rw [c8, h.wr, ex_no (by simp)]
theorem sec_sim (h : Sim S d L) : (putR d L ⟨0, 3, [], [], 0, 0⟩).1 = (freshOf S).1 ∧ Sim { (freshOf S).2 with secrets := badd S.secrets (freshOf S).1 } (putR d L ⟨0, 3, [], [], 0, 0⟩).2.1 (putR d L ⟨0, 3, [], [], 0, 0⟩).2.2 := by
  obtain ⟨a1, a2, a3, a4, a5, a6, a7⟩ := h.put ⟨0, 3, [], [], 0, 0⟩
  obtain ⟨c1, c2, c3, c4, c5, c6, c7, c8⟩ := freshOf_frame S
  refine ⟨(h.fresh _).1, ⟨a1, a2, a3, a4, a5, fun c x => ?_, fun k => ?_, fun s => ?_, fun p s => ?_, fun q x => ?_, fun x q => ?_, fun x q => ?_, fun x q => ?_⟩⟩ <;> simp only [a6]
  · rw [c1, h.hs, ex_no (by simp)]
  · rw [c2, h.ky, ex_no (by simp)]
  · rw [badd_mem, h.sc, ex_add]; simp [eq_comm]
  · rw [c4, h.pb, ex_no (by simp)]
  · rw [c5, h.sg, ex_no (by simp)]
  · rw [c6, h.sd, ex_no (by simp)]
  · rw [c7, h.se, ex_no (by simp)]
  · rw [c8, h.wr, ex_no (by simp)]
theorem pair_sim (h : Sim S d L) : (pairR d L).1 = (pairOf S).1 ∧ Sim (pairOf S).2 (pairR d L).2.1 (pairR d L).2.2 := by
  obtain ⟨e1, h1⟩ := sec_sim h
  unfold pairR pairOf
  simp only []
  rw [e1]
  generalize putR d L ⟨0, 3, [], [], 0, 0⟩ = P at *
  obtain ⟨a1, a2, a3, a4, a5, a6, a7⟩ := h1.put ⟨0, 4, [], [], (freshOf S).1, 0⟩
  obtain ⟨c1, c2, c3, c4, c5, c6, c7, c8⟩ := freshOf_frame S
  obtain ⟨d1, d2, d3, d4, d5, d6, d7, d8⟩ := freshOf_frame { (freshOf S).2 with secrets := badd S.secrets (freshOf S).1 }
  have e2 := (h1.fresh ⟨0, 4, [], [], (freshOf S).1, 0⟩).1
  refine ⟨by rw [e2], ⟨a1, a2, a3, a4, a5, fun c x => ?_, fun k => ?_, fun s => ?_, fun p s => ?_, fun q x => ?_, fun x q => ?_, fun x q => ?_, fun x q => ?_⟩⟩ <;> simp only [a6]
  · rw [d1, h1.hs, ex_no (by simp)]
  · rw [d2, h1.ky, ex_no (by simp)]
  · rw [d3, h1.sc, ex_no (by simp)]
  · have hpb : alook S.publics p = some s ↔ _ := (by rw [congrArg (fun t => alook t p) c4.symm] : alook S.publics p = some s ↔ alook (freshOf S).2.publics p = some s).trans (h1.pb p s)
    rw [alook_new (new_none fun y hy => ?_), hpb, ex_add]
    · simp
    · have hy := (congrArg (fun t => alook t _) c4).trans hy
      obtain ⟨r, q1, q2, q3, q4⟩ := (h1.pb _ _).1 hy
      exact a7 r q1 q3
  · rw [d5, h1.sg, ex_no (by simp)]
  · rw [d6, h1.sd, ex_no (by simp)]
  · rw [d7, h1.se, ex_no (by simp)]
  · rw [d8, h1.wr, ex_no (by simp)]
theorem sec_is (h : Sim S d L) (s : Int) : (∃ r, isR L s 3 = some r) ↔ s ∈ S.secrets := by
  rw [h.sc]
  constructor
  · rintro ⟨r, hr⟩; obtain ⟨a, b, c⟩ := (isR_some h.nd).1 hr; exact ⟨r, a, c, b⟩
  · rintro ⟨r, a, c, b⟩; exact ⟨r, (isR_some h.nd).2 ⟨a, b, c⟩⟩
theorem sign_sim (h : Sim S d L) (s : Int) (b : List UInt8) : (signR d L s b).1 = ((signOf S s b).1.1, if (signOf S s b).1.2 then 0 else 11) ∧ Sim (signOf S s b).2 (signR d L s b).2.1 (signR d L s b).2.2 := by
  unfold signR signOf
  by_cases hs : s ∈ S.secrets
  · obtain ⟨r0, hr0⟩ := (sec_is h s).2 hs
    rw [if_pos hs, hr0]
    simp only []
    cases hk : alook S.signs (s, b) with
    | some x =>
      obtain ⟨r, h1, h2, h3, h4⟩ := (h.sg _ x).1 hk
      obtain ⟨z, hz, hx⟩ := h.find (p := fun r => r.kind == 5 && (r.n == s && decide (r.A = b))) ⟨r, h1, by cases h3; simp [h2], h4⟩ fun r hr hp => by
        simp at hp
        have := (h.sg (s, b) r.h).2 ⟨r, hr, hp.1, by rw [hp.2.1, hp.2.2], rfl⟩
        rw [hk] at this; exact (Option.some.inj this).symm
      rw [hz]
      exact ⟨by simp [hx], h⟩
    | none =>
      have hf : L.find? (fun r => r.kind == 5 && (r.n == s && decide (r.A = b))) = none := by
        rw [List.find?_eq_none]
        intro r hr hp
        simp at hp
        rw [(h.sg (s, b) r.h).2 ⟨r, hr, hp.1, by rw [hp.2.1, hp.2.2], rfl⟩] at hk; cases hk
      rw [hf]
      obtain ⟨a1, a2, a3, a4, a5, a6, a7⟩ := h.put ⟨0, 5, b, [], s, 0⟩
      obtain ⟨c1, c2, c3, c4, c5, c6, c7, c8⟩ := freshOf_frame S
      refine ⟨by simp [(h.fresh _).1], ⟨a1, a2, a3, a4, a5, fun c x => ?_, fun k => ?_, fun s => ?_, fun p s => ?_, fun q x => ?_, fun x q => ?_, fun x q => ?_, fun x q => ?_⟩⟩ <;> simp only [a6]
      · rw [c1, h.hs, ex_no (by simp)]
      · rw [c2, h.ky, ex_no (by simp)]
      · rw [c3, h.sc, ex_no (by simp)]
      · rw [c4, h.pb, ex_no (by simp)]
      · rw [alook_new hk, h.sg, ex_add]; simp
      · rw [alook_new (new_none fun y hy => ?_), h.sd, ex_add]
        · simp [and_comm]
        · obtain ⟨r, q1, q2, q3, q4⟩ := (h.sd _ _).1 hy
          exact a7 r q1 q4
      · rw [c7, h.se, ex_no (by simp)]
      · rw [c8, h.wr, ex_no (by simp)]
  · have hi : isR L s 3 = none := by
      cases hi : isR L s 3 with
      | none => rfl
      | some r => exact absurd ((sec_is h s).1 ⟨r, hi⟩) hs
    rw [if_neg hs, hi]
    exact ⟨rfl, h⟩
theorem pub_is (h : Sim S d L) (p : Int) : (isR L p 4).map RRow.n = alook S.publics p := by
  cases hi : isR L p 4 with
  | none =>
    cases hk : alook S.publics p with
    | none => rfl
    | some s => obtain ⟨r, a, b, c, _⟩ := (h.pb p s).1 hk; exact absurd ⟨r, a, b, c⟩ ((isR_none h.nd).1 hi)
  | some r => obtain ⟨a, b, c⟩ := (isR_some h.nd).1 hi; exact ((h.pb p r.n).2 ⟨r, a, c, b, rfl⟩).symm
theorem sig_is (h : Sim S d L) (x : Int) : (isR L x 5).map (fun r => (r.n, r.A)) = alook S.signed x := by
  cases hi : isR L x 5 with
  | none =>
    cases hk : alook S.signed x with
    | none => rfl
    | some s => obtain ⟨r, a, b, _, c⟩ := (h.sd x s).1 hk; exact absurd ⟨r, a, b, c⟩ ((isR_none h.nd).1 hi)
  | some r => obtain ⟨a, b, c⟩ := (isR_some h.nd).1 hi; exact ((h.sd x (r.n, r.A)).2 ⟨r, a, c, rfl, b⟩).symm
theorem verify_sim (h : Sim S d L) (p : Int) (b : List UInt8) (x : Int) : verifyR L p b x = verifyOf S p b x := by
  unfold verifyR verifyOf
  rw [← pub_is h p, ← sig_is h x]
  cases isR L p 4 with
  | none => rfl
  | some y =>
    cases isR L x 5 with
    | none => rfl
    | some z => show decide (z.n = y.n ∧ z.A = b) = decide ((z.n, z.A) = (y.n, b)); congr 1; simp
end
end Go.Proofs.Ytdelmfpchbpafaa

/- The reference's rows, few and short; both oracles. -/
set_option linter.unusedVariables false
set_option linter.unusedSimpArgs false
set_option maxRecDepth 20000
namespace Go.Proofs.Ytdelmfpchbpafaa
open Go Go.Mx Go.Proofs
/-- the rows are few, and short. -/
structure RFine (n : Nat) (d : List Int) (L : List RRow) : Prop where
  draws : ∀ x ∈ d, 0 ≤ x ∧ x < 18446744073709551616
  short : L.length ≤ n
  bytes : ∀ r ∈ L, r.A.length < 1000000 ∧ r.B.length < 1000000
section
variable {w w' : World} {o o' : Own} {k n : Nat} {K : Nat → Prop} {S : OS} {d : List Int} {L : List RRow}
theorem RFine.rok (h : RFine n d L) (ok : Tags w o) (hn : n < 1000000) : ROk w o d L := ⟨ok, h.draws, Nat.lt_of_le_of_lt h.short hn, h.bytes⟩
theorem RFine.more (h : RFine n d L) : RFine (n + 1) d L := ⟨h.draws, Nat.le_succ_of_le h.short, h.bytes⟩
theorem RFine.put (h : RFine n d L) (r : RRow) (hr : r.A.length < 1000000 ∧ r.B.length < 1000000) : RFine (n + 1) (putR d L r).2.1 (putR d L r).2.2 := by
  refine ⟨freshR_draws h.draws, ?_, fun z hz => ?_⟩
  · have := h.short; rw [putR_len]; omega
  · rcases List.mem_append.1 hz with hz | hz
    · exact h.bytes z hz
    · simp at hz; subst hz; exact hr
theorem RFine.hash (h : RFine n d L) {b : List UInt8} (hb : b.length < 1000000) : RFine (n + 1) (hashR d L b).2.1 (hashR d L b).2.2 := by
  unfold hashR
  split
  · exact h.more
  · exact h.put _ ⟨hb, by show (0 : Nat) < _; decide⟩
theorem RFine.pair (h : RFine n d L) : RFine (n + 2) (pairR d L).2.1 (pairR d L).2.2 :=
  (h.put ⟨0, 3, [], [], 0, 0⟩ (by decide)).put _ ⟨by show (0 : Nat) < _; decide, by show (0 : Nat) < _; decide⟩
theorem RFine.sign (h : RFine n d L) (s : Int) {b : List UInt8} (hb : b.length < 1000000) : RFine (n + 1) (signR d L s b).2.1 (signR d L s b).2.2 := by
  unfold signR
  split
  · exact h.more
  · split
    · exact h.more
    · exact h.put _ ⟨hb, by show (0 : Nat) < _; decide⟩
/-- both oracles. -/
structure Two (w : World) (o : Own) (k j : Nat) (S : OS) (d : List Int) (L : List RRow) (n : Nat) : Prop where
  p : POrc w o k S
  r : ROrc w o j d L
  sim : Sim S d L
  inv : OInv S
  fine : RFine n d L
  ok : Tags w o
  ne : k ≠ j
variable {j : Nat}
theorem Two.step (h : Two w o k j S d L n) (s : Step no w o w' o') : Two w' o' k j S d L n := ⟨h.p.step s id, h.r.step s id, h.sim, h.inv, h.fine, s.ok, h.ne⟩
theorem Two.len (h : Two w o k j S d L n) : S.used.length ≤ n := by rw [h.sim.us, List.length_map]; exact h.fine.short
theorem Two.rok (h : Two w o k j S d L n) (hn : n < 1000000) : ROk w o d L := h.fine.rok h.ok hn
theorem Two.turn {w1 : World} {o1 : Own} {S' : OS} {d' : List Int} {L' : List RRow} {n' : Nat} (h : Two w o k j S d L n) (s1 : Step (fun i => i = k) w o w1 o1) (p1 : POrc w1 o1 k S') (s2 : Step (fun i => i = j) w1 o1 w' o') (r2 : ROrc w' o' j d' L')
    (sim : Sim S' d' L') (inv : OInv S') (fine : RFine n' d' L') : Two w' o' k j S' d' L' n' ∧ Step (fun i => i = k ∨ i = j) w o w' o' :=
  ⟨⟨p1.step s2 h.ne, r2, sim, inv, fine, s2.ok, h.ne⟩, (s1.mono fun _ h _ => .inl h).trans (s2.mono fun _ h _ => .inr h)⟩
end
/-- the reference's, as it is made. -/
theorem ROrc.init {w w' : World} {o : Own} {q : Nat} {da : Option Addr} {dc : Nat} {d : List Int} (X : Ext no w w') (hb : Blk w' q 31 [.slice da d.length dc, .slice none 0 0]) (h1 : w.heap.size ≤ q) (h2 : q < w'.heap.size) (ok : Tags w o) (hd : Row w o da (d.map u64V)) (hc : d.length ≤ dc) :
    ∃ o', Step no w o w' o' ∧ ROrc w' o' q d [] := by
  have s := (Step.of_no X ok).tag h1 h2
  refine ⟨_, s, [], rfl, tag_self, ⟨da, dc, none, 0, hb, hc, hd.step s, Grows.nil _ _ _ _ _, fun ad ha => by cases ha⟩, fun x hx => by cases hx⟩
end Go.Proofs.Ytdelmfpchbpafaa
