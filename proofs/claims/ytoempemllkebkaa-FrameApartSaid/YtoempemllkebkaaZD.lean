/- Frames: which are the same; short ones; many parts as one; what must come at any rate. -/
import Derived.Test.YtoempemllkebkaaZC
import Derived.Test.YtoempemllkebkaaZA
import Derived.Test.YtoempemllkebkaaZB
set_option linter.unusedVariables false
set_option linter.unusedSimpArgs false
set_option maxRecDepth 20000
set_option maxHeartbeats 4000000
namespace Go.Proofs.Ytoempemllkebkaa
open Go Go.Mx Go.Proofs
open W (OwnB Rd numR countR doneR)
section
variable {w w' : World} {x y : FP} {a b : Option Addr} {c d : Nat} {hs gs : List Hd}
theorem Q34 (ha : RowAt w a (hsC hs)) (hb : RowAt w b (hsC gs)) (hl : hs.length < 1000000) :
    Calls Try.prog 31 #[.slice a hs.length c, .slice b gs.length d] w (Ret (.bool (decide (hs = gs))) fun w' => Ext no w w') := by
  refine Q02.run _ _ _ _ _ _ ?_
  unfold Q02.N
  refine ⟨fun h => ⟨by rw [decide_eq_false fun e => h (by rw [e])], Ext.refl _ _⟩, fun h => ?_⟩
  have hlen : hs.length = gs.length := by omega
  refine ⟨fun m vs w1 => ∃ t : Nat, vs = [.int .i64 t] ∧ m + t = hs.length ∧ Ext no w w1 ∧ hs.take t = gs.take t, hs.length, ⟨0, rfl, rfl, Ext.refl _ _, rfl⟩, ?_⟩
  rintro m w7 i ⟨t, hi, hm, X7, ht7⟩
  simp only [List.cons.injEq, Value.int.injEq, true_and, and_true] at hi
  subst hi
  refine ⟨fun ht => ?_, fun ht => ⟨?_, X7⟩⟩
  · have htl : t < hs.length := by omega
    have htg : t < gs.length := by omega
    have ha7 := ha.no X7
    have hb7 := hb.no X7
    obtain ⟨ad, rfl⟩ := ha7.addr (hsC_ne (by intro e; subst e; simp at htl))
    obtain ⟨bd, rfl⟩ := hb7.addr (hsC_ne (by intro e; subst e; simp at htg))
    have g1 : hs[t]? = some hs[t] := List.getElem?_eq_getElem htl
    have g2 : gs[t]? = some gs[t] := List.getElem?_eq_getElem htg
    generalize hs[t] = u at *
    generalize gs[t] = v at *
    refine ⟨ad, rfl, by omega, by omega, u.1, u.2.1, u.2.2, by rw [Int.toNat_natCast]; exact hs_at ha7 g1, bd, rfl, by omega, by omega, v.1, v.2.1, v.2.2, by rw [Int.toNat_natCast]; exact hs_at hb7 g2, fun hne w9 X9 => ⟨?_, X7.trans X9⟩, fun he => ⟨by omega, by omega, fun w9 X9 => ⟨m - 1, by omega, t + 1, rfl, by omega, X7.trans X9, ?_⟩⟩⟩
    · rw [decide_eq_false fun e => hne (by rw [e, g2] at g1; cases g1; exact ⟨rfl, rfl, rfl⟩)]
    · have : u = v := Prod.ext he.1 (Prod.ext he.2.1 he.2.2)
      rw [List.take_add_one, List.take_add_one, ht7, g1, g2, this]
  · rw [List.take_of_length_le (by omega), List.take_of_length_le (by omega)] at ht7
    rw [decide_eq_true ht7]
theorem Q3H (hx : x.at w) (hy : y.at w) (hlv : x.r.v.length < 1000000) : Calls Try.prog 12 #[x.V, y.V] w (Ret (.bool (frSame x.r y.r)) fun w' => Ext no w w') := by
  obtain ⟨⟨kd, e, f, who, v, sg⟩, ea, ec, fa, fc, va, vc⟩ := x
  obtain ⟨⟨kd', e', f', who', v', sg'⟩, ea', ec', fa', fc', va', vc'⟩ := y
  refine Q0y.run kd e.w e.i e.pv e.t e.tw e.ep ea e.body.length ec e.sg f.w f.i f.pv f.t f.tw f.ep fa f.body.length fc f.sg who va v.length vc sg kd' e'.w e'.i e'.pv e'.t e'.tw e'.ep ea' e'.body.length ec' e'.sg f'.w f'.i f'.pv f'.t f'.tw f'.ep fa' f'.body.length fc' f'.sg who' va' v'.length vc' sg' ?_
  unfold Q0y.N
  have leaf : ∀ {b : Bool} {w2 : World}, (b = true ↔ (Fr.mk kd e f who v sg) = ⟨kd', e', f', who', v', sg'⟩) → Ext no w w2 → Value.bool b = Value.bool (frSame ⟨kd, e, f, who, v, sg⟩ ⟨kd', e', f', who', v', sg'⟩) ∧ Ext no w w2 := fun {b} {w2} h X => ⟨by
    congr 1
    rw [Bool.eq_iff_iff, h]
    unfold frSame; rw [decide_eq_true_eq], X⟩
  refine ⟨fun h1 => ⟨fun h2 => ⟨fun h3 w2 p46 p47 X hp => ?_, fun h w2 X => leaf (by simp [h]) X⟩, fun h w2 X => leaf (by simp [h]) X⟩, fun h w2 X => leaf (by simp [h]) X⟩
  refine (Q1I (e := e) (f := e') (hx.e.no X) (hy.e.no X)).mono fun u w3 ⟨hx3, X3⟩ => ⟨_, hx3, X3.kept, fun h4 => ?_, fun h => leaf ?_ (X.trans X3)⟩
  · have X3 := X.trans X3
    refine (Q1I (e := f) (f := f') (hx.f.no X3) (hy.f.no X3)).mono fun u w4 ⟨hx4, X4⟩ => ⟨_, hx4, X4.kept, fun h5 => ?_, fun h => leaf ?_ (X3.trans X4)⟩
    · have X4 := X3.trans X4
      refine (Q34 (hx.v.no X4) (hy.v.no X4) hlv).mono fun u w5 ⟨hx5, X5⟩ => ⟨_, hx5, leaf ?_ (X4.trans X5)⟩
      rw [decide_eq_true_eq] at h4 h5 ⊢
      rw [Fr.mk.injEq]
      exact ⟨fun h => ⟨h1, h4, h5, h2, h, h3⟩, fun h => h.2.2.2.2.1⟩
    · simp at h; simp [h]
  · simp at h; simp [h]
def FP.ofE (e : Ent) (a : Option Addr) (c : Nat) : FP := ⟨⟨1, e, Ent.zero, 0, [], 0⟩, a, c, none, 0, none, 0⟩
theorem Q35 (e : Ent) (a : Option Addr) (c : Nat) : Calls Try.prog 20 #[entV e a c] w (Ret (FP.ofE e a c).V fun w' => Ext no w w') := by
  refine Q0t.run e.w e.i e.pv e.t e.tw e.ep a e.body.length c e.sg ?_
  unfold Q0t.N
  exact fun w2 X => ⟨rfl, X⟩
def frLight (r : Fr) : Bool := decide (r.e.body.length ≤ 1500 ∧ r.f.body.length ≤ 1500 ∧ r.v.length ≤ 30)
theorem Q1N (x : FP) : Calls Try.prog 7 #[x.V] w (Ret (.bool (frLight x.r)) fun w' => Ext no w w') := by
  obtain ⟨⟨kd, e, f, who, v, sg⟩, ea, ec, fa, fc, va, vc⟩ := x
  refine Q09.run kd e.w e.i e.pv e.t e.tw e.ep ea e.body.length ec e.sg f.w f.i f.pv f.t f.tw f.ep fa f.body.length fc f.sg who va v.length vc sg ?_
  unfold Q09.N
  have leaf : ∀ {b : Bool} {w2 : World}, (b = true ↔ (e.body.length ≤ 1500 ∧ f.body.length ≤ 1500 ∧ v.length ≤ 30)) → Ext no w w2 → Value.bool b = Value.bool (frLight ⟨kd, e, f, who, v, sg⟩) ∧ Ext no w w2 := fun {b} {w2} h X => ⟨by
    congr 1
    rw [Bool.eq_iff_iff, h]
    unfold frLight; rw [decide_eq_true_eq], X⟩
  refine ⟨fun h1 => ⟨fun h2 w2 X => leaf ?_ X, fun h2 w2 X => leaf ?_ X⟩, fun h1 w2 X => leaf ?_ X⟩
  · rw [decide_eq_true_eq]; omega
  · constructor
    · intro h; cases h
    · intro h; omega
  · constructor
    · intro h; cases h
    · intro h; omega
theorem Q1m (x : FP) : Calls Try.prog 10 #[x.V] w (Ret x.V fun w' => Ext no w w') := by
  obtain ⟨⟨kd, e, f, who, v, sg⟩, ea, ec, fa, fc, va, vc⟩ := x
  refine Q0f.run kd e.w e.i e.pv e.t e.tw e.ep ea e.body.length ec e.sg f.w f.i f.pv f.t f.tw f.ep fa f.body.length fc f.sg who va v.length vc sg ?_
  unfold Q0f.N
  exact fun w2 X => ⟨rfl, X⟩
end
/-! ### many parts as one -/
def encB (b : List UInt8) : List UInt8 := numL b.length ++ b
def joinL (l : List (List UInt8)) : List UInt8 := numL l.length ++ l.flatMap encB
def bigs (l : List (List UInt8)) : Bool := l.any fun b => decide (b.length > 4000)
def joinK (l : List (List UInt8)) : List UInt8 × Int := if l.length > 1000 ∨ bigs l = true then ([], 3) else (joinL l, 0)
def joinT (l : List (List UInt8)) (t : Nat) : List UInt8 := numL l.length ++ (l.take t).flatMap encB
theorem Q42 (l : List (List UInt8)) : joinT l l.length = joinL l := by unfold joinT joinL; rw [List.take_length]
theorem Q3g (l : List (List UInt8)) (t : Nat) : (joinT l t).length ≤ (joinL l).length := by
  have e : l.flatMap encB = (l.take t).flatMap encB ++ (l.drop t).flatMap encB := by rw [← List.flatMap_append, List.take_append_drop]
  unfold joinT joinL
  rw [e]
  simp only [List.length_append]; omega
theorem Q3q {l : List (List UInt8)} {t : Nat} {x : List UInt8} (h : l[t]? = some x) : joinT l (t + 1) = joinT l t ++ encB x := by
  unfold joinT
  rw [List.take_add_one, h]
  simp
structure BsAt (w : World) (a : Option Addr) (c : Nat) (l : List BS) : Prop where
  row : RowAt w a (l.map BS.v)
  oks : ∀ x ∈ l, RowAt w x.a (bytesV x.bs) ∧ x.bs.length ≤ x.c
  le : l.length ≤ c
section
variable {w w' : World} {x y : FP} {a b : Option Addr} {c d : Nat} {l : List BS}
theorem BsAt.no (h : BsAt w a c l) (X : Ext no w w') : BsAt w' a c l := ⟨h.row.no X, fun x hx => ⟨(h.oks x hx).1.no X, (h.oks x hx).2⟩, h.le⟩
theorem BsAt.cell (h : BsAt w a c l) {i : Nat} {x : BS} (hi : l[i]? = some x) : ∃ ad, a = some ad ∧ w.cell? (ad.add (i * 1)) = some (.slice x.a x.bs.length x.c) := by
  obtain ⟨ad, ha, hc⟩ := h.row i x.v (by rw [List.getElem?_map, hi]; rfl)
  exact ⟨ad, ha, by rw [Nat.mul_one]; exact hc⟩
theorem Q3I (x : BS) : Calls Try.prog 53 #[.slice x.a x.bs.length x.c] w (Ret (.bool (decide (x.bs.length > 4000))) fun w' => w' = w) := by
  refine Q0o.run _ _ _ ?_
  unfold Q0o.N
  exact ⟨by rw [show decide ((x.bs.length : Int) > 4000) = decide (x.bs.length > 4000) by rw [decide_eq_decide]; omega], rfl⟩
theorem Q3c {l : List BS} : bigs (l.map BS.bs) = true ↔ ∃ x ∈ l, x.bs.length > 4000 := by
  unfold bigs
  rw [List.any_eq_true]
  constructor
  · rintro ⟨b, hb, h⟩
    obtain ⟨x, hx, rfl⟩ := List.mem_map.1 hb
    exact ⟨x, hx, of_decide_eq_true h⟩
  · rintro ⟨x, hx, h⟩
    exact ⟨_, List.mem_map.2 ⟨x, hx, rfl⟩, decide_eq_true h⟩
theorem Q4l {l : List BS} (h : ∀ (i : Nat) (x : BS), l[i]? = some x → x.bs.length ≤ 4000) : bigs (l.map BS.bs) = false := by
  cases hb : bigs (l.map BS.bs) with
  | false => rfl
  | true =>
    obtain ⟨x, hx, hl⟩ := Q3c.1 hb
    obtain ⟨i, hi⟩ := List.mem_iff_getElem?.1 hx
    have := h i x hi
    omega
theorem Q2X (h : BsAt w a c l) (hl : l.length < 1000000) :
    Calls Try.prog 70 #[.slice a l.length c, .func (.func 53) #[] #[]] w fun e w' => ∃ i : Int, e = .returned (.int .i64 i) ∧ decide (i ≥ 0) = bigs (l.map BS.bs) ∧ w' = w := by
  refine (Q06.go a l.length c _ _ _ (R := fun v w' => ∃ i : Int, v = .int .i64 i ∧ decide (i ≥ 0) = bigs (l.map BS.bs) ∧ w' = w) ?_).mono fun e w' ⟨v, he, i, hv, hw⟩ => ⟨i, by rw [he, hv], hw⟩
  unfold Q06.N
  refine ⟨fun m vs w1 => ∃ t : Nat, vs = [.int .i64 t] ∧ m + t = l.length ∧ w1 = w ∧ ∀ i x, i < t → l[i]? = some x → x.bs.length ≤ 4000, l.length, ⟨0, rfl, rfl, rfl, fun i x h => absurd h (by omega)⟩, ?_⟩
  rintro m w6 i ⟨t, hi, hm, rfl, hn⟩
  simp only [List.cons.injEq, Value.int.injEq, true_and, and_true] at hi
  subst hi
  refine ⟨fun ht => ?_, fun ht => ?_⟩
  · have htl : t < l.length := by omega
    have hg : l[t]? = some l[t] := List.getElem?_eq_getElem htl
    generalize l[t] = x at *
    obtain ⟨ad, ha, hc⟩ := h.cell hg
    refine ⟨ad, ha, by omega, by omega, x.a, x.bs.length, x.c, by rw [Int.toNat_natCast]; exact hc, by kernel_rfl, ?_⟩
    refine Calls.mono (Q3I x) fun u w14 ⟨he, hw⟩ => ⟨_, he, fun hy => ?_, fun hno => ⟨by omega, by omega, m - 1, by omega, t + 1, rfl, by omega, hw, fun i y hi hy => ?_⟩⟩
    · refine ⟨_, rfl, ?_, hw⟩
      rw [Q3c.2 ⟨x, List.mem_of_getElem? hg, of_decide_eq_true hy⟩, decide_eq_true (by omega)]
    · by_cases hit : i = t
      · subst hit
        rw [hg] at hy
        cases hy
        have := of_decide_eq_false hno
        omega
      · exact hn i y (by omega) hy
  · refine ⟨_, rfl, ?_, rfl⟩
    rw [Q4l fun i x hx => hn i x (by have := (List.getElem?_eq_some_iff.1 hx).1; omega) hx]; rfl
theorem Q2B (h : BsAt w a c l) (hl : l.length < 1000000) :
    Calls Try.prog 52 #[.slice a l.length c, .func (.func 53) #[] #[]] w (Ret (.bool (bigs (l.map BS.bs))) fun w' => w' = w) := by
  refine Q04.run _ _ _ _ _ _ ?_
  unfold Q04.N
  exact (Q2X h hl).mono fun e w' ⟨i, he, hi, hw⟩ => ⟨i, he, by rw [hi], hw⟩
theorem Q3u (h : BsAt w a c l) (hl : l.length < 1000000) (hz : l.length ≤ 1000 → bigs (l.map BS.bs) = false → (joinL (l.map BS.bs)).length ≤ 900000) :
    Calls Try.prog 21 #[.slice a l.length c] w (fun e w' => ∃ a' c', e = .returned (.tuple #[.slice a' (joinK (l.map BS.bs)).1.length c', .int .i64 (joinK (l.map BS.bs)).2]) ∧ OwnB w.heap.size w' a' c' (joinK (l.map BS.bs)).1 ∧ Ext no w w') := by
  refine (Q0C.go a l.length c (R := fun v w' => ∃ a' c', v = (.tuple #[.slice a' (joinK (l.map BS.bs)).1.length c', .int .i64 (joinK (l.map BS.bs)).2]) ∧ OwnB w.heap.size w' a' c' (joinK (l.map BS.bs)).1 ∧ Ext no w w') ?_).mono fun e w' ⟨v, he, a', c', hv, hw⟩ => ⟨a', c', by rw [he, hv], hw⟩
  unfold Q0C.N
  have leaf : ∀ {w2 : World}, joinK (l.map BS.bs) = ([], 3) → Ext no w w2 → ∃ a' c', (.tuple #[.slice none 0 0, .int .i64 3] : Value) = (.tuple #[.slice a' (joinK (l.map BS.bs)).1.length c', .int .i64 (joinK (l.map BS.bs)).2]) ∧ OwnB w.heap.size w2 a' c' (joinK (l.map BS.bs)).1 ∧ Ext no w w2 := fun {w2} e X => by
    rw [e]; exact ⟨none, 0, rfl, OwnB.nil _ _, X⟩
  refine ⟨fun hg => leaf (by unfold joinK; rw [if_pos (.inl (by rw [List.length_map]; omega))]) (Ext.refl _ _), fun hg => ?_⟩
  refine (Q2B h hl).mono fun u w5 ⟨he, hw⟩ => ⟨_, he, fun hb => leaf (by unfold joinK; rw [if_pos (.inr hb)]) (by rw [hw]; exact Ext.refl _ _), fun hb => ?_⟩
  subst hw
  have hk : joinK (l.map BS.bs) = (joinL (l.map BS.bs), 0) := by unfold joinK; rw [if_neg (by rw [List.length_map, hb]; simp; omega)]
  rw [hk]
  have hz := hz (by omega) hb
  rw [wu64 (n := (l.length : Int)) (by omega) (by omega)]
  refine (W.Num_spec (bs := []) (c := 0) (RowAt.nil _ _) (by simp) (n := l.length) (by omega)).mono fun u w9 ⟨a1, c1, he, hO1, X9⟩ => ⟨a1, _, c1, he, ?_⟩
  have e0 : joinT (l.map BS.bs) 0 = [] ++ numL l.length := by unfold joinT; simp
  refine ⟨fun m vs w1 => ∃ (t : Nat) (a1 : Option Addr) (c1 : Nat), vs = [.slice a1 (joinT (l.map BS.bs) t).length c1, .int .i64 t] ∧ m + t = l.length ∧ OwnB w5.heap.size w1 a1 c1 (joinT (l.map BS.bs) t) ∧ Ext no w5 w1, l.length, ⟨0, a1, c1, by rw [e0]; rfl, rfl, by rw [e0]; exact hO1, X9⟩, ?_⟩
  rintro m w14 ba bn bc i ⟨t, a2, c2, hv, hm, hO, X⟩
  simp only [List.cons.injEq, Value.slice.injEq, Value.int.injEq, true_and, and_true] at hv
  obtain ⟨⟨rfl, rfl, rfl⟩, rfl⟩ := hv
  have hlt := Q3g (l.map BS.bs) t
  refine ⟨fun ht => ?_, fun ht => ?_⟩
  · have htl : t < l.length := by omega
    have hg : l[t]? = some l[t] := List.getElem?_eq_getElem htl
    generalize l[t] = x at *
    have h14 := h.no X
    obtain ⟨ad, ha, hc⟩ := h14.cell hg
    obtain ⟨hx1, hx2⟩ := h14.oks x (List.mem_of_getElem? hg)
    have hm2 : (l.map BS.bs)[t]? = some x.bs := by rw [List.getElem?_map, hg]; rfl
    have est := Q3q hm2
    have hlt2 := Q3g (l.map BS.bs) (t + 1)
    rw [est] at hlt2
    unfold encB at est hlt2
    simp only [List.length_append] at hlt2
    refine ⟨ad, ha, by omega, by omega, x.a, x.bs.length, x.c, by rw [Int.toNat_natCast]; exact hc, ?_⟩
    refine (W.Bytes_spec hO.row (by omega) hx1 (by omega)).mono fun u w21 ⟨a3, c3, he, hO3, X21⟩ => ⟨a3, _, c3, he, by omega, by omega, m - 1, by omega, t + 1, a3, c3, ?_, by omega, ?_, X.trans X21⟩
    · rw [est, List.append_assoc]; rfl
    · rw [est, ← List.append_assoc]; exact OwnB.up hO3 X.size
  · obtain rfl : t = l.length := by omega
    rw [show l.length = (l.map BS.bs).length by rw [List.length_map], Q42] at hO ⊢
    exact ⟨ba, bc, rfl, hO, X⟩
theorem Q2R (w : World) : Calls Try.prog 8 #[] w (Ret (.bool true) fun w' => Ext no w w') := by
  refine Q0a.run ?_
  unfold Q0a.N
  intro w1 q2 X1 hb1 hq1 hq1'
  obtain ⟨w4, hr4, hrow4, X4⟩ := litB Try.underlying25 Try.underlying5 [97] X1 hb1 hq1
  refine ⟨_, _, _, w4, hr4, fun w5 q6 X5 hb5 hq6 hq6' => ?_⟩
  have hJ : joinK [[97], []] = ([2, 1, 97, 0], 0) := by decide
  have hat : BsAt w5 (some (blk q6)) 2 [⟨some (blk q2), 1, [97]⟩, ⟨none, 0, []⟩] := ⟨RowAt.of_blk hb5, fun x hx => by
    simp only [List.mem_cons, List.not_mem_nil, or_false] at hx
    rcases hx with rfl | rfl
    · exact ⟨hrow4.no X5, Nat.le_refl _⟩
    · exact ⟨RowAt.nil _ _, Nat.le_refl _⟩, Nat.le_refl _⟩
  refine (Q3u hat (show (2 : Nat) < 1000000 by decide) (fun _ _ => show (joinL [[97], []]).length ≤ 900000 by decide)).mono fun u w10 ⟨a1, c1, he, hO, X10⟩ => ?_
  rw [show ([⟨some (blk q2), 1, [97]⟩, ⟨none, 0, []⟩] : List BS).map BS.bs = [[97], []] from rfl, hJ] at he hO
  refine ⟨_, _, _, _, he, fun w11 q12 X11 hb11 hq12 hq12' => ?_⟩
  have Y10 := (X4.trans X5).trans X10
  obtain ⟨w14, hr14, hrow14, X14⟩ := litB Try.underlying25 Try.underlying5 [120] X11 hb11 hq12
  refine ⟨_, _, _, w14, hr14, fun w16 X16 => ?_⟩
  have hE : frOK ⟨1, ⟨1, 0, 0, 5, 1, 0, [120], 9⟩, Ent.zero, 0, [], 0⟩ = true := by decide
  have hf : Fr.fit ⟨1, ⟨1, 0, 0, 5, 1, 0, [120], 9⟩, Ent.zero, 0, [], 0⟩ := ⟨⟨by decide, by decide, by decide, by decide⟩, Q4o, fun _ h => (by cases h), by decide⟩
  have hL : frL ⟨1, ⟨1, 0, 0, 5, 1, 0, [120], 9⟩, Ent.zero, 0, [], 0⟩ = [1, 9, 1, 0, 0, 10, 1, 0, 1, 120, 9] := by decide
  have hK : frK ⟨1, ⟨1, 0, 0, 5, 1, 0, [120], 9⟩, Ent.zero, 0, [], 0⟩ = ([1, 9, 1, 0, 0, 10, 1, 0, 1, 120, 9], 0) := by unfold frK; rw [hE, hL]; rfl
  have Y16 := (Y10.trans X14).trans X16
  refine (Q35 ⟨1, 0, 0, 5, 1, 0, [120], 9⟩ (some (blk q12)) 1).mono fun u w39 ⟨he, X39⟩ => ⟨_, _, _, _, _, _, _, _, _, _, _, _, _, _, _, _, _, _, _, _, _, _, _, _, _, _, he, ?_⟩
  have hat2 : (FP.ofE ⟨1, 0, 0, 5, 1, 0, [120], 9⟩ (some (blk q12)) 1).at w39 := ⟨(hrow14.no X16).no X39, RowAt.nil _ _, RowAt.nil _ _⟩
  refine (Q1d hat2 hf (show (0 : Nat) ≤ 1000 by decide)).mono fun u w43 ⟨a2, c2, he, hO2, X43⟩ => ?_
  rw [show (FP.ofE ⟨1, 0, 0, 5, 1, 0, [120], 9⟩ (some (blk q12)) 1).r = ⟨1, ⟨1, 0, 0, 5, 1, 0, [120], 9⟩, Ent.zero, 0, [], 0⟩ from rfl, hK] at he hO2
  refine ⟨_, _, _, _, he, ?_⟩
  have hrd := Q2T hE hf (by rw [hL]; decide)
  rw [hL] at hrd
  refine (Q36 hO2.row hO2.le).mono fun u w66 ⟨x', he, hx, hxa, X66⟩ => ?_
  rw [hrd] at he hx
  refine ⟨_, _, _, _, _, _, _, _, _, _, _, _, _, _, _, _, _, _, _, _, _, _, _, _, _, _, _, he, fun _ => ?_, fun h => absurd rfl h⟩
  intro w70 q71 p72 X70 hb70 hq70 hq70' hp
  have Y := (((Y16.trans X39).trans X43).trans X66).trans X70
  have hOr : RowAt w70 a1 (bytesV [2, 1, 97, 0]) := hO.row.no (((((X14.trans X16).trans X39).trans X43).trans X66).trans X70)
  refine (W.sameB_spec (x := [2, 1, 97, 0]) (y := [2, 1, 97, 0]) (d := 4) hOr (RowAt.of_blk hb70) (by decide)).mono fun u w75 ⟨he, X75⟩ => ⟨_, he, X75.kept, fun _ => ⟨fun _ => ⟨fun _ => ⟨fun _ => ⟨?_, Y.trans X75⟩, fun h => absurd (by rw [hx]) h⟩, fun h => absurd rfl h⟩, fun h => absurd rfl h⟩, fun h => ?_⟩
  · rw [hx]; rfl
  · simp at h
end
structure Ent.wide (e : Ent) : Prop where
  w : -9223372036854775808 ≤ e.w ∧ e.w < 9223372036854775808
  i : -9223372036854775808 ≤ e.i ∧ e.i < 9223372036854775808
  t : -9223372036854775808 ≤ e.t ∧ e.t < 9223372036854775808
  tw : -9223372036854775808 ≤ e.tw ∧ e.tw < 9223372036854775808
  ep : -9223372036854775808 ≤ e.ep ∧ e.ep < 9223372036854775808
def EntQ (W : World) (cs : List Value) : Prop := ∃ (e : Ent) (a : Option Addr) (c : Nat), cs = entC e a c ∧ e.fit ∧ e.wide ∧ e.body.length ≤ c ∧ c ≤ maxLen ∧ RowAt W a (bytesV e.body)
theorem list8 {α : Type} : ∀ {l : List α}, l.length = 8 → ∃ a b c d e f g h, l = [a, b, c, d, e, f, g, h]
  | [a, b, c, d, e, f, g, h], _ => ⟨a, b, c, d, e, f, g, h, rfl⟩
theorem Q2H : Try.prog.cellsOf 27 = 8 := by kernel_rfl
theorem Q1b : Try.prog.cellsOf 24 = 2 := by kernel_rfl
theorem Q24 : Opens Try.prog 27 EntQ := (Q13 Try.underlying27 Q2H).mono fun W cs ⟨hl, hf⟩ => by
  obtain ⟨c0, c1, c2, c3, c4, c5, c6, c7, rfl⟩ := list8 hl
  have e0 : ∃ n, (([c0, c1, c2, c3, c4, c5, c6, c7] : List Value).drop 0).take (Try.prog.cellsOf 3) = [.int .i64 n] ∧ _ := hf 0 _ rfl _ (Q0H Try.underlying3)
  have e1 : ∃ n, (([c0, c1, c2, c3, c4, c5, c6, c7] : List Value).drop 1).take (Try.prog.cellsOf 3) = [.int .i64 n] ∧ _ := hf 1 _ rfl _ (Q0H Try.underlying3)
  have e2 : ∃ n, (([c0, c1, c2, c3, c4, c5, c6, c7] : List Value).drop 2).take (Try.prog.cellsOf 22) = [.int .u64 n] ∧ _ := hf 2 _ rfl _ (Q0H Try.underlying22)
  have e3 := hf 3 _ rfl _ (Q13 Try.underlying24 Q1b)
  change (((([c0, c1, c2, c3, c4, c5, c6, c7] : List Value).drop 3).take (Try.prog.cellsOf 24)).length = 2 ∧ _) at e3
  have e4 : ∃ n, (([c0, c1, c2, c3, c4, c5, c6, c7] : List Value).drop 5).take (Try.prog.cellsOf 3) = [.int .i64 n] ∧ _ := hf 4 _ rfl _ (Q0H Try.underlying3)
  have e5 : BytesQ W ((([c0, c1, c2, c3, c4, c5, c6, c7] : List Value).drop 6).take (Try.prog.cellsOf 25)) := hf 5 _ rfl _ (Q32 Try.underlying25 (by kernel_rfl) Try.underlying5)
  have e6 : ∃ n, (([c0, c1, c2, c3, c4, c5, c6, c7] : List Value).drop 7).take (Try.prog.cellsOf 22) = [.int .u64 n] ∧ _ := hf 6 _ rfl _ (Q0H Try.underlying22)
  have o1 : Try.prog.cellsOf 3 = 1 := by kernel_rfl
  have o2 : Try.prog.cellsOf 22 = 1 := by kernel_rfl
  have o3 : Try.prog.cellsOf 25 = 1 := by kernel_rfl
  have o4 : Try.prog.cellsOf 2 = 1 := by kernel_rfl
  simp only [o1, o2, o3, Q1b, List.drop_zero, List.drop_succ_cons, List.take_succ_cons, List.take_zero] at e0 e1 e2 e4 e5 e6
  obtain ⟨_, hs⟩ := e3
  have s0 : ∃ n, ((((([c0, c1, c2, c3, c4, c5, c6, c7] : List Value).drop 3).take (Try.prog.cellsOf 24)).drop 0).take (Try.prog.cellsOf 2)) = [.int .i64 n] ∧ _ := hs 0 _ rfl _ (Q0H Try.underlying2)
  have s1 : ∃ n, ((((([c0, c1, c2, c3, c4, c5, c6, c7] : List Value).drop 3).take (Try.prog.cellsOf 24)).drop 1).take (Try.prog.cellsOf 3)) = [.int .i64 n] ∧ _ := hs 1 _ rfl _ (Q0H Try.underlying3)
  simp only [o1, o4, Q1b, List.drop_zero, List.drop_succ_cons, List.take_succ_cons, List.take_zero] at s0 s1
  obtain ⟨n0, q0, w0⟩ := e0
  obtain ⟨n1, q1, w1⟩ := e1
  obtain ⟨n2, q2, w2⟩ := e2
  obtain ⟨n3, q3, w3⟩ := s0
  obtain ⟨n4, q4, w4⟩ := s1
  obtain ⟨n5, q5, w5⟩ := e4
  obtain ⟨a, c, bs, q6, l1, l2, r⟩ := e5
  obtain ⟨n7, q7, w7⟩ := e6
  simp only [List.cons.injEq, and_true] at q0 q1 q2 q3 q4 q5 q6 q7
  subst q0; subst q1; subst q2; subst q3; subst q4; subst q5; subst q6; subst q7
  exact ⟨⟨n0, n1, n2, n3, n4, n5, bs, n7⟩, a, c, rfl, ⟨(wf_u64 w2).1, (wf_u64 w2).2, (wf_u64 w7).1, (wf_u64 w7).2⟩, ⟨wf_i64 w0, wf_i64 w1, wf_i64 w3, wf_i64 w4, wf_i64 w5⟩, l1, l2, r⟩
open W (OwnB Rd numR countR doneR)
structure FP.inn (W : World) (x : FP) : Prop where
  at_ : x.at W
  el : x.r.e.body.length ≤ x.ec
  fl : x.r.f.body.length ≤ x.fc
  vl : x.r.v.length ≤ x.vc
  fv : ∀ h ∈ x.r.v, fitH h
  fe : x.r.e.fit ∧ x.r.e.wide
  ff : x.r.f.fit ∧ x.r.f.wide
  kd : -9223372036854775808 ≤ x.r.kd ∧ x.r.kd < 9223372036854775808
  who : -9223372036854775808 ≤ x.r.who ∧ x.r.who < 9223372036854775808
  sg : 0 ≤ x.r.sg ∧ x.r.sg < 18446744073709551616
def FrQ (W : World) (cs : List Value) : Prop := ∃ x : FP, cs = x.C ∧ x.inn W
theorem opens_frame : Opens Try.prog 30 FrQ :=
  (Q3U (qs := [(1, _), (8, _), (8, _), (1, _), (1, _), (1, _)]) (size := 20) Try.underlying30 (by kernel_rfl)
    ⟨⟨rfl, by kernel_rfl, Q0H Try.underlying3⟩, ⟨rfl, by kernel_rfl, Q24⟩, ⟨rfl, by kernel_rfl, Q24⟩, ⟨rfl, by kernel_rfl, Q0H Try.underlying3⟩, ⟨rfl, by kernel_rfl, Q2Z⟩, ⟨rfl, by kernel_rfl, Q0H Try.underlying22⟩, rfl⟩).mono
    fun W cs ⟨_, _, e0, _, ⟨kd, q0, fk⟩, _, _, e1, _, ⟨e, ea, ec, q1, f1, g1, l1, _, r1⟩, _, _, e2, _, ⟨f, fa, fc, q2, f2, g2, l2, _, r2⟩, _, _, e3, _, ⟨who, q3, fw⟩, _, _, e4, _, ⟨va, vc, hs, q4, l4, _, r4, f4⟩, _, _, e5, _, ⟨sg, q5, fs⟩, q6⟩ => by
      subst q0; subst q1; subst q2; subst q3; subst q4; subst q5; subst q6; subst e5; subst e4; subst e3; subst e2; subst e1; subst e0
      exact ⟨⟨⟨kd, e, f, who, hs, sg⟩, ea, ec, fa, fc, va, vc⟩, rfl, ⟨r1, r2, r4⟩, l1, l2, l4, f4, ⟨f1, g1⟩, ⟨f2, g2⟩, wf_i64 fk, wf_i64 fw, wf_u64 fs⟩
theorem FP.inn.fit {W : World} {x : FP} (h : x.inn W) : x.r.fit := ⟨h.fe.1, h.ff.1, fun q hq => wf_u64 (h.fv q hq).2.2, h.sg⟩
theorem frK_ok {x : Fr} (h : (frK x).2 = 0) : frOK x = true ∧ (frL x).length ≤ 4000 ∧ frK x = (frL x, 0) := by
  unfold frK at h ⊢
  cases hk : frOK x with
  | false => rw [hk, if_pos rfl] at h; exact absurd (show (1 : Int) = 0 from h) (by decide)
  | true =>
    rw [hk, if_neg (by decide)] at h
    by_cases hl : (frL x).length > 4000
    · rw [if_pos hl] at h; exact absurd (show (3 : Int) = 0 from h) (by decide)
    · exact ⟨rfl, by omega, by rw [if_neg (by decide), if_neg hl]⟩
theorem frK_len (x : Fr) : (frK x).1.length ≤ 4000 := by
  unfold frK
  split
  · exact Nat.zero_le _
  · split
    · exact Nat.zero_le _
    · show (frL x).length ≤ 4000; omega
theorem light_v {r : Fr} (h : frLight r = true) : r.e.body.length ≤ 1500 ∧ r.f.body.length ≤ 1500 ∧ r.v.length ≤ 30 := of_decide_eq_true h
set_option maxRecDepth 100000
abbrev Q03.J1 (dj : Option Addr) (dk dg : Nat) (dl : Option Addr) (di dh : Nat) (d6 db : Addr) (R : RW) (de : World) : Prop :=
 thenW (de.drew) fun cw =>
 ∃ (b5 ad am b0 bb b9 an : Int) (al : Option Addr) (ak aj : Nat) (b4 ac ah az bc b8 ap : Int) (ag : Option Addr) (ai ao : Nat) (b6 bz : Int) (cb : Option Addr) (c9 ca : Nat) (c2 : Int), cellsAt cw db [.int .i64 b5, .int .i64 ad, .int .i64 am, .int .u64 b0, .int .i64 bb, .int .i64 b9, .int .i64 an, .slice al ak aj, .int .u64 b4, .int .i64 ac, .int .i64 ah, .int .u64 az, .int .i64 bc, .int .i64 b8, .int .i64 ap, .slice ag ai ao, .int .u64 b6, .int .i64 bz, .slice cb c9 ca, .int .u64 c2] 0 ∧
 ∃ (ay a0 a2 ae ax aw a9 : Int) (a7 : Option Addr) (aa a8 : Nat) (aq a1 a3 af av ar a4 : Int) (ab : Option Addr) (a5 a6 : Nat) (au b1 : Int) (c3 : Option Addr) (c1 c0 : Nat) (b2 : Int), cellsAt cw d6 [.int .i64 ay, .int .i64 a0, .int .i64 a2, .int .u64 ae, .int .i64 ax, .int .i64 aw, .int .i64 a9, .slice a7 aa a8, .int .u64 aq, .int .i64 a1, .int .i64 a3, .int .u64 af, .int .i64 av, .int .i64 ar, .int .i64 a4, .slice ab a5 a6, .int .u64 au, .int .i64 b1, .slice c3 c1 c0, .int .u64 b2] 0 ∧
 Calls Try.prog 11 #[.slice dl di dh, .slice dj dk dg] cw fun da cu => ∃ (cg : Bool), da = .returned (.bool cg) ∧
 cellsAt cu d6 [.int .i64 ay, .int .i64 a0, .int .i64 a2, .int .u64 ae, .int .i64 ax, .int .i64 aw, .int .i64 a9, .slice a7 aa a8, .int .u64 aq, .int .i64 a1, .int .i64 a3, .int .u64 af, .int .i64 av, .int .i64 ar, .int .i64 a4, .slice ab a5 a6, .int .u64 au, .int .i64 b1, .slice c3 c1 c0, .int .u64 b2] 0 ∧
 cellsAt cu db [.int .i64 b5, .int .i64 ad, .int .i64 am, .int .u64 b0, .int .i64 bb, .int .i64 b9, .int .i64 an, .slice al ak aj, .int .u64 b4, .int .i64 ac, .int .i64 ah, .int .u64 az, .int .i64 bc, .int .i64 b8, .int .i64 ap, .slice ag ai ao, .int .u64 b6, .int .i64 bz, .slice cb c9 ca, .int .u64 c2] 0 ∧
 Calls Try.prog 10 #[.agg #[.int .i64 b5, .int .i64 ad, .int .i64 am, .int .u64 b0, .int .i64 bb, .int .i64 b9, .int .i64 an, .slice al ak aj, .int .u64 b4, .int .i64 ac, .int .i64 ah, .int .u64 az, .int .i64 bc, .int .i64 b8, .int .i64 ap, .slice ag ai ao, .int .u64 b6, .int .i64 bz, .slice cb c9 ca, .int .u64 c2]] cu fun df d5 => ∃ (cd b7 bx c4 cj co bm : Int) (bi : Option Addr) (br bt : Nat) (cc b3 bq c6 ce cr bf : Int) (bs : Option Addr) (bw bo : Nat) (cn cv : Int) (d4 : Option Addr) (cy d3 : Nat) (cs : Int), df = .returned (.agg #[.int .i64 cd, .int .i64 b7, .int .i64 bx, .int .u64 c4, .int .i64 cj, .int .i64 co, .int .i64 bm, .slice bi br bt, .int .u64 cc, .int .i64 b3, .int .i64 bq, .int .u64 c6, .int .i64 ce, .int .i64 cr, .int .i64 bf, .slice bs bw bo, .int .u64 cn, .int .i64 cv, .slice d4 cy d3, .int .u64 cs]) ∧
 cellsAt d5 d6 [.int .i64 ay, .int .i64 a0, .int .i64 a2, .int .u64 ae, .int .i64 ax, .int .i64 aw, .int .i64 a9, .slice a7 aa a8, .int .u64 aq, .int .i64 a1, .int .i64 a3, .int .u64 af, .int .i64 av, .int .i64 ar, .int .i64 a4, .slice ab a5 a6, .int .u64 au, .int .i64 b1, .slice c3 c1 c0, .int .u64 b2] 0 ∧
 Calls Try.prog 10 #[.agg #[.int .i64 ay, .int .i64 a0, .int .i64 a2, .int .u64 ae, .int .i64 ax, .int .i64 aw, .int .i64 a9, .slice a7 aa a8, .int .u64 aq, .int .i64 a1, .int .i64 a3, .int .u64 af, .int .i64 av, .int .i64 ar, .int .i64 a4, .slice ab a5 a6, .int .u64 au, .int .i64 b1, .slice c3 c1 c0, .int .u64 b2]] d5 fun d9 dc => ∃ (cp ba bl c7 cf cm bu : Int) (bn : Option Addr) (bj bp : Nat) (ch bd be c5 ci cq bk : Int) (bh : Option Addr) (bg bv : Nat) (ck cx : Int) (d2 : Option Addr) (cz d1 : Nat) (ct : Int), d9 = .returned (.agg #[.int .i64 cp, .int .i64 ba, .int .i64 bl, .int .u64 c7, .int .i64 cf, .int .i64 cm, .int .i64 bu, .slice bn bj bp, .int .u64 ch, .int .i64 bd, .int .i64 be, .int .u64 c5, .int .i64 ci, .int .i64 cq, .int .i64 bk, .slice bh bg bv, .int .u64 ck, .int .i64 cx, .slice d2 cz d1, .int .u64 ct]) ∧
 Calls Try.prog 12 #[.agg #[.int .i64 cd, .int .i64 b7, .int .i64 bx, .int .u64 c4, .int .i64 cj, .int .i64 co, .int .i64 bm, .slice bi br bt, .int .u64 cc, .int .i64 b3, .int .i64 bq, .int .u64 c6, .int .i64 ce, .int .i64 cr, .int .i64 bf, .slice bs bw bo, .int .u64 cn, .int .i64 cv, .slice d4 cy d3, .int .u64 cs], .agg #[.int .i64 cp, .int .i64 ba, .int .i64 bl, .int .u64 c7, .int .i64 cf, .int .i64 cm, .int .i64 bu, .slice bn bj bp, .int .u64 ch, .int .i64 bd, .int .i64 be, .int .u64 c5, .int .i64 ci, .int .i64 cq, .int .i64 bk, .slice bh bg bv, .int .u64 ck, .int .i64 cx, .slice d2 cz d1, .int .u64 ct]] dc fun d7 d0 => ∃ (cl : Bool), d7 = .returned (.bool cl) ∧
 bif cg == cl then (
 Calls Try.prog 8 #[] d0 fun d8 dd => ∃ (c8 : Bool), d8 = .returned (.bool c8) ∧
 R (.bool c8) dd) else (
 R (.bool false) d0)

abbrev Q03.J2 (dg dn : Addr) (R : RW) (d4 : World) : Prop :=
 ∃ (bw a0 ai bg bt c4 ac : Int) (an : Option Addr) (a9 al : Nat) (br a2 a8 b7 c3 bp a7 : Int) (ab : Option Addr) (ak aj : Nat) (ca ci : Int) (cz : Option Addr) (d3 cv : Nat) (cn : Int), cellsAt d4 dn [.int .i64 bw, .int .i64 a0, .int .i64 ai, .int .u64 bg, .int .i64 bt, .int .i64 c4, .int .i64 ac, .slice an a9 al, .int .u64 br, .int .i64 a2, .int .i64 a8, .int .u64 b7, .int .i64 c3, .int .i64 bp, .int .i64 a7, .slice ab ak aj, .int .u64 ca, .int .i64 ci, .slice cz d3 cv, .int .u64 cn] 0 ∧
 Calls Try.prog 10 #[.agg #[.int .i64 bw, .int .i64 a0, .int .i64 ai, .int .u64 bg, .int .i64 bt, .int .i64 c4, .int .i64 ac, .slice an a9 al, .int .u64 br, .int .i64 a2, .int .i64 a8, .int .u64 b7, .int .i64 c3, .int .i64 bp, .int .i64 a7, .slice ab ak aj, .int .u64 ca, .int .i64 ci, .slice cz d3 cv, .int .u64 cn]] d4 fun dk de => ∃ (co am bh c8 cj cl au : Int) (bm : Option Addr) (b2 b3 : Nat) (ce ah b9 c6 cm ch ax : Int) (aw : Option Addr) (bf bb : Nat) (cs d1 : Int) (d9 : Option Addr) (db d8 : Nat) (d2 : Int), dk = .returned (.agg #[.int .i64 co, .int .i64 am, .int .i64 bh, .int .u64 c8, .int .i64 cj, .int .i64 cl, .int .i64 au, .slice bm b2 b3, .int .u64 ce, .int .i64 ah, .int .i64 b9, .int .u64 c6, .int .i64 cm, .int .i64 ch, .int .i64 ax, .slice aw bf bb, .int .u64 cs, .int .i64 d1, .slice d9 db d8, .int .u64 d2]) ∧
 Calls Try.prog 9 #[.agg #[.int .i64 co, .int .i64 am, .int .i64 bh, .int .u64 c8, .int .i64 cj, .int .i64 cl, .int .i64 au, .slice bm b2 b3, .int .u64 ce, .int .i64 ah, .int .i64 b9, .int .u64 c6, .int .i64 cm, .int .i64 ch, .int .i64 ax, .slice aw bf bb, .int .u64 cs, .int .i64 d1, .slice d9 db d8, .int .u64 d2]] de fun dc d5 => ∃ (bk : Option Addr) (bl bi : Nat) (bz : Int), dc = .returned (.tuple #[.slice bk bl bi, .int .i64 bz]) ∧
 ∃ (c2 a1 a5 b5 c1 bv a6 : Int) (ag : Option Addr) (aa ad : Nat) (bs a3 ar be c5 bu a4 : Int) (ao : Option Addr) (ae af : Nat) (c0 cc : Int) (cu : Option Addr) (ct cx : Nat) (cd : Int), cellsAt d5 dg [.int .i64 c2, .int .i64 a1, .int .i64 a5, .int .u64 b5, .int .i64 c1, .int .i64 bv, .int .i64 a6, .slice ag aa ad, .int .u64 bs, .int .i64 a3, .int .i64 ar, .int .u64 be, .int .i64 c5, .int .i64 bu, .int .i64 a4, .slice ao ae af, .int .u64 c0, .int .i64 cc, .slice cu ct cx, .int .u64 cd] 0 ∧
 Calls Try.prog 10 #[.agg #[.int .i64 c2, .int .i64 a1, .int .i64 a5, .int .u64 b5, .int .i64 c1, .int .i64 bv, .int .i64 a6, .slice ag aa ad, .int .u64 bs, .int .i64 a3, .int .i64 ar, .int .u64 be, .int .i64 c5, .int .i64 bu, .int .i64 a4, .slice ao ae af, .int .u64 c0, .int .i64 cc, .slice cu ct cx, .int .u64 cd]] d5 fun di dm => ∃ (cp aq bj bq cq cg bd : Int) (b0 : Option Addr) (b4 bn : Nat) (cr ap av bo cf cb b8 : Int) (ay : Option Addr) (bc ba : Nat) (ck cy : Int) (d7 : Option Addr) (da d6 : Nat) (d0 : Int), di = .returned (.agg #[.int .i64 cp, .int .i64 aq, .int .i64 bj, .int .u64 bq, .int .i64 cq, .int .i64 cg, .int .i64 bd, .slice b0 b4 bn, .int .u64 cr, .int .i64 ap, .int .i64 av, .int .u64 bo, .int .i64 cf, .int .i64 cb, .int .i64 b8, .slice ay bc ba, .int .u64 ck, .int .i64 cy, .slice d7 da d6, .int .u64 d0]) ∧
 Calls Try.prog 9 #[.agg #[.int .i64 cp, .int .i64 aq, .int .i64 bj, .int .u64 bq, .int .i64 cq, .int .i64 cg, .int .i64 bd, .slice b0 b4 bn, .int .u64 cr, .int .i64 ap, .int .i64 av, .int .u64 bo, .int .i64 cf, .int .i64 cb, .int .i64 b8, .slice ay bc ba, .int .u64 ck, .int .i64 cy, .slice d7 da d6, .int .u64 d0]] dm fun dl cw => ∃ (b1 : Option Addr) (az b6 : Nat) (bx : Int), dl = .returned (.tuple #[.slice b1 az b6, .int .i64 bx]) ∧
 bif bz != 0 then (
 Calls Try.prog 8 #[] cw fun df dd => ∃ (c7 : Bool), df = .returned (.bool c7) ∧
 R (.bool c7) dd) else (
 bif bx != 0 then (
 Calls Try.prog 8 #[] cw fun dj dh => ∃ (c9 : Bool), dj = .returned (.bool c9) ∧
 R (.bool c9) dh) else (
 Q03.J1 b1 az b6 bk bl bi dg dn R cw))

def Q03.M (cu bl bx cb cq ct c4 : Int) (c5 : Option Addr) (c7 c2 : Nat) (cp av bp c0 ci c9 bi : Int) (bt : Option Addr) (bs bk : Nat) (cg cr : Int) (d1 : Option Addr) (d2 d4 : Nat) (cw cc aw bo bw ce ch bn : Int) (bj : Option Addr) (bq bf : Nat) (cd au bu c3 ca cf bm : Int) (bh : Option Addr) (br bg : Nat) (c8 cs : Int) (d6 : Option Addr) (cz d0 : Nat) (cy : Int) (R : RW) (w : World) : Prop :=
 thenW (w.alloc (.cells #[.int .i64 cu, .int .i64 bl, .int .i64 bx, .int .u64 cb, .int .i64 cq, .int .i64 ct, .int .i64 c4, .slice c5 c7 c2, .int .u64 cp, .int .i64 av, .int .i64 bp, .int .u64 c0, .int .i64 ci, .int .i64 c9, .int .i64 bi, .slice bt bs bk, .int .u64 cg, .int .i64 cr, .slice d1 d2 d4, .int .u64 cw] 30)) fun cx =>
 thenW (cx.alloc (.cells #[.int .i64 cc, .int .i64 aw, .int .i64 bo, .int .u64 bw, .int .i64 ce, .int .i64 ch, .int .i64 bn, .slice bj bq bf, .int .u64 cd, .int .i64 au, .int .i64 bu, .int .u64 c3, .int .i64 ca, .int .i64 cf, .int .i64 bm, .slice bh br bg, .int .u64 c8, .int .i64 cs, .slice d6 cz d0, .int .u64 cy] 30)) fun d5 =>
 ∃ (bc a0 a7 aq b1 b6 ae : Int) (an : Option Addr) (aj a4 : Nat) (b3 a1 ai ar ay b9 ak : Int) (ac : Option Addr) (aa ad : Nat) (b2 c1 : Int) (ck : Option Addr) (cn co : Nat) (c6 : Int), cellsAt d5 (blk w.heap.size) [.int .i64 bc, .int .i64 a0, .int .i64 a7, .int .u64 aq, .int .i64 b1, .int .i64 b6, .int .i64 ae, .slice an aj a4, .int .u64 b3, .int .i64 a1, .int .i64 ai, .int .u64 ar, .int .i64 ay, .int .i64 b9, .int .i64 ak, .slice ac aa ad, .int .u64 b2, .int .i64 c1, .slice ck cn co, .int .u64 c6] 0 ∧
 Calls Try.prog 7 #[.agg #[.int .i64 bc, .int .i64 a0, .int .i64 a7, .int .u64 aq, .int .i64 b1, .int .i64 b6, .int .i64 ae, .slice an aj a4, .int .u64 b3, .int .i64 a1, .int .i64 ai, .int .u64 ar, .int .i64 ay, .int .i64 b9, .int .i64 ak, .slice ac aa ad, .int .u64 b2, .int .i64 c1, .slice ck cn co, .int .u64 c6]] d5 fun db cv => ∃ (az : Bool), db = .returned (.bool az) ∧
 bif !az then (
 Calls Try.prog 8 #[] cv fun dc d7 => ∃ (b8 : Bool), dc = .returned (.bool b8) ∧
 R (.bool b8) d7) else (
 ∃ (b5 a2 a8 ap ba bd a6 : Int) (ag : Option Addr) (af a5 : Nat) (ax a3 al ao bb b7 ah : Int) (am : Option Addr) (a9 ab : Nat) (b0 bz : Int) (cj : Option Addr) (cl cm : Nat) (bv : Int), cellsAt cv (blk cx.heap.size) [.int .i64 b5, .int .i64 a2, .int .i64 a8, .int .u64 ap, .int .i64 ba, .int .i64 bd, .int .i64 a6, .slice ag af a5, .int .u64 ax, .int .i64 a3, .int .i64 al, .int .u64 ao, .int .i64 bb, .int .i64 b7, .int .i64 ah, .slice am a9 ab, .int .u64 b0, .int .i64 bz, .slice cj cl cm, .int .u64 bv] 0 ∧
 Calls Try.prog 7 #[.agg #[.int .i64 b5, .int .i64 a2, .int .i64 a8, .int .u64 ap, .int .i64 ba, .int .i64 bd, .int .i64 a6, .slice ag af a5, .int .u64 ax, .int .i64 a3, .int .i64 al, .int .u64 ao, .int .i64 bb, .int .i64 b7, .int .i64 ah, .slice am a9 ab, .int .u64 b0, .int .i64 bz, .slice cj cl cm, .int .u64 bv]] cv fun d8 d3 => ∃ (b4 : Bool), d8 = .returned (.bool b4) ∧
 bif !b4 then (
 Calls Try.prog 8 #[] d3 fun da d9 => ∃ (be : Bool), da = .returned (.bool be) ∧
 R (.bool be) d9) else (
 Q03.J2 (blk cx.heap.size) (blk w.heap.size) R d3))

theorem Q03.ok (b4 a8 ao b1 b5 b6 an : Int) (ap : Option Addr) (aq al : Nat) (b8 a2 ae ak b3 az a5 : Int) (ag : Option Addr) (a6 ai : Nat) (b2 ba : Int) (bf : Option Addr) (bg bh : Nat) (b9 ar a0 ad aj ax ay ac : Int) (ab : Option Addr) (af a4 : Nat) (aw a1 ah am av b0 a9 : Int) (aa : Option Addr) (a3 a7 : Nat) (au bb : Int) (be : Option Addr) (bc bd : Nat) (b7 : Int) {R : RW} {w : World} (h : Q03.M b4 a8 ao b1 b5 b6 an ap aq al b8 a2 ae ak b3 az a5 ag a6 ai b2 ba bf bg bh b9 ar a0 ad aj ax ay ac ab af a4 aw a1 ah am av b0 a9 aa a3 a7 au bb be bc bd b7 R w) : Calls Try.prog 3 #[.agg #[.int .i64 b4, .int .i64 a8, .int .i64 ao, .int .u64 b1, .int .i64 b5, .int .i64 b6, .int .i64 an, .slice ap aq al, .int .u64 b8, .int .i64 a2, .int .i64 ae, .int .u64 ak, .int .i64 b3, .int .i64 az, .int .i64 a5, .slice ag a6 ai, .int .u64 b2, .int .i64 ba, .slice bf bg bh, .int .u64 b9], .agg #[.int .i64 ar, .int .i64 a0, .int .i64 ad, .int .u64 aj, .int .i64 ax, .int .i64 ay, .int .i64 ac, .slice ab af a4, .int .u64 aw, .int .i64 a1, .int .i64 ah, .int .u64 am, .int .i64 av, .int .i64 b0, .int .i64 a9, .slice aa a3 a7, .int .u64 au, .int .i64 bb, .slice be bc bd, .int .u64 b7]] w fun e w' => ∃ v, e = .returned v ∧ R v w' :=
  Q0b follows (H := []) (args := [.agg #[.int .i64 b4, .int .i64 a8, .int .i64 ao, .int .u64 b1, .int .i64 b5, .int .i64 b6, .int .i64 an, .slice ap aq al, .int .u64 b8, .int .i64 a2, .int .i64 ae, .int .u64 ak, .int .i64 b3, .int .i64 az, .int .i64 a5, .slice ag a6 ai, .int .u64 b2, .int .i64 ba, .slice bf bg bh, .int .u64 b9], .agg #[.int .i64 ar, .int .i64 a0, .int .i64 ad, .int .u64 aj, .int .i64 ax, .int .i64 ay, .int .i64 ac, .slice ab af a4, .int .u64 aw, .int .i64 a1, .int .i64 ah, .int .u64 am, .int .i64 av, .int .i64 b0, .int .i64 a9, .slice aa a3 a7, .int .u64 au, .int .i64 bb, .slice be bc bd, .int .u64 b7]]) (cast (by kernel_rfl) h)

def Q03.N (d5 aa al c0 d1 d4 aq : Int) (av : Option Addr) (ax ao : Nat) (d0 a1 ae an c8 bv a7 : Int) (ai : Option Addr) (ah a9 : Nat) (c5 d2 : Int) (e1 : Option Addr) (e5 e6 : Nat) (d6 c1 a2 ad aj c3 c7 ac : Int) (a8 : Option Addr) (af a3 : Nat) (c2 a0 a6 ap bz c4 ab : Int) (a5 : Option Addr) (ag a4 : Nat) (bs d3 : Int) (ek : Option Addr) (dv dy : Nat) (d7 : Int) (R : RW) (w : World) : Prop :=
 ∀ (ep : World) (f3 en : Nat), Ext no w ep → Priv w ep [f3, en] →
 Calls Try.prog 7 #[.agg #[.int .i64 d5, .int .i64 aa, .int .i64 al, .int .u64 c0, .int .i64 d1, .int .i64 d4, .int .i64 aq, .slice av ax ao, .int .u64 d0, .int .i64 a1, .int .i64 ae, .int .u64 an, .int .i64 c8, .int .i64 bv, .int .i64 a7, .slice ai ah a9, .int .u64 c5, .int .i64 d2, .slice e1 e5 e6, .int .u64 d6]] ep fun fq eo => ∃ (c6 : Bool), fq = .returned (.bool c6) ∧
 Keep [f3, en] ep eo ∧
 (c6 = false →
 Calls Try.prog 8 #[] eo fun ft fp => ∃ (dr : Bool), ft = .returned (.bool dr) ∧
 R (.bool dr) fp) ∧
 (c6 = true →
 Calls Try.prog 7 #[.agg #[.int .i64 c1, .int .i64 a2, .int .i64 ad, .int .u64 aj, .int .i64 c3, .int .i64 c7, .int .i64 ac, .slice a8 af a3, .int .u64 c2, .int .i64 a0, .int .i64 a6, .int .u64 ap, .int .i64 bz, .int .i64 c4, .int .i64 ab, .slice a5 ag a4, .int .u64 bs, .int .i64 d3, .slice ek dv dy, .int .u64 d7]] eo fun fv eq => ∃ (bu : Bool), fv = .returned (.bool bu) ∧
 Keep [f3, en] eo eq ∧
 (bu = false →
 Calls Try.prog 8 #[] eq fun fs fo => ∃ (dp : Bool), fs = .returned (.bool dp) ∧
 R (.bool dp) fo) ∧
 (bu = true →
 Calls Try.prog 10 #[.agg #[.int .i64 d5, .int .i64 aa, .int .i64 al, .int .u64 c0, .int .i64 d1, .int .i64 d4, .int .i64 aq, .slice av ax ao, .int .u64 d0, .int .i64 a1, .int .i64 ae, .int .u64 an, .int .i64 c8, .int .i64 bv, .int .i64 a7, .slice ai ah a9, .int .u64 c5, .int .i64 d2, .slice e1 e5 e6, .int .u64 d6]] eq fun fu f5 => ∃ (e3 b6 ce d8 ee eg cc : Int) (cd : Option Addr) (cw cg : Nat) (ej bb ch ds dw e0 cb : Int) (cq : Option Addr) (cz ct : Nat) (em ey : Int) (fm : Option Addr) (fh fg : Nat) (ez : Int), fu = .returned (.agg #[.int .i64 e3, .int .i64 b6, .int .i64 ce, .int .u64 d8, .int .i64 ee, .int .i64 eg, .int .i64 cc, .slice cd cw cg, .int .u64 ej, .int .i64 bb, .int .i64 ch, .int .u64 ds, .int .i64 dw, .int .i64 e0, .int .i64 cb, .slice cq cz ct, .int .u64 em, .int .i64 ey, .slice fm fh fg, .int .u64 ez]) ∧
 Keep [f3, en] eq f5 ∧
 Calls Try.prog 9 #[.agg #[.int .i64 e3, .int .i64 b6, .int .i64 ce, .int .u64 d8, .int .i64 ee, .int .i64 eg, .int .i64 cc, .slice cd cw cg, .int .u64 ej, .int .i64 bb, .int .i64 ch, .int .u64 ds, .int .i64 dw, .int .i64 e0, .int .i64 cb, .slice cq cz ct, .int .u64 em, .int .i64 ey, .slice fm fh fg, .int .u64 ez]] f5 fun fr f6 => ∃ (cl : Option Addr) (cm co : Nat) (bt : Int), fr = .returned (.tuple #[.slice cl cm co, .int .i64 bt]) ∧
 Keep [f3, en] f5 f6 ∧
 Calls Try.prog 10 #[.agg #[.int .i64 c1, .int .i64 a2, .int .i64 ad, .int .u64 aj, .int .i64 c3, .int .i64 c7, .int .i64 ac, .slice a8 af a3, .int .u64 c2, .int .i64 a0, .int .i64 a6, .int .u64 ap, .int .i64 bz, .int .i64 c4, .int .i64 ab, .slice a5 ag a4, .int .u64 bs, .int .i64 d3, .slice ek dv dy, .int .u64 d7]] f6 fun f8 e8 => ∃ (e9 b4 cj df e2 ed cx : Int) (ck : Option Addr) (c9 cp : Nat) (ec ay cv d9 eh e4 cr : Int) (ba : Option Addr) (b3 b0 : Nat) (dg dz : Int) (eu : Option Addr) (ew f1 : Nat) (e7 : Int), f8 = .returned (.agg #[.int .i64 e9, .int .i64 b4, .int .i64 cj, .int .u64 df, .int .i64 e2, .int .i64 ed, .int .i64 cx, .slice ck c9 cp, .int .u64 ec, .int .i64 ay, .int .i64 cv, .int .u64 d9, .int .i64 eh, .int .i64 e4, .int .i64 cr, .slice ba b3 b0, .int .u64 dg, .int .i64 dz, .slice eu ew f1, .int .u64 e7]) ∧
 Keep [f3, en] f6 e8 ∧
 Calls Try.prog 9 #[.agg #[.int .i64 e9, .int .i64 b4, .int .i64 cj, .int .u64 df, .int .i64 e2, .int .i64 ed, .int .i64 cx, .slice ck c9 cp, .int .u64 ec, .int .i64 ay, .int .i64 cv, .int .u64 d9, .int .i64 eh, .int .i64 e4, .int .i64 cr, .slice ba b3 b0, .int .u64 dg, .int .i64 dz, .slice eu ew f1, .int .u64 e7]] e8 fun fc dj => ∃ (bo : Option Addr) (b8 bm : Nat) (aw : Int), fc = .returned (.tuple #[.slice bo b8 bm, .int .i64 aw]) ∧
 Keep [f3, en] e8 dj ∧
 (bt ≠ 0 →
 Calls Try.prog 8 #[] dj fun fd fb => ∃ (cf : Bool), fd = .returned (.bool cf) ∧
 R (.bool cf) fb) ∧
 (bt = 0 →
 (aw ≠ 0 →
 Calls Try.prog 8 #[] dj fun fj fk => ∃ (cn : Bool), fj = .returned (.bool cn) ∧
 R (.bool cn) fk) ∧
 (aw = 0 →
 ∀ (eb : World), Ext no dj eb →
 Calls Try.prog 11 #[.slice cl cm co, .slice bo b8 bm] eb fun fa el => ∃ (bx : Bool), fa = .returned (.bool bx) ∧
 Keep [f3, en] eb el ∧
 Calls Try.prog 10 #[.agg #[.int .i64 d5, .int .i64 aa, .int .i64 al, .int .u64 c0, .int .i64 d1, .int .i64 d4, .int .i64 aq, .slice av ax ao, .int .u64 d0, .int .i64 a1, .int .i64 ae, .int .u64 an, .int .i64 c8, .int .i64 bv, .int .i64 a7, .slice ai ah a9, .int .u64 c5, .int .i64 d2, .slice e1 e5 e6, .int .u64 d6]] el fun ff ex => ∃ (dt am b2 cs dc di bj : Int) (az : Option Addr) (bn be : Nat) (de ak bh cy dk db bl : Int) (bk : Option Addr) (b1 bf : Nat) (dd ea : Int) (er : Option Addr) (f4 f2 : Nat) (dx : Int), ff = .returned (.agg #[.int .i64 dt, .int .i64 am, .int .i64 b2, .int .u64 cs, .int .i64 dc, .int .i64 di, .int .i64 bj, .slice az bn be, .int .u64 de, .int .i64 ak, .int .i64 bh, .int .u64 cy, .int .i64 dk, .int .i64 db, .int .i64 bl, .slice bk b1 bf, .int .u64 dd, .int .i64 ea, .slice er f4 f2, .int .u64 dx]) ∧
 Keep [en] el ex ∧
 Calls Try.prog 10 #[.agg #[.int .i64 c1, .int .i64 a2, .int .i64 ad, .int .u64 aj, .int .i64 c3, .int .i64 c7, .int .i64 ac, .slice a8 af a3, .int .u64 c2, .int .i64 a0, .int .i64 a6, .int .u64 ap, .int .i64 bz, .int .i64 c4, .int .i64 ab, .slice a5 ag a4, .int .u64 bs, .int .i64 d3, .slice ek dv dy, .int .u64 d7]] ex fun fl f7 => ∃ (da au b5 cu dl dq bc : Int) (bd : Option Addr) (b9 bi : Nat) (dm ar b7 ca du dh bg : Int) (bq : Option Addr) (br bp : Nat) (dn ef : Int) (f0 : Option Addr) (et es : Nat) (ei : Int), fl = .returned (.agg #[.int .i64 da, .int .i64 au, .int .i64 b5, .int .u64 cu, .int .i64 dl, .int .i64 dq, .int .i64 bc, .slice bd b9 bi, .int .u64 dm, .int .i64 ar, .int .i64 b7, .int .u64 ca, .int .i64 du, .int .i64 dh, .int .i64 bg, .slice bq br bp, .int .u64 dn, .int .i64 ef, .slice f0 et es, .int .u64 ei]) ∧
 Calls Try.prog 12 #[.agg #[.int .i64 dt, .int .i64 am, .int .i64 b2, .int .u64 cs, .int .i64 dc, .int .i64 di, .int .i64 bj, .slice az bn be, .int .u64 de, .int .i64 ak, .int .i64 bh, .int .u64 cy, .int .i64 dk, .int .i64 db, .int .i64 bl, .slice bk b1 bf, .int .u64 dd, .int .i64 ea, .slice er f4 f2, .int .u64 dx], .agg #[.int .i64 da, .int .i64 au, .int .i64 b5, .int .u64 cu, .int .i64 dl, .int .i64 dq, .int .i64 bc, .slice bd b9 bi, .int .u64 dm, .int .i64 ar, .int .i64 b7, .int .u64 ca, .int .i64 du, .int .i64 dh, .int .i64 bg, .slice bq br bp, .int .u64 dn, .int .i64 ef, .slice f0 et es, .int .u64 ei]] f7 fun f9 ev => ∃ (bw : Bool), f9 = .returned (.bool bw) ∧
 (bx = bw →
 Calls Try.prog 8 #[] ev fun fe fi => ∃ (ci : Bool), fe = .returned (.bool ci) ∧
 R (.bool ci) fi) ∧
 (bx ≠ bw →
 R (.bool false) ev)))))

theorem Q03.up (bb ab am ay b7 ba aq : Int) (ar : Option Addr) (au ao : Nat) (b6 a3 af an b5 aw a8 : Int) (aj : Option Addr) (ai aa : Nat) (b3 b8 : Int) (bg : Option Addr) (bh bi : Nat) (bc az a4 ae al b1 b4 ad : Int) (a9 : Option Addr) (ag a5 : Nat) (b0 a2 ak ap ax b2 ac : Int) (a7 : Option Addr) (ah a6 : Nat) (av b9 : Int) (bj : Option Addr) (be bf : Nat) (bd : Int) {R : RW} {w : World} (h : Q03.N bb ab am ay b7 ba aq ar au ao b6 a3 af an b5 aw a8 aj ai aa b3 b8 bg bh bi bc az a4 ae al b1 b4 ad a9 ag a5 b0 a2 ak ap ax b2 ac a7 ah a6 av b9 bj be bf bd R w) : Q03.M bb ab am ay b7 ba aq ar au ao b6 a3 af an b5 aw a8 aj ai aa b3 b8 bg bh bi bc az a4 ae al b1 b4 ad a9 ag a5 b0 a2 ak ap ax b2 ac a7 ah a6 av b9 bj be bf bd R w := by
  unfold Q03.M
  unfold Q03.N at h
  refine Q00 fun f8 fs => ?_
  have a1 := Blk.of_new fs
  have g9 := ((Ext.refl no w)).size
  have ey := (Ext.refl no w).x_alloc fs
  refine Q00 fun f5 f9 => ?_
  have a0 := Blk.of_new f9
  have fx := (ey).size
  have fi := Nat.ne_of_lt a1.lt
  have a1 := a1.x_alloc f9
  have f6 := ey.x_alloc f9
  refine ⟨bb, ab, am, ay, b7, ba, aq, ar, au, ao, b6, a3, af, an, b5, aw, a8, aj, ai, aa, b3, b8, bg, bh, bi, bc, ⟨a1.celli 0 rfl rfl, a1.celli 1 rfl rfl, a1.celli 2 rfl rfl, a1.celli 3 rfl rfl, a1.celli 4 rfl rfl, a1.celli 5 rfl rfl, a1.celli 6 rfl rfl, a1.celli 7 rfl rfl, a1.celli 8 rfl rfl, a1.celli 9 rfl rfl, a1.celli 10 rfl rfl, a1.celli 11 rfl rfl, a1.celli 12 rfl rfl, a1.celli 13 rfl rfl, a1.celli 14 rfl rfl, a1.celli 15 rfl rfl, a1.celli 16 rfl rfl, a1.celli 17 rfl rfl, a1.celli 18 rfl rfl, a1.celli 19 rfl rfl, trivial⟩, ?_⟩
  have h := h f5 (w.heap.size) (f8.heap.size) f6 (Priv.cons g9 a1.lt (Priv.cons fx a0.lt Priv.nil))
  refine h.mono fun g2 fz h => ?_
  obtain ⟨dy, he, hk, h⟩ := h
  refine ⟨dy, he, ?_⟩
  have a1 := hk.blk a1 (by simp)
  have a0 := hk.blk a0 (by simp)
  refine bif_of (fun fb => ?_) (fun fb => ?_)
  ·have h := h.1 (not_t fb)
   refine h.mono fun g5 g1 h => ?_
   obtain ⟨dx, he, h⟩ := h
   refine ⟨dx, he, ?_⟩
   exact h
  have h := h.2 (not_f fb)
  refine ⟨az, a4, ae, al, b1, b4, ad, a9, ag, a5, b0, a2, ak, ap, ax, b2, ac, a7, ah, a6, av, b9, bj, be, bf, bd, ⟨a0.celli 0 rfl rfl, a0.celli 1 rfl rfl, a0.celli 2 rfl rfl, a0.celli 3 rfl rfl, a0.celli 4 rfl rfl, a0.celli 5 rfl rfl, a0.celli 6 rfl rfl, a0.celli 7 rfl rfl, a0.celli 8 rfl rfl, a0.celli 9 rfl rfl, a0.celli 10 rfl rfl, a0.celli 11 rfl rfl, a0.celli 12 rfl rfl, a0.celli 13 rfl rfl, a0.celli 14 rfl rfl, a0.celli 15 rfl rfl, a0.celli 16 rfl rfl, a0.celli 17 rfl rfl, a0.celli 18 rfl rfl, a0.celli 19 rfl rfl, trivial⟩, ?_⟩
  refine h.mono fun g7 g8 h => ?_
  obtain ⟨dc, he, hk, h⟩ := h
  refine ⟨dc, he, ?_⟩
  have a1 := hk.blk a1 (by simp)
  have a0 := hk.blk a0 (by simp)
  refine bif_of (fun f4 => ?_) (fun f4 => ?_)
  ·have h := h.1 (not_t f4)
   refine h.mono fun g4 fy h => ?_
   obtain ⟨dv, he, h⟩ := h
   refine ⟨dv, he, ?_⟩
   exact h
  have h := h.2 (not_f f4)
  first | unfold Q03.J2 | skip
  refine ⟨bb, ab, am, ay, b7, ba, aq, ar, au, ao, b6, a3, af, an, b5, aw, a8, aj, ai, aa, b3, b8, bg, bh, bi, bc, ⟨a1.celli 0 rfl rfl, a1.celli 1 rfl rfl, a1.celli 2 rfl rfl, a1.celli 3 rfl rfl, a1.celli 4 rfl rfl, a1.celli 5 rfl rfl, a1.celli 6 rfl rfl, a1.celli 7 rfl rfl, a1.celli 8 rfl rfl, a1.celli 9 rfl rfl, a1.celli 10 rfl rfl, a1.celli 11 rfl rfl, a1.celli 12 rfl rfl, a1.celli 13 rfl rfl, a1.celli 14 rfl rfl, a1.celli 15 rfl rfl, a1.celli 16 rfl rfl, a1.celli 17 rfl rfl, a1.celli 18 rfl rfl, a1.celli 19 rfl rfl, trivial⟩, ?_⟩
  refine h.mono fun g6 g0 h => ?_
  obtain ⟨e7, bw, co, dd, ei, ek, ck, cn, d6, cq, en, c2, cr, dz, e2, e5, cl, d0, da, d3, eo, ev, fc, fa, f7, ew, he, hk, h⟩ := h
  refine ⟨e7, bw, co, dd, ei, ek, ck, cn, d6, cq, en, c2, cr, dz, e2, e5, cl, d0, da, d3, eo, ev, fc, fa, f7, ew, he, ?_⟩
  have a1 := hk.blk a1 (by simp)
  have a0 := hk.blk a0 (by simp)
  refine h.mono fun g3 ga h => ?_
  obtain ⟨cv, cw, cy, db, he, hk, h⟩ := h
  refine ⟨cv, cw, cy, db, he, ?_⟩
  have a1 := hk.blk a1 (by simp)
  have a0 := hk.blk a0 (by simp)
  refine ⟨az, a4, ae, al, b1, b4, ad, a9, ag, a5, b0, a2, ak, ap, ax, b2, ac, a7, ah, a6, av, b9, bj, be, bf, bd, ⟨a0.celli 0 rfl rfl, a0.celli 1 rfl rfl, a0.celli 2 rfl rfl, a0.celli 3 rfl rfl, a0.celli 4 rfl rfl, a0.celli 5 rfl rfl, a0.celli 6 rfl rfl, a0.celli 7 rfl rfl, a0.celli 8 rfl rfl, a0.celli 9 rfl rfl, a0.celli 10 rfl rfl, a0.celli 11 rfl rfl, a0.celli 12 rfl rfl, a0.celli 13 rfl rfl, a0.celli 14 rfl rfl, a0.celli 15 rfl rfl, a0.celli 16 rfl rfl, a0.celli 17 rfl rfl, a0.celli 18 rfl rfl, a0.celli 19 rfl rfl, trivial⟩, ?_⟩
  refine h.mono fun ff fl h => ?_
  obtain ⟨ec, bu, ct, dm, e6, eh, d8, cu, cj, cz, eg, bo, d5, de, el, e8, d1, c1, bt, bq, dn, e4, es, eu, f0, eb, he, hk, h⟩ := h
  refine ⟨ec, bu, ct, dm, e6, eh, d8, cu, cj, cz, eg, bo, d5, de, el, e8, d1, c1, bt, bq, dn, e4, es, eu, f0, eb, he, ?_⟩
  have a1 := hk.blk a1 (by simp)
  have a0 := hk.blk a0 (by simp)
  refine h.mono fun fm ez h => ?_
  obtain ⟨cf, bz, cd, d7, he, hk, h⟩ := h
  refine ⟨cf, bz, cd, d7, he, ?_⟩
  have a1 := hk.blk a1 (by simp)
  have a0 := hk.blk a0 (by simp)
  refine bif_of (fun e9 => ?_) (fun e9 => ?_)
  ·have h := h.1 (bne_t e9)
   refine h.mono fun fo fk h => ?_
   obtain ⟨cp, he, h⟩ := h
   refine ⟨cp, he, ?_⟩
   exact h
  have h := h.2 (bne_f e9)
  refine bif_of (fun ef => ?_) (fun ef => ?_)
  ·have h := h.1 (bne_t ef)
   refine h.mono fun fu fw h => ?_
   obtain ⟨cx, he, h⟩ := h
   refine ⟨cx, he, ?_⟩
   exact h
  have h := h.2 (bne_f ef)
  first | unfold Q03.J1 | skip
  refine Q00 fun f2 ee => ?_
  have et := (Ext.refl no ez).x_drew ee
  have a1 := a1.x_drew ee
  have a0 := a0.x_drew ee
  refine ⟨bb, ab, am, ay, b7, ba, aq, ar, au, ao, b6, a3, af, an, b5, aw, a8, aj, ai, aa, b3, b8, bg, bh, bi, bc, ⟨a1.celli 0 rfl rfl, a1.celli 1 rfl rfl, a1.celli 2 rfl rfl, a1.celli 3 rfl rfl, a1.celli 4 rfl rfl, a1.celli 5 rfl rfl, a1.celli 6 rfl rfl, a1.celli 7 rfl rfl, a1.celli 8 rfl rfl, a1.celli 9 rfl rfl, a1.celli 10 rfl rfl, a1.celli 11 rfl rfl, a1.celli 12 rfl rfl, a1.celli 13 rfl rfl, a1.celli 14 rfl rfl, a1.celli 15 rfl rfl, a1.celli 16 rfl rfl, a1.celli 17 rfl rfl, a1.celli 18 rfl rfl, a1.celli 19 rfl rfl, trivial⟩, ?_⟩
  refine ⟨az, a4, ae, al, b1, b4, ad, a9, ag, a5, b0, a2, ak, ap, ax, b2, ac, a7, ah, a6, av, b9, bj, be, bf, bd, ⟨a0.celli 0 rfl rfl, a0.celli 1 rfl rfl, a0.celli 2 rfl rfl, a0.celli 3 rfl rfl, a0.celli 4 rfl rfl, a0.celli 5 rfl rfl, a0.celli 6 rfl rfl, a0.celli 7 rfl rfl, a0.celli 8 rfl rfl, a0.celli 9 rfl rfl, a0.celli 10 rfl rfl, a0.celli 11 rfl rfl, a0.celli 12 rfl rfl, a0.celli 13 rfl rfl, a0.celli 14 rfl rfl, a0.celli 15 rfl rfl, a0.celli 16 rfl rfl, a0.celli 17 rfl rfl, a0.celli 18 rfl rfl, a0.celli 19 rfl rfl, trivial⟩, ?_⟩
  have h := h f2 et
  refine h.mono fun fj fv h => ?_
  obtain ⟨dk, he, hk, h⟩ := h
  refine ⟨dk, he, ?_⟩
  have a1 := hk.blk a1 (by simp)
  have a0 := hk.blk a0 (by simp)
  refine ⟨⟨a0.celli 0 rfl rfl, a0.celli 1 rfl rfl, a0.celli 2 rfl rfl, a0.celli 3 rfl rfl, a0.celli 4 rfl rfl, a0.celli 5 rfl rfl, a0.celli 6 rfl rfl, a0.celli 7 rfl rfl, a0.celli 8 rfl rfl, a0.celli 9 rfl rfl, a0.celli 10 rfl rfl, a0.celli 11 rfl rfl, a0.celli 12 rfl rfl, a0.celli 13 rfl rfl, a0.celli 14 rfl rfl, a0.celli 15 rfl rfl, a0.celli 16 rfl rfl, a0.celli 17 rfl rfl, a0.celli 18 rfl rfl, a0.celli 19 rfl rfl, trivial⟩, ⟨a1.celli 0 rfl rfl, a1.celli 1 rfl rfl, a1.celli 2 rfl rfl, a1.celli 3 rfl rfl, a1.celli 4 rfl rfl, a1.celli 5 rfl rfl, a1.celli 6 rfl rfl, a1.celli 7 rfl rfl, a1.celli 8 rfl rfl, a1.celli 9 rfl rfl, a1.celli 10 rfl rfl, a1.celli 11 rfl rfl, a1.celli 12 rfl rfl, a1.celli 13 rfl rfl, a1.celli 14 rfl rfl, a1.celli 15 rfl rfl, a1.celli 16 rfl rfl, a1.celli 17 rfl rfl, a1.celli 18 rfl rfl, a1.celli 19 rfl rfl, trivial⟩, ?_⟩
  refine h.mono fun fr fh h => ?_
  obtain ⟨e0, bl, bs, d2, dh, dq, ca, bp, ce, c5, dl, bk, c8, d9, dr, dg, cc, cb, br, c6, dj, ed, ep, f3, f1, e3, he, hk, h⟩ := h
  refine ⟨e0, bl, bs, d2, dh, dq, ca, bp, ce, c5, dl, bk, c8, d9, dr, dg, cc, cb, br, c6, dj, ed, ep, f3, f1, e3, he, ?_⟩
  have a0 := hk.blk a0 (by simp)
  refine ⟨⟨a0.celli 0 rfl rfl, a0.celli 1 rfl rfl, a0.celli 2 rfl rfl, a0.celli 3 rfl rfl, a0.celli 4 rfl rfl, a0.celli 5 rfl rfl, a0.celli 6 rfl rfl, a0.celli 7 rfl rfl, a0.celli 8 rfl rfl, a0.celli 9 rfl rfl, a0.celli 10 rfl rfl, a0.celli 11 rfl rfl, a0.celli 12 rfl rfl, a0.celli 13 rfl rfl, a0.celli 14 rfl rfl, a0.celli 15 rfl rfl, a0.celli 16 rfl rfl, a0.celli 17 rfl rfl, a0.celli 18 rfl rfl, a0.celli 19 rfl rfl, trivial⟩, ?_⟩
  refine h.mono fun fp fd h => ?_
  obtain ⟨df, bn, bv, d4, ds, dw, c3, c4, c0, c9, dt, bm, bx, cm, e1, dp, c7, ch, ci, cg, du, ej, ex, er, eq, em, he, h⟩ := h
  refine ⟨df, bn, bv, d4, ds, dw, c3, c4, c0, c9, dt, bm, bx, cm, e1, dp, c7, ch, ci, cg, du, ej, ex, er, eq, em, he, ?_⟩
  refine h.mono fun fg fe h => ?_
  obtain ⟨di, he, h⟩ := h
  refine ⟨di, he, ?_⟩
  refine bif_fo (fun ea => ?_) (fun ea => ?_)
  ·have h := h.2 (bbeq_f ea)
   exact h
  have h := h.1 (bbeq_t ea)
  refine h.mono fun fq ft h => ?_
  obtain ⟨cs, he, h⟩ := h
  refine ⟨cs, he, ?_⟩
  exact h

theorem Q03.go (b4 a8 ao b1 b5 b6 an : Int) (ap : Option Addr) (aq al : Nat) (b8 a2 ae ak b3 az a5 : Int) (ag : Option Addr) (a6 ai : Nat) (b2 ba : Int) (bf : Option Addr) (bg bh : Nat) (b9 ar a0 ad aj ax ay ac : Int) (ab : Option Addr) (af a4 : Nat) (aw a1 ah am av b0 a9 : Int) (aa : Option Addr) (a3 a7 : Nat) (au bb : Int) (be : Option Addr) (bc bd : Nat) (b7 : Int) {R : RW} {w : World} (h : Q03.N b4 a8 ao b1 b5 b6 an ap aq al b8 a2 ae ak b3 az a5 ag a6 ai b2 ba bf bg bh b9 ar a0 ad aj ax ay ac ab af a4 aw a1 ah am av b0 a9 aa a3 a7 au bb be bc bd b7 R w) : Calls Try.prog 3 #[.agg #[.int .i64 b4, .int .i64 a8, .int .i64 ao, .int .u64 b1, .int .i64 b5, .int .i64 b6, .int .i64 an, .slice ap aq al, .int .u64 b8, .int .i64 a2, .int .i64 ae, .int .u64 ak, .int .i64 b3, .int .i64 az, .int .i64 a5, .slice ag a6 ai, .int .u64 b2, .int .i64 ba, .slice bf bg bh, .int .u64 b9], .agg #[.int .i64 ar, .int .i64 a0, .int .i64 ad, .int .u64 aj, .int .i64 ax, .int .i64 ay, .int .i64 ac, .slice ab af a4, .int .u64 aw, .int .i64 a1, .int .i64 ah, .int .u64 am, .int .i64 av, .int .i64 b0, .int .i64 a9, .slice aa a3 a7, .int .u64 au, .int .i64 bb, .slice be bc bd, .int .u64 b7]] w fun e w' => ∃ v, e = .returned v ∧ R v w' := Q03.ok b4 a8 ao b1 b5 b6 an ap aq al b8 a2 ae ak b3 az a5 ag a6 ai b2 ba bf bg bh b9 ar a0 ad aj ax ay ac ab af a4 aw a1 ah am av b0 a9 aa a3 a7 au bb be bc bd b7 (Q03.up b4 a8 ao b1 b5 b6 an ap aq al b8 a2 ae ak b3 az a5 ag a6 ai b2 ba bf bg bh b9 ar a0 ad aj ax ay ac ab af a4 aw a1 ah am av b0 a9 aa a3 a7 au bb be bc bd b7 h)
theorem Q03.run (b4 a8 ao b2 b5 bb an : Int) (ap : Option Addr) (aq al : Nat) (b7 a2 ae ak b3 b0 a5 : Int) (ag : Option Addr) (a6 ai : Nat) (au b9 : Int) (bf : Option Addr) (bg bh : Nat) (b8 ar a0 ad aj ay az ac : Int) (ab : Option Addr) (af a4 : Nat) (ax a1 ah am aw b1 a9 : Int) (aa : Option Addr) (a3 a7 : Nat) (av ba : Int) (be : Option Addr) (bc bd : Nat) (b6 : Int) {V : Value} {Q : World → Prop} {w : World} (h : Q03.N b4 a8 ao b2 b5 bb an ap aq al b7 a2 ae ak b3 b0 a5 ag a6 ai au b9 bf bg bh b8 ar a0 ad aj ay az ac ab af a4 ax a1 ah am aw b1 a9 aa a3 a7 av ba be bc bd b6 (fun v w' => v = V ∧ Q w') w) : Calls Try.prog 3 #[.agg #[.int .i64 b4, .int .i64 a8, .int .i64 ao, .int .u64 b2, .int .i64 b5, .int .i64 bb, .int .i64 an, .slice ap aq al, .int .u64 b7, .int .i64 a2, .int .i64 ae, .int .u64 ak, .int .i64 b3, .int .i64 b0, .int .i64 a5, .slice ag a6 ai, .int .u64 au, .int .i64 b9, .slice bf bg bh, .int .u64 b8], .agg #[.int .i64 ar, .int .i64 a0, .int .i64 ad, .int .u64 aj, .int .i64 ay, .int .i64 az, .int .i64 ac, .slice ab af a4, .int .u64 ax, .int .i64 a1, .int .i64 ah, .int .u64 am, .int .i64 aw, .int .i64 b1, .int .i64 a9, .slice aa a3 a7, .int .u64 av, .int .i64 ba, .slice be bc bd, .int .u64 b6]] w (Ret V Q) := (Q03.go b4 a8 ao b2 b5 bb an ap aq al b7 a2 ae ak b3 b0 a5 ag a6 ai au b9 bf bg bh b8 ar a0 ad aj ay az ac ab af a4 ax a1 ah am aw b1 a9 aa a3 a7 av ba be bc bd b6 h).mono fun e w' ⟨v, he, hv, hq⟩ => ⟨by rw [he, hv], hq⟩
set_option maxRecDepth 20000
set_option maxHeartbeats 8000000
open W (OwnB)
theorem Q2f (W : World) {x y : FP} (hx : x.inn W) (hy : y.inn W) :
    Calls Try.prog 3 #[x.V, y.V] W (Ret (.bool true) fun w' => Ext no W w') := by
  refine Q03.run x.r.kd x.r.e.w x.r.e.i x.r.e.pv x.r.e.t x.r.e.tw x.r.e.ep x.ea x.r.e.body.length x.ec x.r.e.sg x.r.f.w x.r.f.i x.r.f.pv x.r.f.t x.r.f.tw x.r.f.ep x.fa x.r.f.body.length x.fc x.r.f.sg x.r.who x.va x.r.v.length x.vc x.r.sg y.r.kd y.r.e.w y.r.e.i y.r.e.pv y.r.e.t y.r.e.tw y.r.e.ep y.ea y.r.e.body.length y.ec y.r.e.sg y.r.f.w y.r.f.i y.r.f.pv y.r.f.t y.r.f.tw y.r.f.ep y.fa y.r.f.body.length y.fc y.r.f.sg y.r.who y.va y.r.v.length y.vc y.r.sg ?_
  unfold Q03.N
  have hal : ∀ w1, Ext no W w1 → Calls Try.prog 8 #[] w1 fun ee w2 => ∃ b : Bool, ee = .returned (.bool b) ∧ Value.bool b = Value.bool true ∧ Ext no W w2 := fun w1 X =>
    (Q2R w1).mono fun v w2 ⟨hx, X2⟩ => ⟨_, hx, rfl, X.trans X2⟩
  intro w42 p43 p44 X42 hp
  refine (Q1N (w := w42) x).mono fun u w47 ⟨he, X47⟩ => ⟨_, he, X47.kept, fun _ => hal _ (X42.trans X47), fun hlx => ?_⟩
  have Y47 := X42.trans X47
  refine (Q1N (w := w47) y).mono fun u w54 ⟨he, X54⟩ => ⟨_, he, X54.kept, fun _ => hal _ (Y47.trans X54), fun hly => ?_⟩
  have Y54 := Y47.trans X54
  obtain ⟨lx1, lx2, lx3⟩ := light_v hlx
  obtain ⟨ly1, ly2, ly3⟩ := light_v hly
  refine (Q1m (w := w54) x).mono fun u w80 ⟨he, X80⟩ => ⟨_, _, _, _, _, _, _, _, _, _, _, _, _, _, _, _, _, _, _, _, _, _, _, _, _, _, he, X80.kept, ?_⟩
  have Y80 := Y54.trans X80
  refine (Q1d (hx.at_.no Y80) hx.fit (by omega)).mono fun u w84 ⟨a1, c1, he, hO1, X84⟩ => ⟨a1, _, c1, _, he, X84.kept, ?_⟩
  have Y84 := Y80.trans X84
  refine (Q1m (w := w84) y).mono fun u w106 ⟨he, X106⟩ => ⟨_, _, _, _, _, _, _, _, _, _, _, _, _, _, _, _, _, _, _, _, _, _, _, _, _, _, he, X106.kept, ?_⟩
  have Y106 := Y84.trans X106
  refine (Q1d (hy.at_.no Y106) hy.fit (by omega)).mono fun u w110 ⟨a2, c2, he, hO2, X110⟩ => ⟨a2, _, c2, _, he, X110.kept, fun _ => hal _ (Y106.trans X110), fun h1 => ⟨fun _ => hal _ (Y106.trans X110), fun h2 w119 X119 => ?_⟩⟩
  have Y119 := (Y106.trans X110).trans X119
  have l1 := frK_len x.r
  have r1 := ((hO1.row.no X106).no X110).no X119
  refine (sameB_spec r1 (hO2.row.no X119) (by omega)).mono fun u w122 ⟨he, X122⟩ => ⟨_, he, X122.kept, ?_⟩
  have Y122 := Y119.trans X122
  refine (Q1m (w := w122) x).mono fun u w144 ⟨he, X144⟩ => ⟨_, _, _, _, _, _, _, _, _, _, _, _, _, _, _, _, _, _, _, _, _, _, _, _, _, _, he, X144.kept, ?_⟩
  have Y144 := Y122.trans X144
  refine (Q1m (w := w144) y).mono fun u w166 ⟨he, X166⟩ => ⟨_, _, _, _, _, _, _, _, _, _, _, _, _, _, _, _, _, _, _, _, _, _, _, _, _, _, he, ?_⟩
  have Y166 := Y144.trans X166
  refine (Q3H (hx.at_.no Y166) (hy.at_.no Y166) (by omega)).mono fun u w169 ⟨he, X169⟩ => ⟨_, he, fun _ => hal _ (Y166.trans X169), fun h => absurd ?_ h⟩
  obtain ⟨k1, k2, k3⟩ := frK_ok h1
  obtain ⟨k4, k5, k6⟩ := frK_ok h2
  rw [k3, k6]
  unfold frSame
  rw [decide_eq_decide]
  exact ⟨fun h => frL_inj k1 hx.fit k4 hy.fit h, fun h => by rw [h]⟩
theorem FrameApart_walk (W : World) (cs0 cs1 : Array Value) (o0 : FrQ W cs0.toList) (o1 : FrQ W cs1.toList) :
    Calls Try.prog 3 #[.agg cs0, .agg cs1] W (Ret (.bool true) fun w' => Ext no W w') := by
  obtain ⟨x, hx, hi⟩ := o0
  obtain ⟨y, hy, hj⟩ := o1
  obtain rfl : cs0 = x.C.toArray := Array.ext' hx
  obtain rfl : cs1 = y.C.toArray := Array.ext' hy
  exact Q2f W hi hj
end Go.Proofs.Ytoempemllkebkaa