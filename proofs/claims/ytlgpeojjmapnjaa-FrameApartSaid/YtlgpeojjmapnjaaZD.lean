/- Frames: which are the same; short ones; many parts as one; what must come at any rate. -/
import Derived.Test.YtlgpeojjmapnjaaZC
import Derived.Test.YtlgpeojjmapnjaaZA
import Derived.Test.YtlgpeojjmapnjaaZB
set_option linter.unusedVariables false
set_option linter.unusedSimpArgs false
set_option maxRecDepth 20000
set_option maxHeartbeats 4000000
namespace Go.Proofs.Ytlgpeojjmapnjaa
open Go Go.Mx Go.Proofs
open W (OwnB Rd numR countR doneR)
section
variable {w w' : World} {x y : FP} {a b : Option Addr} {c d : Nat} {hs gs : List Hd}
theorem Q32 (ha : RowAt w a (hsC hs)) (hb : RowAt w b (hsC gs)) (hl : hs.length < 1000000) :
    Calls Try.prog 56 #[.slice a hs.length c, .slice b gs.length d] w (Ret (.bool (decide (hs = gs))) fun w' => Ext no w w') := by
  refine Q02.run _ _ _ _ _ _ ?_
  unfold Q02.N
  refine ⟨fun h => ⟨by rw [decide_eq_false fun e => h (by rw [e])], Ext.refl _ _⟩, fun h => ?_⟩
  have hlen : hs.length = gs.length := by omega
  refine ⟨fun m vs w1 => ∃ t : Nat, vs = [.int .i64 t] ∧ m + t = hs.length ∧ Ext no w w1 ∧ hs.take t = gs.take t, hs.length, ⟨0, rfl, rfl, Ext.refl _ _, rfl⟩, ?_⟩
  rintro m w7 i ⟨t, hi, hm, X7, ht7⟩
  simp only [List.cons.injEq, Value.int.injEq, true_and, and_true] at hi
  subst hi
  refine ⟨fun ht => ?_, fun ht => ⟨?_, X7⟩⟩
  · have htl : t < hs.length := by omega
    have htg : t < gs.length := by omega
    have ha7 := ha.no X7
    have hb7 := hb.no X7
    obtain ⟨ad, rfl⟩ := ha7.addr (hsC_ne (by intro e; subst e; simp at htl))
    obtain ⟨bd, rfl⟩ := hb7.addr (hsC_ne (by intro e; subst e; simp at htg))
    have g1 : hs[t]? = some hs[t] := List.getElem?_eq_getElem htl
    have g2 : gs[t]? = some gs[t] := List.getElem?_eq_getElem htg
    generalize hs[t] = u at *
    generalize gs[t] = v at *
    refine ⟨ad, rfl, by omega, by omega, u.1, u.2.1, u.2.2, by rw [Int.toNat_natCast]; exact hs_at ha7 g1, bd, rfl, by omega, by omega, v.1, v.2.1, v.2.2, by rw [Int.toNat_natCast]; exact hs_at hb7 g2, fun hne w9 X9 => ⟨?_, X7.trans X9⟩, fun he => ⟨by omega, by omega, fun w9 X9 => ⟨m - 1, by omega, t + 1, rfl, by omega, X7.trans X9, ?_⟩⟩⟩
    · rw [decide_eq_false fun e => hne (by rw [e, g2] at g1; cases g1; exact ⟨rfl, rfl, rfl⟩)]
    · have : u = v := Prod.ext he.1 (Prod.ext he.2.1 he.2.2)
      rw [List.take_add_one, List.take_add_one, ht7, g1, g2, this]
  · rw [List.take_of_length_le (by omega), List.take_of_length_le (by omega)] at ht7
    rw [decide_eq_true ht7]
theorem Q3v (hx : x.at w) (hy : y.at w) (hlv : x.r.v.length < 1000000) : Calls Try.prog 24 #[x.V, y.V] w (Ret (.bool (frSame x.r y.r)) fun w' => Ext no w w') := by
  obtain ⟨⟨kd, e, f, who, v, sg⟩, ea, ec, fa, fc, va, vc⟩ := x
  obtain ⟨⟨kd', e', f', who', v', sg'⟩, ea', ec', fa', fc', va', vc'⟩ := y
  refine Q0z.run kd e.w e.i e.pv e.t e.tw e.ep ea e.body.length ec e.sg f.w f.i f.pv f.t f.tw f.ep fa f.body.length fc f.sg who va v.length vc sg kd' e'.w e'.i e'.pv e'.t e'.tw e'.ep ea' e'.body.length ec' e'.sg f'.w f'.i f'.pv f'.t f'.tw f'.ep fa' f'.body.length fc' f'.sg who' va' v'.length vc' sg' ?_
  unfold Q0z.N
  have leaf : ∀ {b : Bool} {w2 : World}, (b = true ↔ (Fr.mk kd e f who v sg) = ⟨kd', e', f', who', v', sg'⟩) → Ext no w w2 → Value.bool b = Value.bool (frSame ⟨kd, e, f, who, v, sg⟩ ⟨kd', e', f', who', v', sg'⟩) ∧ Ext no w w2 := fun {b} {w2} h X => ⟨by
    congr 1
    rw [Bool.eq_iff_iff, h]
    unfold frSame; rw [decide_eq_true_eq], X⟩
  refine ⟨fun h1 => ⟨fun h2 => ⟨fun h3 w2 p46 p47 X hp => ?_, fun h w2 X => leaf (by simp [h]) X⟩, fun h w2 X => leaf (by simp [h]) X⟩, fun h w2 X => leaf (by simp [h]) X⟩
  refine (Q1H (e := e) (f := e') (hx.e.no X) (hy.e.no X)).mono fun u w3 ⟨hx3, X3⟩ => ⟨_, hx3, X3.kept, fun h4 => ?_, fun h => leaf ?_ (X.trans X3)⟩
  · have X3 := X.trans X3
    refine (Q1H (e := f) (f := f') (hx.f.no X3) (hy.f.no X3)).mono fun u w4 ⟨hx4, X4⟩ => ⟨_, hx4, X4.kept, fun h5 => ?_, fun h => leaf ?_ (X3.trans X4)⟩
    · have X4 := X3.trans X4
      refine (Q32 (hx.v.no X4) (hy.v.no X4) hlv).mono fun u w5 ⟨hx5, X5⟩ => ⟨_, hx5, leaf ?_ (X4.trans X5)⟩
      rw [decide_eq_true_eq] at h4 h5 ⊢
      rw [Fr.mk.injEq]
      exact ⟨fun h => ⟨h1, h4, h5, h2, h, h3⟩, fun h => h.2.2.2.2.1⟩
    · simp at h; simp [h]
  · simp at h; simp [h]
def FP.ofE (e : Ent) (a : Option Addr) (c : Nat) : FP := ⟨⟨1, e, Ent.zero, 0, [], 0⟩, a, c, none, 0, none, 0⟩
theorem Q36 (e : Ent) (a : Option Addr) (c : Nat) : Calls Try.prog 25 #[entV e a c] w (Ret (FP.ofE e a c).V fun w' => Ext no w w') := by
  refine Q0t.run e.w e.i e.pv e.t e.tw e.ep a e.body.length c e.sg ?_
  unfold Q0t.N
  exact fun w2 X => ⟨rfl, X⟩
def frLight (r : Fr) : Bool := decide (r.e.body.length ≤ 1500 ∧ r.f.body.length ≤ 1500 ∧ r.v.length ≤ 30)
theorem Q1M (x : FP) : Calls Try.prog 7 #[x.V] w (Ret (.bool (frLight x.r)) fun w' => Ext no w w') := by
  obtain ⟨⟨kd, e, f, who, v, sg⟩, ea, ec, fa, fc, va, vc⟩ := x
  refine Q0a.run kd e.w e.i e.pv e.t e.tw e.ep ea e.body.length ec e.sg f.w f.i f.pv f.t f.tw f.ep fa f.body.length fc f.sg who va v.length vc sg ?_
  unfold Q0a.N
  have leaf : ∀ {b : Bool} {w2 : World}, (b = true ↔ (e.body.length ≤ 1500 ∧ f.body.length ≤ 1500 ∧ v.length ≤ 30)) → Ext no w w2 → Value.bool b = Value.bool (frLight ⟨kd, e, f, who, v, sg⟩) ∧ Ext no w w2 := fun {b} {w2} h X => ⟨by
    congr 1
    rw [Bool.eq_iff_iff, h]
    unfold frLight; rw [decide_eq_true_eq], X⟩
  refine ⟨fun h1 => ⟨fun h2 w2 X => leaf ?_ X, fun h2 w2 X => leaf ?_ X⟩, fun h1 w2 X => leaf ?_ X⟩
  · rw [decide_eq_true_eq]; omega
  · constructor
    · intro h; cases h
    · intro h; omega
  · constructor
    · intro h; cases h
    · intro h; omega
theorem Q1l (x : FP) : Calls Try.prog 10 #[x.V] w (Ret x.V fun w' => Ext no w w') := by
  obtain ⟨⟨kd, e, f, who, v, sg⟩, ea, ec, fa, fc, va, vc⟩ := x
  refine Q0f.run kd e.w e.i e.pv e.t e.tw e.ep ea e.body.length ec e.sg f.w f.i f.pv f.t f.tw f.ep fa f.body.length fc f.sg who va v.length vc sg ?_
  unfold Q0f.N
  exact fun w2 X => ⟨rfl, X⟩
end
/-! ### many parts as one -/
def encB (b : List UInt8) : List UInt8 := numL b.length ++ b
def joinL (l : List (List UInt8)) : List UInt8 := numL l.length ++ l.flatMap encB
def bigs (l : List (List UInt8)) : Bool := l.any fun b => decide (b.length > 4000)
def joinK (l : List (List UInt8)) : List UInt8 × Int := if l.length > 1000 ∨ bigs l = true then ([], 3) else (joinL l, 0)
def joinT (l : List (List UInt8)) (t : Nat) : List UInt8 := numL l.length ++ (l.take t).flatMap encB
theorem Q3Q (l : List (List UInt8)) : joinT l l.length = joinL l := by unfold joinT joinL; rw [List.take_length]
theorem Q39 (l : List (List UInt8)) (t : Nat) : (joinT l t).length ≤ (joinL l).length := by
  have e : l.flatMap encB = (l.take t).flatMap encB ++ (l.drop t).flatMap encB := by rw [← List.flatMap_append, List.take_append_drop]
  unfold joinT joinL
  rw [e]
  simp only [List.length_append]; omega
theorem Q3E {l : List (List UInt8)} {t : Nat} {x : List UInt8} (h : l[t]? = some x) : joinT l (t + 1) = joinT l t ++ encB x := by
  unfold joinT
  rw [List.take_add_one, h]
  simp
structure BsAt (w : World) (a : Option Addr) (c : Nat) (l : List BS) : Prop where
  row : RowAt w a (l.map BS.v)
  oks : ∀ x ∈ l, RowAt w x.a (bytesV x.bs) ∧ x.bs.length ≤ x.c
  le : l.length ≤ c
section
variable {w w' : World} {x y : FP} {a b : Option Addr} {c d : Nat} {l : List BS}
theorem BsAt.no (h : BsAt w a c l) (X : Ext no w w') : BsAt w' a c l := ⟨h.row.no X, fun x hx => ⟨(h.oks x hx).1.no X, (h.oks x hx).2⟩, h.le⟩
theorem BsAt.cell (h : BsAt w a c l) {i : Nat} {x : BS} (hi : l[i]? = some x) : ∃ ad, a = some ad ∧ w.cell? (ad.add (i * 1)) = some (.slice x.a x.bs.length x.c) := by
  obtain ⟨ad, ha, hc⟩ := h.row i x.v (by rw [List.getElem?_map, hi]; rfl)
  exact ⟨ad, ha, by rw [Nat.mul_one]; exact hc⟩
theorem Q3x (x : BS) : Calls Try.prog 38 #[.slice x.a x.bs.length x.c] w (Ret (.bool (decide (x.bs.length > 4000))) fun w' => w' = w) := by
  refine Q0o.run _ _ _ ?_
  unfold Q0o.N
  exact ⟨by rw [show decide ((x.bs.length : Int) > 4000) = decide (x.bs.length > 4000) by rw [decide_eq_decide]; omega], rfl⟩
theorem Q3b {l : List BS} : bigs (l.map BS.bs) = true ↔ ∃ x ∈ l, x.bs.length > 4000 := by
  unfold bigs
  rw [List.any_eq_true]
  constructor
  · rintro ⟨b, hb, h⟩
    obtain ⟨x, hx, rfl⟩ := List.mem_map.1 hb
    exact ⟨x, hx, of_decide_eq_true h⟩
  · rintro ⟨x, hx, h⟩
    exact ⟨_, List.mem_map.2 ⟨x, hx, rfl⟩, decide_eq_true h⟩
theorem Q45 {l : List BS} (h : ∀ (i : Nat) (x : BS), l[i]? = some x → x.bs.length ≤ 4000) : bigs (l.map BS.bs) = false := by
  cases hb : bigs (l.map BS.bs) with
  | false => rfl
  | true =>
    obtain ⟨x, hx, hl⟩ := Q3b.1 hb
    obtain ⟨i, hi⟩ := List.mem_iff_getElem?.1 hx
    have := h i x hi
    omega
theorem Q2Z (h : BsAt w a c l) (hl : l.length < 1000000) :
    Calls Try.prog 63 #[.slice a l.length c, .func (.func 38) #[] #[]] w fun e w' => ∃ i : Int, e = .returned (.int .i64 i) ∧ decide (i ≥ 0) = bigs (l.map BS.bs) ∧ w' = w := by
  refine (Q06.go a l.length c _ _ _ (R := fun v w' => ∃ i : Int, v = .int .i64 i ∧ decide (i ≥ 0) = bigs (l.map BS.bs) ∧ w' = w) ?_).mono fun e w' ⟨v, he, i, hv, hw⟩ => ⟨i, by rw [he, hv], hw⟩
  unfold Q06.N
  refine ⟨fun m vs w1 => ∃ t : Nat, vs = [.int .i64 t] ∧ m + t = l.length ∧ w1 = w ∧ ∀ i x, i < t → l[i]? = some x → x.bs.length ≤ 4000, l.length, ⟨0, rfl, rfl, rfl, fun i x h => absurd h (by omega)⟩, ?_⟩
  rintro m w6 i ⟨t, hi, hm, rfl, hn⟩
  simp only [List.cons.injEq, Value.int.injEq, true_and, and_true] at hi
  subst hi
  refine ⟨fun ht => ?_, fun ht => ?_⟩
  · have htl : t < l.length := by omega
    have hg : l[t]? = some l[t] := List.getElem?_eq_getElem htl
    generalize l[t] = x at *
    obtain ⟨ad, ha, hc⟩ := h.cell hg
    refine ⟨ad, ha, by omega, by omega, x.a, x.bs.length, x.c, by rw [Int.toNat_natCast]; exact hc, by kernel_rfl, ?_⟩
    refine Calls.mono (Q3x x) fun u w14 ⟨he, hw⟩ => ⟨_, he, fun hy => ?_, fun hno => ⟨by omega, by omega, m - 1, by omega, t + 1, rfl, by omega, hw, fun i y hi hy => ?_⟩⟩
    · refine ⟨_, rfl, ?_, hw⟩
      rw [Q3b.2 ⟨x, List.mem_of_getElem? hg, of_decide_eq_true hy⟩, decide_eq_true (by omega)]
    · by_cases hit : i = t
      · subst hit
        rw [hg] at hy
        cases hy
        have := of_decide_eq_false hno
        omega
      · exact hn i y (by omega) hy
  · refine ⟨_, rfl, ?_, rfl⟩
    rw [Q45 fun i x hx => hn i x (by have := (List.getElem?_eq_some_iff.1 hx).1; omega) hx]; rfl
theorem Q2y (h : BsAt w a c l) (hl : l.length < 1000000) :
    Calls Try.prog 37 #[.slice a l.length c, .func (.func 38) #[] #[]] w (Ret (.bool (bigs (l.map BS.bs))) fun w' => w' = w) := by
  refine Q04.run _ _ _ _ _ _ ?_
  unfold Q04.N
  exact (Q2Z h hl).mono fun e w' ⟨i, he, hi, hw⟩ => ⟨i, he, by rw [hi], hw⟩
theorem Q3C (h : BsAt w a c l) (hl : l.length < 1000000) (hz : l.length ≤ 1000 → bigs (l.map BS.bs) = false → (joinL (l.map BS.bs)).length ≤ 900000) :
    Calls Try.prog 16 #[.slice a l.length c] w (fun e w' => ∃ a' c', e = .returned (.tuple #[.slice a' (joinK (l.map BS.bs)).1.length c', .int .i64 (joinK (l.map BS.bs)).2]) ∧ OwnB w.heap.size w' a' c' (joinK (l.map BS.bs)).1 ∧ Ext no w w') := by
  refine (Q0B.go a l.length c (R := fun v w' => ∃ a' c', v = (.tuple #[.slice a' (joinK (l.map BS.bs)).1.length c', .int .i64 (joinK (l.map BS.bs)).2]) ∧ OwnB w.heap.size w' a' c' (joinK (l.map BS.bs)).1 ∧ Ext no w w') ?_).mono fun e w' ⟨v, he, a', c', hv, hw⟩ => ⟨a', c', by rw [he, hv], hw⟩
  unfold Q0B.N
  have leaf : ∀ {w2 : World}, joinK (l.map BS.bs) = ([], 3) → Ext no w w2 → ∃ a' c', (.tuple #[.slice none 0 0, .int .i64 3] : Value) = (.tuple #[.slice a' (joinK (l.map BS.bs)).1.length c', .int .i64 (joinK (l.map BS.bs)).2]) ∧ OwnB w.heap.size w2 a' c' (joinK (l.map BS.bs)).1 ∧ Ext no w w2 := fun {w2} e X => by
    rw [e]; exact ⟨none, 0, rfl, OwnB.nil _ _, X⟩
  refine ⟨fun hg => leaf (by unfold joinK; rw [if_pos (.inl (by rw [List.length_map]; omega))]) (Ext.refl _ _), fun hg => ?_⟩
  refine (Q2y h hl).mono fun u w5 ⟨he, hw⟩ => ⟨_, he, fun hb => leaf (by unfold joinK; rw [if_pos (.inr hb)]) (by rw [hw]; exact Ext.refl _ _), fun hb => ?_⟩
  subst hw
  have hk : joinK (l.map BS.bs) = (joinL (l.map BS.bs), 0) := by unfold joinK; rw [if_neg (by rw [List.length_map, hb]; simp; omega)]
  rw [hk]
  have hz := hz (by omega) hb
  rw [wu64 (n := (l.length : Int)) (by omega) (by omega)]
  refine (W.Num_spec (bs := []) (c := 0) (RowAt.nil _ _) (by simp) (n := l.length) (by omega)).mono fun u w9 ⟨a1, c1, he, hO1, X9⟩ => ⟨a1, _, c1, he, ?_⟩
  have e0 : joinT (l.map BS.bs) 0 = [] ++ numL l.length := by unfold joinT; simp
  refine ⟨fun m vs w1 => ∃ (t : Nat) (a1 : Option Addr) (c1 : Nat), vs = [.slice a1 (joinT (l.map BS.bs) t).length c1, .int .i64 t] ∧ m + t = l.length ∧ OwnB w5.heap.size w1 a1 c1 (joinT (l.map BS.bs) t) ∧ Ext no w5 w1, l.length, ⟨0, a1, c1, by rw [e0]; rfl, rfl, by rw [e0]; exact hO1, X9⟩, ?_⟩
  rintro m w14 ba bn bc i ⟨t, a2, c2, hv, hm, hO, X⟩
  simp only [List.cons.injEq, Value.slice.injEq, Value.int.injEq, true_and, and_true] at hv
  obtain ⟨⟨rfl, rfl, rfl⟩, rfl⟩ := hv
  have hlt := Q39 (l.map BS.bs) t
  refine ⟨fun ht => ?_, fun ht => ?_⟩
  · have htl : t < l.length := by omega
    have hg : l[t]? = some l[t] := List.getElem?_eq_getElem htl
    generalize l[t] = x at *
    have h14 := h.no X
    obtain ⟨ad, ha, hc⟩ := h14.cell hg
    obtain ⟨hx1, hx2⟩ := h14.oks x (List.mem_of_getElem? hg)
    have hm2 : (l.map BS.bs)[t]? = some x.bs := by rw [List.getElem?_map, hg]; rfl
    have est := Q3E hm2
    have hlt2 := Q39 (l.map BS.bs) (t + 1)
    rw [est] at hlt2
    unfold encB at est hlt2
    simp only [List.length_append] at hlt2
    refine ⟨ad, ha, by omega, by omega, x.a, x.bs.length, x.c, by rw [Int.toNat_natCast]; exact hc, ?_⟩
    refine (W.Bytes_spec hO.row (by omega) hx1 (by omega)).mono fun u w21 ⟨a3, c3, he, hO3, X21⟩ => ⟨a3, _, c3, he, by omega, by omega, m - 1, by omega, t + 1, a3, c3, ?_, by omega, ?_, X.trans X21⟩
    · rw [est, List.append_assoc]; rfl
    · rw [est, ← List.append_assoc]; exact OwnB.up hO3 X.size
  · obtain rfl : t = l.length := by omega
    rw [show l.length = (l.map BS.bs).length by rw [List.length_map], Q3Q] at hO ⊢
    exact ⟨ba, bc, rfl, hO, X⟩
theorem Q2G (w : World) : Calls Try.prog 8 #[] w (Ret (.bool true) fun w' => Ext no w w') := by
  refine Q08.run ?_
  unfold Q08.N
  intro w1 q2 X1 hb1 hq1 hq1'
  obtain ⟨w4, hr4, hrow4, X4⟩ := litB Try.underlying25 Try.underlying5 [97] X1 hb1 hq1
  refine ⟨_, _, _, w4, hr4, fun w5 q6 X5 hb5 hq6 hq6' => ?_⟩
  have hJ : joinK [[97], []] = ([2, 1, 97, 0], 0) := by decide
  have hat : BsAt w5 (some (blk q6)) 2 [⟨some (blk q2), 1, [97]⟩, ⟨none, 0, []⟩] := ⟨RowAt.of_blk hb5, fun x hx => by
    simp only [List.mem_cons, List.not_mem_nil, or_false] at hx
    rcases hx with rfl | rfl
    · exact ⟨hrow4.no X5, Nat.le_refl _⟩
    · exact ⟨RowAt.nil _ _, Nat.le_refl _⟩, Nat.le_refl _⟩
  refine (Q3C hat (show (2 : Nat) < 1000000 by decide) (fun _ _ => show (joinL [[97], []]).length ≤ 900000 by decide)).mono fun u w10 ⟨a1, c1, he, hO, X10⟩ => ?_
  rw [show ([⟨some (blk q2), 1, [97]⟩, ⟨none, 0, []⟩] : List BS).map BS.bs = [[97], []] from rfl, hJ] at he hO
  refine ⟨_, _, _, _, he, fun w11 q12 X11 hb11 hq12 hq12' => ?_⟩
  have Y10 := (X4.trans X5).trans X10
  obtain ⟨w14, hr14, hrow14, X14⟩ := litB Try.underlying25 Try.underlying5 [120] X11 hb11 hq12
  refine ⟨_, _, _, w14, hr14, fun w16 X16 => ?_⟩
  have hE : frOK ⟨1, ⟨1, 0, 0, 5, 1, 0, [120], 9⟩, Ent.zero, 0, [], 0⟩ = true := by decide
  have hf : Fr.fit ⟨1, ⟨1, 0, 0, 5, 1, 0, [120], 9⟩, Ent.zero, 0, [], 0⟩ := ⟨⟨by decide, by decide, by decide, by decide⟩, Q47, fun _ h => (by cases h), by decide⟩
  have hL : frL ⟨1, ⟨1, 0, 0, 5, 1, 0, [120], 9⟩, Ent.zero, 0, [], 0⟩ = [1, 9, 1, 0, 0, 10, 1, 0, 1, 120, 9] := by decide
  have hK : frK ⟨1, ⟨1, 0, 0, 5, 1, 0, [120], 9⟩, Ent.zero, 0, [], 0⟩ = ([1, 9, 1, 0, 0, 10, 1, 0, 1, 120, 9], 0) := by unfold frK; rw [hE, hL]; rfl
  have Y16 := (Y10.trans X14).trans X16
  refine (Q36 ⟨1, 0, 0, 5, 1, 0, [120], 9⟩ (some (blk q12)) 1).mono fun u w39 ⟨he, X39⟩ => ⟨_, _, _, _, _, _, _, _, _, _, _, _, _, _, _, _, _, _, _, _, _, _, _, _, _, _, he, ?_⟩
  have hat2 : (FP.ofE ⟨1, 0, 0, 5, 1, 0, [120], 9⟩ (some (blk q12)) 1).at w39 := ⟨(hrow14.no X16).no X39, RowAt.nil _ _, RowAt.nil _ _⟩
  refine (Q1d hat2 hf (show (0 : Nat) ≤ 1000 by decide)).mono fun u w43 ⟨a2, c2, he, hO2, X43⟩ => ?_
  rw [show (FP.ofE ⟨1, 0, 0, 5, 1, 0, [120], 9⟩ (some (blk q12)) 1).r = ⟨1, ⟨1, 0, 0, 5, 1, 0, [120], 9⟩, Ent.zero, 0, [], 0⟩ from rfl, hK] at he hO2
  refine ⟨_, _, _, _, he, ?_⟩
  have hrd := Q2I hE hf (by rw [hL]; decide)
  rw [hL] at hrd
  refine (Q33 hO2.row hO2.le).mono fun u w66 ⟨x', he, hx, hxa, X66⟩ => ?_
  rw [hrd] at he hx
  refine ⟨_, _, _, _, _, _, _, _, _, _, _, _, _, _, _, _, _, _, _, _, _, _, _, _, _, _, _, he, fun _ => ?_, fun h => absurd rfl h⟩
  intro w70 q71 p72 X70 hb70 hq70 hq70' hp
  have Y := (((Y16.trans X39).trans X43).trans X66).trans X70
  have hOr : RowAt w70 a1 (bytesV [2, 1, 97, 0]) := hO.row.no (((((X14.trans X16).trans X39).trans X43).trans X66).trans X70)
  refine (W.sameB_spec (x := [2, 1, 97, 0]) (y := [2, 1, 97, 0]) (d := 4) hOr (RowAt.of_blk hb70) (by decide)).mono fun u w75 ⟨he, X75⟩ => ⟨_, he, X75.kept, fun _ => ⟨fun _ => ⟨fun _ => ⟨fun _ => ⟨?_, Y.trans X75⟩, fun h => absurd (by rw [hx]) h⟩, fun h => absurd rfl h⟩, fun h => absurd rfl h⟩, fun h => ?_⟩
  · rw [hx]; rfl
  · simp at h
end
structure Ent.wide (e : Ent) : Prop where
  w : -9223372036854775808 ≤ e.w ∧ e.w < 9223372036854775808
  i : -9223372036854775808 ≤ e.i ∧ e.i < 9223372036854775808
  t : -9223372036854775808 ≤ e.t ∧ e.t < 9223372036854775808
  tw : -9223372036854775808 ≤ e.tw ∧ e.tw < 9223372036854775808
  ep : -9223372036854775808 ≤ e.ep ∧ e.ep < 9223372036854775808
def EntQ (W : World) (cs : List Value) : Prop := ∃ (e : Ent) (a : Option Addr) (c : Nat), cs = entC e a c ∧ e.fit ∧ e.wide ∧ e.body.length ≤ c ∧ c ≤ maxLen ∧ RowAt W a (bytesV e.body)
theorem list8 {α : Type} : ∀ {l : List α}, l.length = 8 → ∃ a b c d e f g h, l = [a, b, c, d, e, f, g, h]
  | [a, b, c, d, e, f, g, h], _ => ⟨a, b, c, d, e, f, g, h, rfl⟩
theorem Q2C : Try.prog.cellsOf 27 = 8 := by kernel_rfl
theorem Q19 : Try.prog.cellsOf 24 = 2 := by kernel_rfl
theorem Q21 : Opens Try.prog 27 EntQ := (Q12 Try.underlying27 Q2C).mono fun W cs ⟨hl, hf⟩ => by
  obtain ⟨c0, c1, c2, c3, c4, c5, c6, c7, rfl⟩ := list8 hl
  have e0 : ∃ n, (([c0, c1, c2, c3, c4, c5, c6, c7] : List Value).drop 0).take (Try.prog.cellsOf 3) = [.int .i64 n] ∧ _ := hf 0 _ rfl _ (Q0J Try.underlying3)
  have e1 : ∃ n, (([c0, c1, c2, c3, c4, c5, c6, c7] : List Value).drop 1).take (Try.prog.cellsOf 3) = [.int .i64 n] ∧ _ := hf 1 _ rfl _ (Q0J Try.underlying3)
  have e2 : ∃ n, (([c0, c1, c2, c3, c4, c5, c6, c7] : List Value).drop 2).take (Try.prog.cellsOf 22) = [.int .u64 n] ∧ _ := hf 2 _ rfl _ (Q0J Try.underlying22)
  have e3 := hf 3 _ rfl _ (Q12 Try.underlying24 Q19)
  change (((([c0, c1, c2, c3, c4, c5, c6, c7] : List Value).drop 3).take (Try.prog.cellsOf 24)).length = 2 ∧ _) at e3
  have e4 : ∃ n, (([c0, c1, c2, c3, c4, c5, c6, c7] : List Value).drop 5).take (Try.prog.cellsOf 3) = [.int .i64 n] ∧ _ := hf 4 _ rfl _ (Q0J Try.underlying3)
  have e5 : BytesQ W ((([c0, c1, c2, c3, c4, c5, c6, c7] : List Value).drop 6).take (Try.prog.cellsOf 25)) := hf 5 _ rfl _ (Q2U Try.underlying25 (by kernel_rfl) Try.underlying5)
  have e6 : ∃ n, (([c0, c1, c2, c3, c4, c5, c6, c7] : List Value).drop 7).take (Try.prog.cellsOf 22) = [.int .u64 n] ∧ _ := hf 6 _ rfl _ (Q0J Try.underlying22)
  have o1 : Try.prog.cellsOf 3 = 1 := by kernel_rfl
  have o2 : Try.prog.cellsOf 22 = 1 := by kernel_rfl
  have o3 : Try.prog.cellsOf 25 = 1 := by kernel_rfl
  have o4 : Try.prog.cellsOf 2 = 1 := by kernel_rfl
  simp only [o1, o2, o3, Q19, List.drop_zero, List.drop_succ_cons, List.take_succ_cons, List.take_zero] at e0 e1 e2 e4 e5 e6
  obtain ⟨_, hs⟩ := e3
  have s0 : ∃ n, ((((([c0, c1, c2, c3, c4, c5, c6, c7] : List Value).drop 3).take (Try.prog.cellsOf 24)).drop 0).take (Try.prog.cellsOf 2)) = [.int .i64 n] ∧ _ := hs 0 _ rfl _ (Q0J Try.underlying2)
  have s1 : ∃ n, ((((([c0, c1, c2, c3, c4, c5, c6, c7] : List Value).drop 3).take (Try.prog.cellsOf 24)).drop 1).take (Try.prog.cellsOf 3)) = [.int .i64 n] ∧ _ := hs 1 _ rfl _ (Q0J Try.underlying3)
  simp only [o1, o4, Q19, List.drop_zero, List.drop_succ_cons, List.take_succ_cons, List.take_zero] at s0 s1
  obtain ⟨n0, q0, w0⟩ := e0
  obtain ⟨n1, q1, w1⟩ := e1
  obtain ⟨n2, q2, w2⟩ := e2
  obtain ⟨n3, q3, w3⟩ := s0
  obtain ⟨n4, q4, w4⟩ := s1
  obtain ⟨n5, q5, w5⟩ := e4
  obtain ⟨a, c, bs, q6, l1, l2, r⟩ := e5
  obtain ⟨n7, q7, w7⟩ := e6
  simp only [List.cons.injEq, and_true] at q0 q1 q2 q3 q4 q5 q6 q7
  subst q0; subst q1; subst q2; subst q3; subst q4; subst q5; subst q6; subst q7
  exact ⟨⟨n0, n1, n2, n3, n4, n5, bs, n7⟩, a, c, rfl, ⟨(wf_u64 w2).1, (wf_u64 w2).2, (wf_u64 w7).1, (wf_u64 w7).2⟩, ⟨wf_i64 w0, wf_i64 w1, wf_i64 w3, wf_i64 w4, wf_i64 w5⟩, l1, l2, r⟩
open W (OwnB Rd numR countR doneR)
structure FP.inn (W : World) (x : FP) : Prop where
  at_ : x.at W
  el : x.r.e.body.length ≤ x.ec
  fl : x.r.f.body.length ≤ x.fc
  vl : x.r.v.length ≤ x.vc
  fv : ∀ h ∈ x.r.v, fitH h
  fe : x.r.e.fit ∧ x.r.e.wide
  ff : x.r.f.fit ∧ x.r.f.wide
  kd : -9223372036854775808 ≤ x.r.kd ∧ x.r.kd < 9223372036854775808
  who : -9223372036854775808 ≤ x.r.who ∧ x.r.who < 9223372036854775808
  sg : 0 ≤ x.r.sg ∧ x.r.sg < 18446744073709551616
def FrQ (W : World) (cs : List Value) : Prop := ∃ x : FP, cs = x.C ∧ x.inn W
theorem opens_frame : Opens Try.prog 30 FrQ :=
  (Q3W (qs := [(1, _), (8, _), (8, _), (1, _), (1, _), (1, _)]) (size := 20) Try.underlying30 (by kernel_rfl)
    ⟨⟨rfl, by kernel_rfl, Q0J Try.underlying3⟩, ⟨rfl, by kernel_rfl, Q21⟩, ⟨rfl, by kernel_rfl, Q21⟩, ⟨rfl, by kernel_rfl, Q0J Try.underlying3⟩, ⟨rfl, by kernel_rfl, Q35⟩, ⟨rfl, by kernel_rfl, Q0J Try.underlying22⟩, rfl⟩).mono
    fun W cs ⟨_, _, e0, _, ⟨kd, q0, fk⟩, _, _, e1, _, ⟨e, ea, ec, q1, f1, g1, l1, _, r1⟩, _, _, e2, _, ⟨f, fa, fc, q2, f2, g2, l2, _, r2⟩, _, _, e3, _, ⟨who, q3, fw⟩, _, _, e4, _, ⟨va, vc, hs, q4, l4, _, r4, f4⟩, _, _, e5, _, ⟨sg, q5, fs⟩, q6⟩ => by
      subst q0; subst q1; subst q2; subst q3; subst q4; subst q5; subst q6; subst e5; subst e4; subst e3; subst e2; subst e1; subst e0
      exact ⟨⟨⟨kd, e, f, who, hs, sg⟩, ea, ec, fa, fc, va, vc⟩, rfl, ⟨r1, r2, r4⟩, l1, l2, l4, f4, ⟨f1, g1⟩, ⟨f2, g2⟩, wf_i64 fk, wf_i64 fw, wf_u64 fs⟩
theorem FP.inn.fit {W : World} {x : FP} (h : x.inn W) : x.r.fit := ⟨h.fe.1, h.ff.1, fun q hq => wf_u64 (h.fv q hq).2.2, h.sg⟩
theorem frK_ok {x : Fr} (h : (frK x).2 = 0) : frOK x = true ∧ (frL x).length ≤ 4000 ∧ frK x = (frL x, 0) := by
  unfold frK at h ⊢
  cases hk : frOK x with
  | false => rw [hk, if_pos rfl] at h; exact absurd (show (1 : Int) = 0 from h) (by decide)
  | true =>
    rw [hk, if_neg (by decide)] at h
    by_cases hl : (frL x).length > 4000
    · rw [if_pos hl] at h; exact absurd (show (3 : Int) = 0 from h) (by decide)
    · exact ⟨rfl, by omega, by rw [if_neg (by decide), if_neg hl]⟩
theorem frK_len (x : Fr) : (frK x).1.length ≤ 4000 := by
  unfold frK
  split
  · exact Nat.zero_le _
  · split
    · exact Nat.zero_le _
    · show (frL x).length ≤ 4000; omega
theorem light_v {r : Fr} (h : frLight r = true) : r.e.body.length ≤ 1500 ∧ r.f.body.length ≤ 1500 ∧ r.v.length ≤ 30 := of_decide_eq_true h
set_option maxRecDepth 100000
abbrev Q03.J1 (dj : Option Addr) (dg di : Nat) (dl : Option Addr) (dh dk : Nat) (d6 d8 : Addr) (R : RW) (dd : World) : Prop :=
 thenW (dd.drew) fun cw =>
 ∃ (b8 ac ak b0 b5 b6 al : Int) (ap : Option Addr) (am ai : Nat) (bd ad ag az ba b9 ah : Int) (ao : Option Addr) (an aj : Nat) (bc c2 : Int) (ca : Option Addr) (c9 cb : Nat) (c1 : Int), cellsAt cw d8 [.int .i64 b8, .int .i64 ac, .int .i64 ak, .int .u64 b0, .int .i64 b5, .int .i64 b6, .int .i64 al, .slice ap am ai, .int .u64 bd, .int .i64 ad, .int .i64 ag, .int .u64 az, .int .i64 ba, .int .i64 b9, .int .i64 ah, .slice ao an aj, .int .u64 bc, .int .i64 c2, .slice ca c9 cb, .int .u64 c1] 0 ∧
 ∃ (aw a1 a7 af ar ax aa : Int) (a8 : Option Addr) (ab a9 : Nat) (aq a0 a3 ae ay au a5 : Int) (a6 : Option Addr) (a2 a4 : Nat) (av b1 : Int) (bz : Option Addr) (c0 c3 : Nat) (b2 : Int), cellsAt cw d6 [.int .i64 aw, .int .i64 a1, .int .i64 a7, .int .u64 af, .int .i64 ar, .int .i64 ax, .int .i64 aa, .slice a8 ab a9, .int .u64 aq, .int .i64 a0, .int .i64 a3, .int .u64 ae, .int .i64 ay, .int .i64 au, .int .i64 a5, .slice a6 a2 a4, .int .u64 av, .int .i64 b1, .slice bz c0 c3, .int .u64 b2] 0 ∧
 Calls Try.prog 14 #[.slice dl dh dk, .slice dj dg di] cw fun dc cv => ∃ (cq : Bool), dc = .returned (.bool cq) ∧
 cellsAt cv d6 [.int .i64 aw, .int .i64 a1, .int .i64 a7, .int .u64 af, .int .i64 ar, .int .i64 ax, .int .i64 aa, .slice a8 ab a9, .int .u64 aq, .int .i64 a0, .int .i64 a3, .int .u64 ae, .int .i64 ay, .int .i64 au, .int .i64 a5, .slice a6 a2 a4, .int .u64 av, .int .i64 b1, .slice bz c0 c3, .int .u64 b2] 0 ∧
 cellsAt cv d8 [.int .i64 b8, .int .i64 ac, .int .i64 ak, .int .u64 b0, .int .i64 b5, .int .i64 b6, .int .i64 al, .slice ap am ai, .int .u64 bd, .int .i64 ad, .int .i64 ag, .int .u64 az, .int .i64 ba, .int .i64 b9, .int .i64 ah, .slice ao an aj, .int .u64 bc, .int .i64 c2, .slice ca c9 cb, .int .u64 c1] 0 ∧
 Calls Try.prog 10 #[.agg #[.int .i64 b8, .int .i64 ac, .int .i64 ak, .int .u64 b0, .int .i64 b5, .int .i64 b6, .int .i64 al, .slice ap am ai, .int .u64 bd, .int .i64 ad, .int .i64 ag, .int .u64 az, .int .i64 ba, .int .i64 b9, .int .i64 ah, .slice ao an aj, .int .u64 bc, .int .i64 c2, .slice ca c9 cb, .int .u64 c1]] cv fun da d4 => ∃ (cn b3 bj c8 cp ch br : Int) (bw : Option Addr) (bp bu : Nat) (ck b4 bh c6 co ci bn : Int) (bf : Option Addr) (bv bo : Nat) (cl ct : Int) (d0 : Option Addr) (d3 d1 : Nat) (cx : Int), da = .returned (.agg #[.int .i64 cn, .int .i64 b3, .int .i64 bj, .int .u64 c8, .int .i64 cp, .int .i64 ch, .int .i64 br, .slice bw bp bu, .int .u64 ck, .int .i64 b4, .int .i64 bh, .int .u64 c6, .int .i64 co, .int .i64 ci, .int .i64 bn, .slice bf bv bo, .int .u64 cl, .int .i64 ct, .slice d0 d3 d1, .int .u64 cx]) ∧
 cellsAt d4 d6 [.int .i64 aw, .int .i64 a1, .int .i64 a7, .int .u64 af, .int .i64 ar, .int .i64 ax, .int .i64 aa, .slice a8 ab a9, .int .u64 aq, .int .i64 a0, .int .i64 a3, .int .u64 ae, .int .i64 ay, .int .i64 au, .int .i64 a5, .slice a6 a2 a4, .int .u64 av, .int .i64 b1, .slice bz c0 c3, .int .u64 b2] 0 ∧
 Calls Try.prog 10 #[.agg #[.int .i64 aw, .int .i64 a1, .int .i64 a7, .int .u64 af, .int .i64 ar, .int .i64 ax, .int .i64 aa, .slice a8 ab a9, .int .u64 aq, .int .i64 a0, .int .i64 a3, .int .u64 ae, .int .i64 ay, .int .i64 au, .int .i64 a5, .slice a6 a2 a4, .int .u64 av, .int .i64 b1, .slice bz c0 c3, .int .u64 b2]] d4 fun d9 d7 => ∃ (cj b7 bx c7 cm ce bt : Int) (bg : Option Addr) (bl bq : Nat) (cr bb bk c4 cd cc bi : Int) (bs : Option Addr) (be bm : Nat) (cf cu : Int) (d2 : Option Addr) (cz cy : Nat) (cs : Int), d9 = .returned (.agg #[.int .i64 cj, .int .i64 b7, .int .i64 bx, .int .u64 c7, .int .i64 cm, .int .i64 ce, .int .i64 bt, .slice bg bl bq, .int .u64 cr, .int .i64 bb, .int .i64 bk, .int .u64 c4, .int .i64 cd, .int .i64 cc, .int .i64 bi, .slice bs be bm, .int .u64 cf, .int .i64 cu, .slice d2 cz cy, .int .u64 cs]) ∧
 Calls Try.prog 24 #[.agg #[.int .i64 cn, .int .i64 b3, .int .i64 bj, .int .u64 c8, .int .i64 cp, .int .i64 ch, .int .i64 br, .slice bw bp bu, .int .u64 ck, .int .i64 b4, .int .i64 bh, .int .u64 c6, .int .i64 co, .int .i64 ci, .int .i64 bn, .slice bf bv bo, .int .u64 cl, .int .i64 ct, .slice d0 d3 d1, .int .u64 cx], .agg #[.int .i64 cj, .int .i64 b7, .int .i64 bx, .int .u64 c7, .int .i64 cm, .int .i64 ce, .int .i64 bt, .slice bg bl bq, .int .u64 cr, .int .i64 bb, .int .i64 bk, .int .u64 c4, .int .i64 cd, .int .i64 cc, .int .i64 bi, .slice bs be bm, .int .u64 cf, .int .i64 cu, .slice d2 cz cy, .int .u64 cs]] d7 fun df d5 => ∃ (cg : Bool), df = .returned (.bool cg) ∧
 bif cq == cg then (
 Calls Try.prog 8 #[] d5 fun db de => ∃ (c5 : Bool), db = .returned (.bool c5) ∧
 R (.bool c5) de) else (
 R (.bool false) d5)

abbrev Q03.J2 (df dg : Addr) (R : RW) (d5 : World) : Prop :=
 ∃ (c8 a2 ar b7 c3 bt ac : Int) (aa : Option Addr) (ap a6 : Nat) (c9 a3 af ba bo c6 ak : Int) (ah : Option Addr) (ao ai : Nat) (c0 ce : Int) (ct : Option Addr) (d2 cu : Nat) (cq : Int), cellsAt d5 dg [.int .i64 c8, .int .i64 a2, .int .i64 ar, .int .u64 b7, .int .i64 c3, .int .i64 bt, .int .i64 ac, .slice aa ap a6, .int .u64 c9, .int .i64 a3, .int .i64 af, .int .u64 ba, .int .i64 bo, .int .i64 c6, .int .i64 ak, .slice ah ao ai, .int .u64 c0, .int .i64 ce, .slice ct d2 cu, .int .u64 cq] 0 ∧
 Calls Try.prog 10 #[.agg #[.int .i64 c8, .int .i64 a2, .int .i64 ar, .int .u64 b7, .int .i64 c3, .int .i64 bt, .int .i64 ac, .slice aa ap a6, .int .u64 c9, .int .i64 a3, .int .i64 af, .int .u64 ba, .int .i64 bo, .int .i64 c6, .int .i64 ak, .slice ah ao ai, .int .u64 c0, .int .i64 ce, .slice ct d2 cu, .int .u64 cq]] d5 fun dc dj => ∃ (cc an bm c7 cm ck au : Int) (b5 : Option Addr) (bc aw : Nat) (cn a7 az bs ch cr b8 : Int) (b6 : Option Addr) (b0 bd : Nat) (ci cv : Int) (da : Option Addr) (d6 db : Nat) (cx : Int), dc = .returned (.agg #[.int .i64 cc, .int .i64 an, .int .i64 bm, .int .u64 c7, .int .i64 cm, .int .i64 ck, .int .i64 au, .slice b5 bc aw, .int .u64 cn, .int .i64 a7, .int .i64 az, .int .u64 bs, .int .i64 ch, .int .i64 cr, .int .i64 b8, .slice b6 b0 bd, .int .u64 ci, .int .i64 cv, .slice da d6 db, .int .u64 cx]) ∧
 Calls Try.prog 9 #[.agg #[.int .i64 cc, .int .i64 an, .int .i64 bm, .int .u64 c7, .int .i64 cm, .int .i64 ck, .int .i64 au, .slice b5 bc aw, .int .u64 cn, .int .i64 a7, .int .i64 az, .int .u64 bs, .int .i64 ch, .int .i64 cr, .int .i64 b8, .slice b6 b0 bd, .int .u64 ci, .int .i64 cv, .slice da d6 db, .int .u64 cx]] dj fun de d8 => ∃ (b9 : Option Addr) (bb b2 : Nat) (bw : Int), de = .returned (.tuple #[.slice b9 bb b2, .int .i64 bw]) ∧
 ∃ (bq a0 aq bn c1 br aj : Int) (am : Option Addr) (ae ab : Nat) (bu a1 a5 bf c4 bv ag : Int) (al : Option Addr) (a4 ad : Nat) (c5 cj : Int) (d1 : Option Addr) (cy d3 : Nat) (co : Int), cellsAt d8 df [.int .i64 bq, .int .i64 a0, .int .i64 aq, .int .u64 bn, .int .i64 c1, .int .i64 br, .int .i64 aj, .slice am ae ab, .int .u64 bu, .int .i64 a1, .int .i64 a5, .int .u64 bf, .int .i64 c4, .int .i64 bv, .int .i64 ag, .slice al a4 ad, .int .u64 c5, .int .i64 cj, .slice d1 cy d3, .int .u64 co] 0 ∧
 Calls Try.prog 10 #[.agg #[.int .i64 bq, .int .i64 a0, .int .i64 aq, .int .u64 bn, .int .i64 c1, .int .i64 br, .int .i64 aj, .slice am ae ab, .int .u64 bu, .int .i64 a1, .int .i64 a5, .int .u64 bf, .int .i64 c4, .int .i64 bv, .int .i64 ag, .slice al a4 ad, .int .u64 c5, .int .i64 cj, .slice d1 cy d3, .int .u64 co]] d8 fun dn dh => ∃ (cp a9 bk bx cg cl bh : Int) (av : Option Addr) (ax b1 : Nat) (cs a8 bj bz cd cb ay : Int) (b3 : Option Addr) (b4 bg : Nat) (cf cz : Int) (d7 : Option Addr) (d4 d9 : Nat) (d0 : Int), dn = .returned (.agg #[.int .i64 cp, .int .i64 a9, .int .i64 bk, .int .u64 bx, .int .i64 cg, .int .i64 cl, .int .i64 bh, .slice av ax b1, .int .u64 cs, .int .i64 a8, .int .i64 bj, .int .u64 bz, .int .i64 cd, .int .i64 cb, .int .i64 ay, .slice b3 b4 bg, .int .u64 cf, .int .i64 cz, .slice d7 d4 d9, .int .u64 d0]) ∧
 Calls Try.prog 9 #[.agg #[.int .i64 cp, .int .i64 a9, .int .i64 bk, .int .u64 bx, .int .i64 cg, .int .i64 cl, .int .i64 bh, .slice av ax b1, .int .u64 cs, .int .i64 a8, .int .i64 bj, .int .u64 bz, .int .i64 cd, .int .i64 cb, .int .i64 ay, .slice b3 b4 bg, .int .u64 cf, .int .i64 cz, .slice d7 d4 d9, .int .u64 d0]] dh fun dm cw => ∃ (be : Option Addr) (bi bl : Nat) (bp : Int), dm = .returned (.tuple #[.slice be bi bl, .int .i64 bp]) ∧
 bif bw != 0 then (
 Calls Try.prog 8 #[] cw fun dd di => ∃ (ca : Bool), dd = .returned (.bool ca) ∧
 R (.bool ca) di) else (
 bif bp != 0 then (
 Calls Try.prog 8 #[] cw fun dk dl => ∃ (c2 : Bool), dk = .returned (.bool c2) ∧
 R (.bool c2) dl) else (
 Q03.J1 be bi bl b9 bb b2 df dg R cw))

def Q03.M (cx bq c0 ca cq ct bx : Int) (bz : Option Addr) (c1 c2 : Nat) (cp av br c7 cg ch bp : Int) (bj : Option Addr) (bt bm : Nat) (ce cr : Int) (d1 : Option Addr) (d6 d0 : Nat) (cs cc aw bu c5 c8 cf bg : Int) (bf : Option Addr) (bl bo : Nat) (cd au bn c4 cb ci bk : Int) (bh : Option Addr) (bi bs : Nat) (c9 cv : Int) (cz : Option Addr) (d2 d3 : Nat) (cy : Int) (R : RW) (w : World) : Prop :=
 thenW (w.alloc (.cells #[.int .i64 cx, .int .i64 bq, .int .i64 c0, .int .u64 ca, .int .i64 cq, .int .i64 ct, .int .i64 bx, .slice bz c1 c2, .int .u64 cp, .int .i64 av, .int .i64 br, .int .u64 c7, .int .i64 cg, .int .i64 ch, .int .i64 bp, .slice bj bt bm, .int .u64 ce, .int .i64 cr, .slice d1 d6 d0, .int .u64 cs] 30)) fun cw =>
 thenW (cw.alloc (.cells #[.int .i64 cc, .int .i64 aw, .int .i64 bu, .int .u64 c5, .int .i64 c8, .int .i64 cf, .int .i64 bg, .slice bf bl bo, .int .u64 cd, .int .i64 au, .int .i64 bn, .int .u64 c4, .int .i64 cb, .int .i64 ci, .int .i64 bk, .slice bh bi bs, .int .u64 c9, .int .i64 cv, .slice cz d2 d3, .int .u64 cy] 30)) fun d5 =>
 ∃ (b5 a0 ac ar b9 ax ah : Int) (ad : Option Addr) (ab a4 : Nat) (b2 a3 a7 aq ba b7 an : Int) (am : Option Addr) (al ae : Nat) (bc c3 : Int) (ck : Option Addr) (cm co : Nat) (bv : Int), cellsAt d5 (blk w.heap.size) [.int .i64 b5, .int .i64 a0, .int .i64 ac, .int .u64 ar, .int .i64 b9, .int .i64 ax, .int .i64 ah, .slice ad ab a4, .int .u64 b2, .int .i64 a3, .int .i64 a7, .int .u64 aq, .int .i64 ba, .int .i64 b7, .int .i64 an, .slice am al ae, .int .u64 bc, .int .i64 c3, .slice ck cm co, .int .u64 bv] 0 ∧
 Calls Try.prog 7 #[.agg #[.int .i64 b5, .int .i64 a0, .int .i64 ac, .int .u64 ar, .int .i64 b9, .int .i64 ax, .int .i64 ah, .slice ad ab a4, .int .u64 b2, .int .i64 a3, .int .i64 a7, .int .u64 aq, .int .i64 ba, .int .i64 b7, .int .i64 an, .slice am al ae, .int .u64 bc, .int .i64 c3, .slice ck cm co, .int .u64 bv]] d5 fun d9 cu => ∃ (b4 : Bool), d9 = .returned (.bool b4) ∧
 bif !b4 then (
 Calls Try.prog 8 #[] cu fun d7 da => ∃ (b6 : Bool), d7 = .returned (.bool b6) ∧
 R (.bool b6) da) else (
 ∃ (b3 a1 ai ao bd b8 a9 : Int) (aa : Option Addr) (af ak : Nat) (b0 a2 ag ap az ay a5 : Int) (a8 : Option Addr) (aj a6 : Nat) (b1 bw : Int) (cj : Option Addr) (cn cl : Nat) (c6 : Int), cellsAt cu (blk cw.heap.size) [.int .i64 b3, .int .i64 a1, .int .i64 ai, .int .u64 ao, .int .i64 bd, .int .i64 b8, .int .i64 a9, .slice aa af ak, .int .u64 b0, .int .i64 a2, .int .i64 ag, .int .u64 ap, .int .i64 az, .int .i64 ay, .int .i64 a5, .slice a8 aj a6, .int .u64 b1, .int .i64 bw, .slice cj cn cl, .int .u64 c6] 0 ∧
 Calls Try.prog 7 #[.agg #[.int .i64 b3, .int .i64 a1, .int .i64 ai, .int .u64 ao, .int .i64 bd, .int .i64 b8, .int .i64 a9, .slice aa af ak, .int .u64 b0, .int .i64 a2, .int .i64 ag, .int .u64 ap, .int .i64 az, .int .i64 ay, .int .i64 a5, .slice a8 aj a6, .int .u64 b1, .int .i64 bw, .slice cj cn cl, .int .u64 c6]] cu fun d8 d4 => ∃ (bb : Bool), d8 = .returned (.bool bb) ∧
 bif !bb then (
 Calls Try.prog 8 #[] d4 fun db dc => ∃ (be : Bool), db = .returned (.bool be) ∧
 R (.bool be) dc) else (
 Q03.J2 (blk cw.heap.size) (blk w.heap.size) R d4))

theorem Q03.ok (bb a7 an b1 b8 b7 al : Int) (ak : Option Addr) (ao ap : Nat) (b5 a2 aa aj b0 b2 a6 : Int) (af : Option Addr) (ae ad : Nat) (ax b4 : Int) (bf : Option Addr) (bg be : Nat) (b6 au a1 ai am av az a8 : Int) (a3 : Option Addr) (a5 a4 : Nat) (aw a0 ah aq ar b3 ag : Int) (a9 : Option Addr) (ab ac : Nat) (ay b9 : Int) (bc : Option Addr) (bd bh : Nat) (ba : Int) {R : RW} {w : World} (h : Q03.M bb a7 an b1 b8 b7 al ak ao ap b5 a2 aa aj b0 b2 a6 af ae ad ax b4 bf bg be b6 au a1 ai am av az a8 a3 a5 a4 aw a0 ah aq ar b3 ag a9 ab ac ay b9 bc bd bh ba R w) : Calls Try.prog 6 #[.agg #[.int .i64 bb, .int .i64 a7, .int .i64 an, .int .u64 b1, .int .i64 b8, .int .i64 b7, .int .i64 al, .slice ak ao ap, .int .u64 b5, .int .i64 a2, .int .i64 aa, .int .u64 aj, .int .i64 b0, .int .i64 b2, .int .i64 a6, .slice af ae ad, .int .u64 ax, .int .i64 b4, .slice bf bg be, .int .u64 b6], .agg #[.int .i64 au, .int .i64 a1, .int .i64 ai, .int .u64 am, .int .i64 av, .int .i64 az, .int .i64 a8, .slice a3 a5 a4, .int .u64 aw, .int .i64 a0, .int .i64 ah, .int .u64 aq, .int .i64 ar, .int .i64 b3, .int .i64 ag, .slice a9 ab ac, .int .u64 ay, .int .i64 b9, .slice bc bd bh, .int .u64 ba]] w fun e w' => ∃ v, e = .returned v ∧ R v w' :=
  Q0b follows (H := []) (args := [.agg #[.int .i64 bb, .int .i64 a7, .int .i64 an, .int .u64 b1, .int .i64 b8, .int .i64 b7, .int .i64 al, .slice ak ao ap, .int .u64 b5, .int .i64 a2, .int .i64 aa, .int .u64 aj, .int .i64 b0, .int .i64 b2, .int .i64 a6, .slice af ae ad, .int .u64 ax, .int .i64 b4, .slice bf bg be, .int .u64 b6], .agg #[.int .i64 au, .int .i64 a1, .int .i64 ai, .int .u64 am, .int .i64 av, .int .i64 az, .int .i64 a8, .slice a3 a5 a4, .int .u64 aw, .int .i64 a0, .int .i64 ah, .int .u64 aq, .int .i64 ar, .int .i64 b3, .int .i64 ag, .slice a9 ab ac, .int .u64 ay, .int .i64 b9, .slice bc bd bh, .int .u64 ba]]) (cast (by kernel_rfl) h)

def Q03.N (d6 ae ap bx d1 d4 am : Int) (ao : Option Addr) (ax aq : Nat) (d0 a1 af av c7 bw ad : Int) (a7 : Option Addr) (ah aa : Nat) (c3 d2 : Int) (e0 : Option Addr) (ek dx : Nat) (d3 c0 a2 ai au bt c5 a4 : Int) (a3 : Option Addr) (a9 ac : Nat) (c1 a0 ab ar bz c8 a8 : Int) (a5 : Option Addr) (a6 ag : Nat) (bv d5 : Int) (dv : Option Addr) (e4 e7 : Nat) (d7 : Int) (R : RW) (w : World) : Prop :=
 ∀ (ep : World) (ez eq : Nat), Ext no w ep → Priv w ep [ez, eq] →
 Calls Try.prog 7 #[.agg #[.int .i64 d6, .int .i64 ae, .int .i64 ap, .int .u64 bx, .int .i64 d1, .int .i64 d4, .int .i64 am, .slice ao ax aq, .int .u64 d0, .int .i64 a1, .int .i64 af, .int .u64 av, .int .i64 c7, .int .i64 bw, .int .i64 ad, .slice a7 ah aa, .int .u64 c3, .int .i64 d2, .slice e0 ek dx, .int .u64 d3]] ep fun fs eo => ∃ (c2 : Bool), fs = .returned (.bool c2) ∧
 Keep [ez, eq] ep eo ∧
 (c2 = false →
 Calls Try.prog 8 #[] eo fun fq ft => ∃ (d8 : Bool), fq = .returned (.bool d8) ∧
 R (.bool d8) ft) ∧
 (c2 = true →
 Calls Try.prog 7 #[.agg #[.int .i64 c0, .int .i64 a2, .int .i64 ai, .int .u64 au, .int .i64 bt, .int .i64 c5, .int .i64 a4, .slice a3 a9 ac, .int .u64 c1, .int .i64 a0, .int .i64 ab, .int .u64 ar, .int .i64 bz, .int .i64 c8, .int .i64 a8, .slice a5 a6 ag, .int .u64 bv, .int .i64 d5, .slice dv e4 e7, .int .u64 d7]] eo fun fu en => ∃ (bs : Bool), fu = .returned (.bool bs) ∧
 Keep [ez, eq] eo en ∧
 (bs = false →
 Calls Try.prog 8 #[] en fun fv fp => ∃ (dm : Bool), fv = .returned (.bool dm) ∧
 R (.bool dm) fp) ∧
 (bs = true →
 Calls Try.prog 10 #[.agg #[.int .i64 d6, .int .i64 ae, .int .i64 ap, .int .u64 bx, .int .i64 d1, .int .i64 d4, .int .i64 am, .slice ao ax aq, .int .u64 d0, .int .i64 a1, .int .i64 af, .int .u64 av, .int .i64 c7, .int .i64 bw, .int .i64 ad, .slice a7 ah aa, .int .u64 c3, .int .i64 d2, .slice e0 ek dx, .int .u64 d3]] en fun fo f5 => ∃ (ei b3 co dc eh ea c9 : Int) (ce : Option Addr) (cu cw : Nat) (eb b6 ct dr dy ej cb : Int) (cd : Option Addr) (cr cc : Nat) (e5 ex : Int) (f9 : Option Addr) (fa fc : Nat) (ey : Int), fo = .returned (.agg #[.int .i64 ei, .int .i64 b3, .int .i64 co, .int .u64 dc, .int .i64 eh, .int .i64 ea, .int .i64 c9, .slice ce cu cw, .int .u64 eb, .int .i64 b6, .int .i64 ct, .int .u64 dr, .int .i64 dy, .int .i64 ej, .int .i64 cb, .slice cd cr cc, .int .u64 e5, .int .i64 ex, .slice f9 fa fc, .int .u64 ey]) ∧
 Keep [ez, eq] en f5 ∧
 Calls Try.prog 9 #[.agg #[.int .i64 ei, .int .i64 b3, .int .i64 co, .int .u64 dc, .int .i64 eh, .int .i64 ea, .int .i64 c9, .slice ce cu cw, .int .u64 eb, .int .i64 b6, .int .i64 ct, .int .u64 dr, .int .i64 dy, .int .i64 ej, .int .i64 cb, .slice cd cr cc, .int .u64 e5, .int .i64 ex, .slice f9 fa fc, .int .u64 ey]] f5 fun fr f6 => ∃ (cm : Option Addr) (cx cn : Nat) (c4 : Int), fr = .returned (.tuple #[.slice cm cx cn, .int .i64 c4]) ∧
 Keep [ez, eq] f5 f6 ∧
 Calls Try.prog 10 #[.agg #[.int .i64 c0, .int .i64 a2, .int .i64 ai, .int .u64 au, .int .i64 bt, .int .i64 c5, .int .i64 a4, .slice a3 a9 ac, .int .u64 c1, .int .i64 a0, .int .i64 ab, .int .u64 ar, .int .i64 bz, .int .i64 c8, .int .i64 a8, .slice a5 a6 ag, .int .u64 bv, .int .i64 d5, .slice dv e4 e7, .int .u64 d7]] f6 fun fd ef => ∃ (eg bh cy dp e9 em cl : Int) (cg : Option Addr) (cp cz : Nat) (e2 bl cf dl e6 ec ck : Int) (bk : Option Addr) (b4 be : Nat) (dk el : Int) (es : Option Addr) (eu er : Nat) (dz : Int), fd = .returned (.agg #[.int .i64 eg, .int .i64 bh, .int .i64 cy, .int .u64 dp, .int .i64 e9, .int .i64 em, .int .i64 cl, .slice cg cp cz, .int .u64 e2, .int .i64 bl, .int .i64 cf, .int .u64 dl, .int .i64 e6, .int .i64 ec, .int .i64 ck, .slice bk b4 be, .int .u64 dk, .int .i64 el, .slice es eu er, .int .u64 dz]) ∧
 Keep [ez, eq] f6 ef ∧
 Calls Try.prog 9 #[.agg #[.int .i64 eg, .int .i64 bh, .int .i64 cy, .int .u64 dp, .int .i64 e9, .int .i64 em, .int .i64 cl, .slice cg cp cz, .int .u64 e2, .int .i64 bl, .int .i64 cf, .int .u64 dl, .int .i64 e6, .int .i64 ec, .int .i64 ck, .slice bk b4 be, .int .u64 dk, .int .i64 el, .slice es eu er, .int .u64 dz]] ef fun fl dh => ∃ (b0 : Option Addr) (br ba : Nat) (aj : Int), fl = .returned (.tuple #[.slice b0 br ba, .int .i64 aj]) ∧
 Keep [ez, eq] ef dh ∧
 (c4 ≠ 0 →
 Calls Try.prog 8 #[] dh fun fj f8 => ∃ (cv : Bool), fj = .returned (.bool cv) ∧
 R (.bool cv) f8) ∧
 (c4 = 0 →
 (aj ≠ 0 →
 Calls Try.prog 8 #[] dh fun fh fb => ∃ (ci : Bool), fh = .returned (.bool ci) ∧
 R (.bool ci) fb) ∧
 (aj = 0 →
 ∀ (ee : World), Ext no dh ee →
 Calls Try.prog 14 #[.slice cm cx cn, .slice b0 br ba] ee fun ff e8 => ∃ (c6 : Bool), ff = .returned (.bool c6) ∧
 Keep [ez, eq] ee e8 ∧
 Calls Try.prog 10 #[.agg #[.int .i64 d6, .int .i64 ae, .int .i64 ap, .int .u64 bx, .int .i64 d1, .int .i64 d4, .int .i64 am, .slice ao ax aq, .int .u64 d0, .int .i64 a1, .int .i64 af, .int .u64 av, .int .i64 c7, .int .i64 bw, .int .i64 ad, .slice a7 ah aa, .int .u64 c3, .int .i64 d2, .slice e0 ek dx, .int .u64 d3]] e8 fun f7 f1 => ∃ (db aw b9 cs de dn bc : Int) (bq : Option Addr) (bp ay : Nat) (dq al bn ch da d9 bi : Int) (bb : Option Addr) (bf b5 : Nat) (ds dw : Int) (f0 : Option Addr) (f4 ew : Nat) (e1 : Int), f7 = .returned (.agg #[.int .i64 db, .int .i64 aw, .int .i64 b9, .int .u64 cs, .int .i64 de, .int .i64 dn, .int .i64 bc, .slice bq bp ay, .int .u64 dq, .int .i64 al, .int .i64 bn, .int .u64 ch, .int .i64 da, .int .i64 d9, .int .i64 bi, .slice bb bf b5, .int .u64 ds, .int .i64 dw, .slice f0 f4 ew, .int .u64 e1]) ∧
 Keep [eq] e8 f1 ∧
 Calls Try.prog 10 #[.agg #[.int .i64 c0, .int .i64 a2, .int .i64 ai, .int .u64 au, .int .i64 bt, .int .i64 c5, .int .i64 a4, .slice a3 a9 ac, .int .u64 c1, .int .i64 a0, .int .i64 ab, .int .u64 ar, .int .i64 bz, .int .i64 c8, .int .i64 a8, .slice a5 a6 ag, .int .u64 bv, .int .i64 d5, .slice dv e4 e7, .int .u64 d7]] f1 fun fk fe => ∃ (dg ak b8 ca dd dt bm : Int) (az : Option Addr) (b2 bj : Nat) (df an bd cj di du b7 : Int) (bg : Option Addr) (bo b1 : Nat) (dj e3 : Int) (et : Option Addr) (ev f3 : Nat) (ed : Int), fk = .returned (.agg #[.int .i64 dg, .int .i64 ak, .int .i64 b8, .int .u64 ca, .int .i64 dd, .int .i64 dt, .int .i64 bm, .slice az b2 bj, .int .u64 df, .int .i64 an, .int .i64 bd, .int .u64 cj, .int .i64 di, .int .i64 du, .int .i64 b7, .slice bg bo b1, .int .u64 dj, .int .i64 e3, .slice et ev f3, .int .u64 ed]) ∧
 Calls Try.prog 24 #[.agg #[.int .i64 db, .int .i64 aw, .int .i64 b9, .int .u64 cs, .int .i64 de, .int .i64 dn, .int .i64 bc, .slice bq bp ay, .int .u64 dq, .int .i64 al, .int .i64 bn, .int .u64 ch, .int .i64 da, .int .i64 d9, .int .i64 bi, .slice bb bf b5, .int .u64 ds, .int .i64 dw, .slice f0 f4 ew, .int .u64 e1], .agg #[.int .i64 dg, .int .i64 ak, .int .i64 b8, .int .u64 ca, .int .i64 dd, .int .i64 dt, .int .i64 bm, .slice az b2 bj, .int .u64 df, .int .i64 an, .int .i64 bd, .int .u64 cj, .int .i64 di, .int .i64 du, .int .i64 b7, .slice bg bo b1, .int .u64 dj, .int .i64 e3, .slice et ev f3, .int .u64 ed]] fe fun fm f2 => ∃ (bu : Bool), fm = .returned (.bool bu) ∧
 (c6 = bu →
 Calls Try.prog 8 #[] f2 fun fg fi => ∃ (cq : Bool), fg = .returned (.bool cq) ∧
 R (.bool cq) fi) ∧
 (c6 ≠ bu →
 R (.bool false) f2)))))

theorem Q03.up (bc ag an ax b7 ba al : Int) (am : Option Addr) (ao ap : Nat) (b6 a3 ah au b3 b4 af : Int) (a9 : Option Addr) (aj ac : Nat) (b1 b8 : Int) (bg : Option Addr) (bj bf : Nat) (b9 az a4 ak ar av b2 a6 : Int) (a5 : Option Addr) (ab ae : Nat) (b0 a2 ad aq ay b5 aa : Int) (a7 : Option Addr) (a8 ai : Nat) (aw bb : Int) (be : Option Addr) (bh bi : Nat) (bd : Int) {R : RW} {w : World} (h : Q03.N bc ag an ax b7 ba al am ao ap b6 a3 ah au b3 b4 af a9 aj ac b1 b8 bg bj bf b9 az a4 ak ar av b2 a6 a5 ab ae b0 a2 ad aq ay b5 aa a7 a8 ai aw bb be bh bi bd R w) : Q03.M bc ag an ax b7 ba al am ao ap b6 a3 ah au b3 b4 af a9 aj ac b1 b8 bg bj bf b9 az a4 ak ar av b2 a6 a5 ab ae b0 a2 ad aq ay b5 aa a7 a8 ai aw bb be bh bi bd R w := by
  unfold Q03.M
  unfold Q03.N at h
  refine Q00 fun fa ff => ?_
  have a1 := Blk.of_new ff
  have g9 := ((Ext.refl no w)).size
  have f1 := (Ext.refl no w).x_alloc ff
  refine Q00 fun f9 f4 => ?_
  have a0 := Blk.of_new f4
  have g3 := (f1).size
  have fk := Nat.ne_of_lt a1.lt
  have a1 := a1.x_alloc f4
  have fb := f1.x_alloc f4
  refine ⟨bc, ag, an, ax, b7, ba, al, am, ao, ap, b6, a3, ah, au, b3, b4, af, a9, aj, ac, b1, b8, bg, bj, bf, b9, ⟨a1.celli 0 rfl rfl, a1.celli 1 rfl rfl, a1.celli 2 rfl rfl, a1.celli 3 rfl rfl, a1.celli 4 rfl rfl, a1.celli 5 rfl rfl, a1.celli 6 rfl rfl, a1.celli 7 rfl rfl, a1.celli 8 rfl rfl, a1.celli 9 rfl rfl, a1.celli 10 rfl rfl, a1.celli 11 rfl rfl, a1.celli 12 rfl rfl, a1.celli 13 rfl rfl, a1.celli 14 rfl rfl, a1.celli 15 rfl rfl, a1.celli 16 rfl rfl, a1.celli 17 rfl rfl, a1.celli 18 rfl rfl, a1.celli 19 rfl rfl, trivial⟩, ?_⟩
  have h := h f9 (w.heap.size) (fa.heap.size) fb (Priv.cons g9 a1.lt (Priv.cons g3 a0.lt Priv.nil))
  refine h.mono fun g5 g6 h => ?_
  obtain ⟨dp, he, hk, h⟩ := h
  refine ⟨dp, he, ?_⟩
  have a1 := hk.blk a1 (by simp)
  have a0 := hk.blk a0 (by simp)
  refine bif_of (fun f8 => ?_) (fun f8 => ?_)
  ·have h := h.1 (not_t f8)
   refine h.mono fun g1 g7 h => ?_
   obtain ⟨db, he, h⟩ := h
   refine ⟨db, he, ?_⟩
   exact h
  have h := h.2 (not_f f8)
  refine ⟨az, a4, ak, ar, av, b2, a6, a5, ab, ae, b0, a2, ad, aq, ay, b5, aa, a7, a8, ai, aw, bb, be, bh, bi, bd, ⟨a0.celli 0 rfl rfl, a0.celli 1 rfl rfl, a0.celli 2 rfl rfl, a0.celli 3 rfl rfl, a0.celli 4 rfl rfl, a0.celli 5 rfl rfl, a0.celli 6 rfl rfl, a0.celli 7 rfl rfl, a0.celli 8 rfl rfl, a0.celli 9 rfl rfl, a0.celli 10 rfl rfl, a0.celli 11 rfl rfl, a0.celli 12 rfl rfl, a0.celli 13 rfl rfl, a0.celli 14 rfl rfl, a0.celli 15 rfl rfl, a0.celli 16 rfl rfl, a0.celli 17 rfl rfl, a0.celli 18 rfl rfl, a0.celli 19 rfl rfl, trivial⟩, ?_⟩
  refine h.mono fun g8 fz h => ?_
  obtain ⟨dc, he, hk, h⟩ := h
  refine ⟨dc, he, ?_⟩
  have a1 := hk.blk a1 (by simp)
  have a0 := hk.blk a0 (by simp)
  refine bif_of (fun fc => ?_) (fun fc => ?_)
  ·have h := h.1 (not_t fc)
   refine h.mono fun ga fy h => ?_
   obtain ⟨ds, he, h⟩ := h
   refine ⟨ds, he, ?_⟩
   exact h
  have h := h.2 (not_f fc)
  unfold Q03.J2
  refine ⟨bc, ag, an, ax, b7, ba, al, am, ao, ap, b6, a3, ah, au, b3, b4, af, a9, aj, ac, b1, b8, bg, bj, bf, b9, ⟨a1.celli 0 rfl rfl, a1.celli 1 rfl rfl, a1.celli 2 rfl rfl, a1.celli 3 rfl rfl, a1.celli 4 rfl rfl, a1.celli 5 rfl rfl, a1.celli 6 rfl rfl, a1.celli 7 rfl rfl, a1.celli 8 rfl rfl, a1.celli 9 rfl rfl, a1.celli 10 rfl rfl, a1.celli 11 rfl rfl, a1.celli 12 rfl rfl, a1.celli 13 rfl rfl, a1.celli 14 rfl rfl, a1.celli 15 rfl rfl, a1.celli 16 rfl rfl, a1.celli 17 rfl rfl, a1.celli 18 rfl rfl, a1.celli 19 rfl rfl, trivial⟩, ?_⟩
  refine h.mono fun fx g0 h => ?_
  obtain ⟨el, bt, cz, dg, ek, ef, ck, cp, d5, d7, eg, bw, d4, dy, e4, em, cm, co, d2, cn, ec, ev, f5, f6, f7, ex, he, hk, h⟩ := h
  refine ⟨el, bt, cz, dg, ek, ef, ck, cp, d5, d7, eg, bw, d4, dy, e4, em, cm, co, d2, cn, ec, ev, f5, f6, f7, ex, he, ?_⟩
  have a1 := hk.blk a1 (by simp)
  have a0 := hk.blk a0 (by simp)
  refine h.mono fun g2 g4 h => ?_
  obtain ⟨cx, d8, cy, dt, he, hk, h⟩ := h
  refine ⟨cx, d8, cy, dt, he, ?_⟩
  have a1 := hk.blk a1 (by simp)
  have a0 := hk.blk a0 (by simp)
  refine ⟨az, a4, ak, ar, av, b2, a6, a5, ab, ae, b0, a2, ad, aq, ay, b5, aa, a7, a8, ai, aw, bb, be, bh, bi, bd, ⟨a0.celli 0 rfl rfl, a0.celli 1 rfl rfl, a0.celli 2 rfl rfl, a0.celli 3 rfl rfl, a0.celli 4 rfl rfl, a0.celli 5 rfl rfl, a0.celli 6 rfl rfl, a0.celli 7 rfl rfl, a0.celli 8 rfl rfl, a0.celli 9 rfl rfl, a0.celli 10 rfl rfl, a0.celli 11 rfl rfl, a0.celli 12 rfl rfl, a0.celli 13 rfl rfl, a0.celli 14 rfl rfl, a0.celli 15 rfl rfl, a0.celli 16 rfl rfl, a0.celli 17 rfl rfl, a0.celli 18 rfl rfl, a0.celli 19 rfl rfl, trivial⟩, ?_⟩
  refine h.mono fun fi fp h => ?_
  obtain ⟨ej, c8, d9, dv, ee, eo, cw, cs, d0, da, e9, cc, cq, dr, ed, eh, cv, cb, bu, c5, dq, en, eq, es, ep, e5, he, hk, h⟩ := h
  refine ⟨ej, c8, d9, dv, ee, eo, cw, cs, d0, da, e9, cc, cq, dr, ed, eh, cv, cb, bu, c5, dq, en, eq, es, ep, e5, he, ?_⟩
  have a1 := hk.blk a1 (by simp)
  have a0 := hk.blk a0 (by simp)
  refine h.mono fun fv ew h => ?_
  obtain ⟨bq, ci, c1, cj, he, hk, h⟩ := h
  refine ⟨bq, ci, c1, cj, he, ?_⟩
  have a1 := hk.blk a1 (by simp)
  have a0 := hk.blk a0 (by simp)
  refine bif_of (fun e3 => ?_) (fun e3 => ?_)
  ·have h := h.1 (bne_t e3)
   refine h.mono fun fs fe h => ?_
   obtain ⟨d6, he, h⟩ := h
   refine ⟨d6, he, ?_⟩
   exact h
  have h := h.2 (bne_f e3)
  refine bif_of (fun e7 => ?_) (fun e7 => ?_)
  ·have h := h.1 (bne_t e7)
   refine h.mono fun fo fg h => ?_
   obtain ⟨ct, he, h⟩ := h
   refine ⟨ct, he, ?_⟩
   exact h
  have h := h.2 (bne_f e7)
  unfold Q03.J1
  refine Q00 fun f0 e6 => ?_
  have ey := (Ext.refl no ew).x_drew e6
  have a1 := a1.x_drew e6
  have a0 := a0.x_drew e6
  refine ⟨bc, ag, an, ax, b7, ba, al, am, ao, ap, b6, a3, ah, au, b3, b4, af, a9, aj, ac, b1, b8, bg, bj, bf, b9, ⟨a1.celli 0 rfl rfl, a1.celli 1 rfl rfl, a1.celli 2 rfl rfl, a1.celli 3 rfl rfl, a1.celli 4 rfl rfl, a1.celli 5 rfl rfl, a1.celli 6 rfl rfl, a1.celli 7 rfl rfl, a1.celli 8 rfl rfl, a1.celli 9 rfl rfl, a1.celli 10 rfl rfl, a1.celli 11 rfl rfl, a1.celli 12 rfl rfl, a1.celli 13 rfl rfl, a1.celli 14 rfl rfl, a1.celli 15 rfl rfl, a1.celli 16 rfl rfl, a1.celli 17 rfl rfl, a1.celli 18 rfl rfl, a1.celli 19 rfl rfl, trivial⟩, ?_⟩
  refine ⟨az, a4, ak, ar, av, b2, a6, a5, ab, ae, b0, a2, ad, aq, ay, b5, aa, a7, a8, ai, aw, bb, be, bh, bi, bd, ⟨a0.celli 0 rfl rfl, a0.celli 1 rfl rfl, a0.celli 2 rfl rfl, a0.celli 3 rfl rfl, a0.celli 4 rfl rfl, a0.celli 5 rfl rfl, a0.celli 6 rfl rfl, a0.celli 7 rfl rfl, a0.celli 8 rfl rfl, a0.celli 9 rfl rfl, a0.celli 10 rfl rfl, a0.celli 11 rfl rfl, a0.celli 12 rfl rfl, a0.celli 13 rfl rfl, a0.celli 14 rfl rfl, a0.celli 15 rfl rfl, a0.celli 16 rfl rfl, a0.celli 17 rfl rfl, a0.celli 18 rfl rfl, a0.celli 19 rfl rfl, trivial⟩, ?_⟩
  have h := h f0 ey
  refine h.mono fun fl fh h => ?_
  obtain ⟨dx, he, hk, h⟩ := h
  refine ⟨dx, he, ?_⟩
  have a1 := hk.blk a1 (by simp)
  have a0 := hk.blk a0 (by simp)
  refine ⟨⟨a0.celli 0 rfl rfl, a0.celli 1 rfl rfl, a0.celli 2 rfl rfl, a0.celli 3 rfl rfl, a0.celli 4 rfl rfl, a0.celli 5 rfl rfl, a0.celli 6 rfl rfl, a0.celli 7 rfl rfl, a0.celli 8 rfl rfl, a0.celli 9 rfl rfl, a0.celli 10 rfl rfl, a0.celli 11 rfl rfl, a0.celli 12 rfl rfl, a0.celli 13 rfl rfl, a0.celli 14 rfl rfl, a0.celli 15 rfl rfl, a0.celli 16 rfl rfl, a0.celli 17 rfl rfl, a0.celli 18 rfl rfl, a0.celli 19 rfl rfl, trivial⟩, ⟨a1.celli 0 rfl rfl, a1.celli 1 rfl rfl, a1.celli 2 rfl rfl, a1.celli 3 rfl rfl, a1.celli 4 rfl rfl, a1.celli 5 rfl rfl, a1.celli 6 rfl rfl, a1.celli 7 rfl rfl, a1.celli 8 rfl rfl, a1.celli 9 rfl rfl, a1.celli 10 rfl rfl, a1.celli 11 rfl rfl, a1.celli 12 rfl rfl, a1.celli 13 rfl rfl, a1.celli 14 rfl rfl, a1.celli 15 rfl rfl, a1.celli 16 rfl rfl, a1.celli 17 rfl rfl, a1.celli 18 rfl rfl, a1.celli 19 rfl rfl, trivial⟩, ?_⟩
  refine h.mono fun fd fr h => ?_
  obtain ⟨df, bn, c0, d3, dj, du, c3, ch, cg, bo, dw, bl, cf, cr, de, dd, c9, c2, c6, bv, dz, e2, ez, f3, eu, e8, he, hk, h⟩ := h
  refine ⟨df, bn, c0, d3, dj, du, c3, ch, cg, bo, dw, bl, cf, cr, de, dd, c9, c2, c6, bv, dz, e2, ez, f3, eu, e8, he, ?_⟩
  have a0 := hk.blk a0 (by simp)
  refine ⟨⟨a0.celli 0 rfl rfl, a0.celli 1 rfl rfl, a0.celli 2 rfl rfl, a0.celli 3 rfl rfl, a0.celli 4 rfl rfl, a0.celli 5 rfl rfl, a0.celli 6 rfl rfl, a0.celli 7 rfl rfl, a0.celli 8 rfl rfl, a0.celli 9 rfl rfl, a0.celli 10 rfl rfl, a0.celli 11 rfl rfl, a0.celli 12 rfl rfl, a0.celli 13 rfl rfl, a0.celli 14 rfl rfl, a0.celli 15 rfl rfl, a0.celli 16 rfl rfl, a0.celli 17 rfl rfl, a0.celli 18 rfl rfl, a0.celli 19 rfl rfl, trivial⟩, ?_⟩
  refine h.mono fun ft fj h => ?_
  obtain ⟨dl, bk, bz, cl, dh, e0, cd, bp, bs, ca, di, bm, c4, cu, dm, e1, bx, c7, ce, br, dn, ea, er, et, f2, ei, he, h⟩ := h
  refine ⟨dl, bk, bz, cl, dh, e0, cd, bp, bs, ca, di, bm, c4, cu, dm, e1, bx, c7, ce, br, dn, ea, er, et, f2, ei, he, ?_⟩
  refine h.mono fun fw fu h => ?_
  obtain ⟨dk, he, h⟩ := h
  refine ⟨dk, he, ?_⟩
  refine bif_fo (fun eb => ?_) (fun eb => ?_)
  ·have h := h.2 (bbeq_f eb)
   exact h
  have h := h.1 (bbeq_t eb)
  refine h.mono fun fm fq h => ?_
  obtain ⟨d1, he, h⟩ := h
  refine ⟨d1, he, ?_⟩
  exact h

theorem Q03.go (bb a7 an b1 b8 b7 al : Int) (ak : Option Addr) (ao ap : Nat) (b5 a2 aa aj b0 b2 a6 : Int) (af : Option Addr) (ae ad : Nat) (ax b4 : Int) (bf : Option Addr) (bg be : Nat) (b6 au a1 ai am av az a8 : Int) (a3 : Option Addr) (a5 a4 : Nat) (aw a0 ah aq ar b3 ag : Int) (a9 : Option Addr) (ab ac : Nat) (ay b9 : Int) (bc : Option Addr) (bd bh : Nat) (ba : Int) {R : RW} {w : World} (h : Q03.N bb a7 an b1 b8 b7 al ak ao ap b5 a2 aa aj b0 b2 a6 af ae ad ax b4 bf bg be b6 au a1 ai am av az a8 a3 a5 a4 aw a0 ah aq ar b3 ag a9 ab ac ay b9 bc bd bh ba R w) : Calls Try.prog 6 #[.agg #[.int .i64 bb, .int .i64 a7, .int .i64 an, .int .u64 b1, .int .i64 b8, .int .i64 b7, .int .i64 al, .slice ak ao ap, .int .u64 b5, .int .i64 a2, .int .i64 aa, .int .u64 aj, .int .i64 b0, .int .i64 b2, .int .i64 a6, .slice af ae ad, .int .u64 ax, .int .i64 b4, .slice bf bg be, .int .u64 b6], .agg #[.int .i64 au, .int .i64 a1, .int .i64 ai, .int .u64 am, .int .i64 av, .int .i64 az, .int .i64 a8, .slice a3 a5 a4, .int .u64 aw, .int .i64 a0, .int .i64 ah, .int .u64 aq, .int .i64 ar, .int .i64 b3, .int .i64 ag, .slice a9 ab ac, .int .u64 ay, .int .i64 b9, .slice bc bd bh, .int .u64 ba]] w fun e w' => ∃ v, e = .returned v ∧ R v w' := Q03.ok bb a7 an b1 b8 b7 al ak ao ap b5 a2 aa aj b0 b2 a6 af ae ad ax b4 bf bg be b6 au a1 ai am av az a8 a3 a5 a4 aw a0 ah aq ar b3 ag a9 ab ac ay b9 bc bd bh ba (Q03.up bb a7 an b1 b8 b7 al ak ao ap b5 a2 aa aj b0 b2 a6 af ae ad ax b4 bf bg be b6 au a1 ai am av az a8 a3 a5 a4 aw a0 ah aq ar b3 ag a9 ab ac ay b9 bc bd bh ba h)
theorem Q03.run (bb a7 an b1 b8 b7 al : Int) (ak : Option Addr) (ao ap : Nat) (b5 a2 aa aj b0 b2 a6 : Int) (af : Option Addr) (ae ad : Nat) (ax b4 : Int) (bf : Option Addr) (bg be : Nat) (b6 au a1 ai am av az a8 : Int) (a3 : Option Addr) (a5 a4 : Nat) (aw a0 ah aq ar b3 ag : Int) (a9 : Option Addr) (ab ac : Nat) (ay b9 : Int) (bc : Option Addr) (bd bh : Nat) (ba : Int) {V : Value} {Q : World → Prop} {w : World} (h : Q03.N bb a7 an b1 b8 b7 al ak ao ap b5 a2 aa aj b0 b2 a6 af ae ad ax b4 bf bg be b6 au a1 ai am av az a8 a3 a5 a4 aw a0 ah aq ar b3 ag a9 ab ac ay b9 bc bd bh ba (fun v w' => v = V ∧ Q w') w) : Calls Try.prog 6 #[.agg #[.int .i64 bb, .int .i64 a7, .int .i64 an, .int .u64 b1, .int .i64 b8, .int .i64 b7, .int .i64 al, .slice ak ao ap, .int .u64 b5, .int .i64 a2, .int .i64 aa, .int .u64 aj, .int .i64 b0, .int .i64 b2, .int .i64 a6, .slice af ae ad, .int .u64 ax, .int .i64 b4, .slice bf bg be, .int .u64 b6], .agg #[.int .i64 au, .int .i64 a1, .int .i64 ai, .int .u64 am, .int .i64 av, .int .i64 az, .int .i64 a8, .slice a3 a5 a4, .int .u64 aw, .int .i64 a0, .int .i64 ah, .int .u64 aq, .int .i64 ar, .int .i64 b3, .int .i64 ag, .slice a9 ab ac, .int .u64 ay, .int .i64 b9, .slice bc bd bh, .int .u64 ba]] w (Ret V Q) := (Q03.go bb a7 an b1 b8 b7 al ak ao ap b5 a2 aa aj b0 b2 a6 af ae ad ax b4 bf bg be b6 au a1 ai am av az a8 a3 a5 a4 aw a0 ah aq ar b3 ag a9 ab ac ay b9 bc bd bh ba h).mono fun e w' ⟨v, he, hv, hq⟩ => ⟨by rw [he, hv], hq⟩

set_option maxRecDepth 20000
set_option maxHeartbeats 8000000
open W (OwnB)
theorem Q1Y (W : World) {x y : FP} (hx : x.inn W) (hy : y.inn W) :
    Calls Try.prog 6 #[x.V, y.V] W (Ret (.bool true) fun w' => Ext no W w') := by
  refine Q03.run x.r.kd x.r.e.w x.r.e.i x.r.e.pv x.r.e.t x.r.e.tw x.r.e.ep x.ea x.r.e.body.length x.ec x.r.e.sg x.r.f.w x.r.f.i x.r.f.pv x.r.f.t x.r.f.tw x.r.f.ep x.fa x.r.f.body.length x.fc x.r.f.sg x.r.who x.va x.r.v.length x.vc x.r.sg y.r.kd y.r.e.w y.r.e.i y.r.e.pv y.r.e.t y.r.e.tw y.r.e.ep y.ea y.r.e.body.length y.ec y.r.e.sg y.r.f.w y.r.f.i y.r.f.pv y.r.f.t y.r.f.tw y.r.f.ep y.fa y.r.f.body.length y.fc y.r.f.sg y.r.who y.va y.r.v.length y.vc y.r.sg ?_
  unfold Q03.N
  have hal : ∀ w1, Ext no W w1 → Calls Try.prog 8 #[] w1 fun ee w2 => ∃ b : Bool, ee = .returned (.bool b) ∧ Value.bool b = Value.bool true ∧ Ext no W w2 := fun w1 X =>
    (Q2G w1).mono fun v w2 ⟨hx, X2⟩ => ⟨_, hx, rfl, X.trans X2⟩
  intro w42 p43 p44 X42 hp
  refine (Q1M (w := w42) x).mono fun u w47 ⟨he, X47⟩ => ⟨_, he, X47.kept, fun _ => hal _ (X42.trans X47), fun hlx => ?_⟩
  have Y47 := X42.trans X47
  refine (Q1M (w := w47) y).mono fun u w54 ⟨he, X54⟩ => ⟨_, he, X54.kept, fun _ => hal _ (Y47.trans X54), fun hly => ?_⟩
  have Y54 := Y47.trans X54
  obtain ⟨lx1, lx2, lx3⟩ := light_v hlx
  obtain ⟨ly1, ly2, ly3⟩ := light_v hly
  refine (Q1l (w := w54) x).mono fun u w80 ⟨he, X80⟩ => ⟨_, _, _, _, _, _, _, _, _, _, _, _, _, _, _, _, _, _, _, _, _, _, _, _, _, _, he, X80.kept, ?_⟩
  have Y80 := Y54.trans X80
  refine (Q1d (hx.at_.no Y80) hx.fit (by omega)).mono fun u w84 ⟨a1, c1, he, hO1, X84⟩ => ⟨a1, _, c1, _, he, X84.kept, ?_⟩
  have Y84 := Y80.trans X84
  refine (Q1l (w := w84) y).mono fun u w106 ⟨he, X106⟩ => ⟨_, _, _, _, _, _, _, _, _, _, _, _, _, _, _, _, _, _, _, _, _, _, _, _, _, _, he, X106.kept, ?_⟩
  have Y106 := Y84.trans X106
  refine (Q1d (hy.at_.no Y106) hy.fit (by omega)).mono fun u w110 ⟨a2, c2, he, hO2, X110⟩ => ⟨a2, _, c2, _, he, X110.kept, fun _ => hal _ (Y106.trans X110), fun h1 => ⟨fun _ => hal _ (Y106.trans X110), fun h2 w119 X119 => ?_⟩⟩
  have Y119 := (Y106.trans X110).trans X119
  have l1 := frK_len x.r
  have r1 := ((hO1.row.no X106).no X110).no X119
  refine (sameB_spec r1 (hO2.row.no X119) (by omega)).mono fun u w122 ⟨he, X122⟩ => ⟨_, he, X122.kept, ?_⟩
  have Y122 := Y119.trans X122
  refine (Q1l (w := w122) x).mono fun u w144 ⟨he, X144⟩ => ⟨_, _, _, _, _, _, _, _, _, _, _, _, _, _, _, _, _, _, _, _, _, _, _, _, _, _, he, X144.kept, ?_⟩
  have Y144 := Y122.trans X144
  refine (Q1l (w := w144) y).mono fun u w166 ⟨he, X166⟩ => ⟨_, _, _, _, _, _, _, _, _, _, _, _, _, _, _, _, _, _, _, _, _, _, _, _, _, _, he, ?_⟩
  have Y166 := Y144.trans X166
  refine (Q3v (hx.at_.no Y166) (hy.at_.no Y166) (by omega)).mono fun u w169 ⟨he, X169⟩ => ⟨_, he, fun _ => hal _ (Y166.trans X169), fun h => absurd ?_ h⟩
  obtain ⟨k1, k2, k3⟩ := frK_ok h1
  obtain ⟨k4, k5, k6⟩ := frK_ok h2
  rw [k3, k6]
  unfold frSame
  rw [decide_eq_decide]
  exact ⟨fun h => frL_inj k1 hx.fit k4 hy.fit h, fun h => by rw [h]⟩
theorem FrameApart_walk (W : World) (cs0 cs1 : Array Value) (o0 : FrQ W cs0.toList) (o1 : FrQ W cs1.toList) :
    Calls Try.prog 6 #[.agg cs0, .agg cs1] W (Ret (.bool true) fun w' => Ext no W w') := by
  obtain ⟨x, hx, hi⟩ := o0
  obtain ⟨y, hy, hj⟩ := o1
  obtain rfl : cs0 = x.C.toArray := Array.ext' hx
  obtain rfl : cs1 = y.C.toArray := Array.ext' hy
  exact Q1Y W hi hj
end Go.Proofs.Ytlgpeojjmapnjaa