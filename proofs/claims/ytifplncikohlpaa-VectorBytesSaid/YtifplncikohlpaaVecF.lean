/- The vector of bytes; VectorBack. -/
import Derived.Test.YtifplncikohlpaaVecE
set_option linter.unusedVariables false
set_option linter.unusedSimpArgs false
set_option maxRecDepth 20000
namespace Go.Proofs.Ytifplncikohlpaa
open Go Go.Mx Go.Proofs
open W (OwnB Rd GivesW numR countR doneR)
section
variable {w w' : World} {a : Option Addr} {c : Nat} {hs : List Hd}
theorem OwnH.mono {N M : Nat} (h : OwnH N w a c hs) (hM : M ≤ N) : OwnH M w a c hs := ⟨h.own, fun ad ha => ⟨Nat.le_trans hM (h.fr ad ha).1, (h.fr ad ha).2⟩⟩
theorem count_le (m : Int) (s : List UInt8 × Int) (hm : 0 ≤ m) : ((countR m s).1 : Int) ≤ m := by
  unfold countR
  split
  · split
    · exact hm
    · rename_i h; exact Decidable.byContradiction fun e => h (.inr (by omega))
  · exact hm

theorem vRead_spec {b : List UInt8} (hr : RowAt w a (bytesV b)) (hc : b.length ≤ c) (hl : b.length < 1000000) :
    Calls Try.prog 13 #[.slice a b.length c] w (fun e w' => ∃ ra rc, e = .returned (.tuple #[.slice ra (readV b).1.length rc, .int .i64 (readV b).2]) ∧ OwnH w.heap.size w' ra rc (readV b).1 ∧ Ext no w w') := by
  refine (vRead.ok _ _ _ (R := fun v w' => ∃ ra rc, v = .tuple #[.slice ra (readV b).1.length rc, .int .i64 (readV b).2] ∧ OwnH w.heap.size w' ra rc (readV b).1 ∧ Ext no w w') ?_).mono fun e w' ⟨v, he, ra, rc, hv, hw⟩ => ⟨ra, rc, by rw [he, hv], hw⟩
  unfold vRead.M
  refine (W.Read_spec hr hc).mono fun e w4 ⟨p, he, hR4, hp, x4⟩ => ⟨_, he, ?_⟩
  have pnew : ∀ {w1 w2 : World}, Ext no w w1 → Ext (fun b => b = p) w1 w2 → Ext no w w2 := fun h k => h.then k fun q hq => .inr (by omega)
  refine (W.Count_spec hR4 hl (m := 8) (by decide)).mono fun e w7 ⟨he, hR7, x7'⟩ => ⟨_, he, ?_⟩
  have x7 := pnew x4 x7'
  have hn8 := count_le 8 (b, 0) (by decide)
  have hcl := W.countR_len 8 (b, 0)
  have nilH : ∀ N w1, OwnH N w1 none 0 [] := fun N w1 => ⟨owns_nil _ _ _, fun ad ha => by cases ha⟩
  refine ⟨fun k vs w1 => ∃ (t : Nat) (va : Option Addr) (vc : Nat) (l : List Hd) (s : List UInt8 × Int), vs = [.slice va l.length vc, .int .i64 t] ∧ k + t = (countR 8 (b, 0)).1 ∧ l.length = t ∧ Rd w1 p s.1 s.2 ∧ s.1.length ≤ b.length ∧ OwnH (p + 1) w1 va vc l ∧ (∀ ad, va = some ad → ad.block ≠ p) ∧ readF k l s = readAll b ∧ Ext no w w1, (countR 8 (b, 0)).1,
    ⟨0, none, 0, [], (countR 8 (b, 0)).2, rfl, rfl, rfl, hR7, hcl, nilH _ _, (fun ad ha => by cases ha), rfl, x7⟩, ?_⟩
  rintro k w12 v0 n0 c0 i ⟨t, va, vc, l, s, hvs, hk, hlt2, hR, hsl, hO, hOp, hF, hx⟩
  simp only [List.cons.injEq, Value.int.injEq, Value.slice.injEq, true_and, and_true] at hvs
  obtain ⟨⟨rfl, rfl, rfl⟩, rfl⟩ := hvs
  cases k with
  | zero =>
    rw [show decide ((t : Int) < ((countR 8 (b, 0)).1 : Int)) = false by simp; omega, cond_false]
    simp only [readF] at hF
    refine (W.Done_spec hR).mono fun e w35 ⟨he, hw⟩ => ⟨_, he, ?_⟩
    subst hw
    unfold readV
    rw [← hF]
    by_cases hd : doneR (s.1, s.2) ≠ 0
    · rw [show (doneR (s.1, s.2) != 0) = true by simpa using hd, cond_true, if_pos hd]
      exact ⟨none, 0, rfl, nilH _ _, hx⟩
    · rw [show (doneR (s.1, s.2) != 0) = false by simpa using hd, cond_false, if_neg hd]
      refine (Right_spec hO.row (by have := hn8; omega)).mono fun e w38 ⟨he, x38⟩ => ⟨_, he, ?_⟩
      by_cases hri : rightV l = true
      · rw [hri, Bool.not_true, cond_false, if_pos rfl]
        exact ⟨_, _, rfl, (hO.ext x38 (fun _ _ h => h)).mono (by omega), hx.trans x38⟩
      · rw [show rightV l = false by simpa using hri, Bool.not_false, cond_true, if_neg (by decide)]
        exact ⟨none, 0, rfl, nilH _ _, hx.trans x38⟩
  | succ k =>
    rw [show decide ((t : Int) < ((countR 8 (b, 0)).1 : Int)) = true by simp; omega, cond_true]
    refine thenW_in fun w13 h13 => ?_
    have x13' : Ext no w12 w13 := by subst h13; exact (Ext.refl _ _).alloc _
    have hH13 : Blk w13 w12.heap.size 44 (hdC (0, 0, 0)) := by subst h13; exact Blk.new _ _ _
    have x13 := hx.trans x13'
    have hpl0 := W.Rd.lt hR
    have hpH : w12.heap.size ≠ p := by omega
    have hR13 := W.Rd.no hR x13'
    have hO13 := hO.ext x13' (fun _ _ h => h)
    -- three numbers
    refine (W.Count_spec hR13 (Nat.lt_of_le_of_lt hsl hl) (m := 7) (by decide)).mono fun e w16 ⟨he, hR16, x16'⟩ => ⟨_, he, ?_⟩
    have l16 : (countR 7 (s.1, s.2)).2.1.length ≤ s.1.length := W.countR_len 7 (s.1, s.2)
    have x16 := pnew x13 x16'
    have hH16 := hH13.ext x16' hpH
    have hO16 := hO13.ext x16' hOp
    rw [add_zero]
    refine ⟨hH16.cana (i := 0) rfl, thenW_in fun w17 h17 => ?_⟩
    have hH17 : Blk w17 w12.heap.size 44 (hdC ((countR 7 (s.1, s.2)).1, 0, 0)) := by subst h17; exact hH16.seta 0 _
    have x17' : Ext (fun b => b = w12.heap.size) w16 w17 := by subst h17; exact (Ext.refl (fun b => b = w12.heap.size) w16).setCell (a := (blk w12.heap.size).add 0) (.inl rfl) _
    have hR17 := W.Rd.up hR16 x17' (fun q hq => by omega)
    have hOH : ∀ ad, v0 = some ad → ¬ ad.block = w12.heap.size := fun ad ha e => by have := (hO.fr ad ha).2; omega
    have hO17 := hO16.ext x17' hOH
    have x17 : Ext no w w17 := x16.then x17' fun q hq => .inr (by have := hx.size; omega)
    refine (W.Count_spec hR17 (Nat.lt_of_le_of_lt (Nat.le_trans l16 hsl) hl) (m := 200) (by decide)).mono fun e w20 ⟨he, hR20, x20'⟩ => ⟨_, he, ?_⟩
    have l20 : (countR 200 (countR 7 (s.1, s.2)).2).2.1.length ≤ (countR 7 (s.1, s.2)).2.1.length := W.countR_len 200 (countR 7 (s.1, s.2)).2
    have x20 := pnew x17 x20'
    have hH20 := hH17.ext x20' hpH
    have hO20 := hO17.ext x20' hOp
    rw [add_zero]
    refine ⟨hH20.cana (i := 1) rfl, thenW_in fun w21 h21 => ?_⟩
    have hH21 : Blk w21 w12.heap.size 44 (hdC ((countR 7 (s.1, s.2)).1, (countR 200 (countR 7 (s.1, s.2)).2).1, 0)) := by subst h21; exact hH20.seta 1 _
    have x21' : Ext (fun b => b = w12.heap.size) w20 w21 := by subst h21; exact (Ext.refl (fun b => b = w12.heap.size) w20).setCell (a := (blk w12.heap.size).add 1) (.inl (by rw [add_blk])) _
    have hR21 := W.Rd.up hR20 x21' (fun q hq => by omega)
    have hO21 := hO20.ext x21' hOH
    have x21 : Ext no w w21 := x20.then x21' fun q hq => .inr (by have := hx.size; omega)
    refine (W.RNum_spec hR21 (Nat.lt_of_le_of_lt (Nat.le_trans l20 (Nat.le_trans l16 hsl)) hl)).mono fun e w24 ⟨he, hR24, x24'⟩ => ⟨_, he, ?_⟩
    have l24 : (numR (countR 200 (countR 7 (s.1, s.2)).2).2).2.1.length ≤ (countR 200 (countR 7 (s.1, s.2)).2).2.1.length := W.numR_len (countR 200 (countR 7 (s.1, s.2)).2).2
    have x24 := pnew x21 x24'
    have hH24 := hH21.ext x24' hpH
    have hO24 := hO21.ext x24' hOp
    rw [add_zero]
    refine ⟨hH24.cana (i := 2) rfl, thenW_in fun w25 h25 => ?_⟩
    have hH25 : Blk w25 w12.heap.size 44 (hdC ((countR 7 (s.1, s.2)).1, (countR 200 (countR 7 (s.1, s.2)).2).1, (numR (countR 200 (countR 7 (s.1, s.2)).2).2).1)) := by subst h25; exact hH24.seta 2 _
    have x25' : Ext (fun b => b = w12.heap.size) w24 w25 := by subst h25; exact (Ext.refl (fun b => b = w12.heap.size) w24).setCell (a := (blk w12.heap.size).add 2) (.inl (by rw [add_blk])) _
    have hR25 := W.Rd.up hR24 x25' (fun q hq => by omega)
    have hO25 := hO24.ext x25' hOH
    have x25 : Ext no w w25 := x24.then x25' fun q hq => .inr (by have := hx.size; omega)
    refine ⟨_, _, _, ⟨hH25.cella (i := 0) rfl, hH25.cella (i := 1) rfl, hH25.cella (i := 2) rfl, trivial⟩, thenW_in fun w29 h29 => ?_⟩
    have x29' : Ext no w25 w29 := by subst h29; exact (Ext.refl _ _).alloc _
    have hb29 : Blk w29 w25.heap.size 44 (hdC ((countR 7 (s.1, s.2)).1, (countR 200 (countR 7 (s.1, s.2)).2).1, (numR (countR 200 (countR 7 (s.1, s.2)).2).2).1)) := by subst h29; exact Blk.new _ _ _
    have x29 := x25.trans x29'
    have hO29 := hO25.ext x29' (fun _ _ h => h)
    obtain ⟨a', c', w31, hrun, hO31, x31', hblk⟩ := hO29.push (ty := 34) Try.underlying34 (by have := W.Rd.lt hR25; have := x29'.size; omega) (by omega) (RowAt.of_blk hb29)
    have hlast : w25.heap.size + 1 = w29.heap.size := by subst h29; simp
    have hpl : p < w25.heap.size := W.Rd.lt hR25
    have hR29 := W.Rd.no hR25 x29'
    -- the append turns the row of the heads, or makes another
    have hR31 : Rd w31 p (numR (countR 200 (countR 7 (s.1, s.2)).2).2).2.1 (numR (countR 200 (countR 7 (s.1, s.2)).2).2).2.2  := W.Rd.up hR29 x31' fun q hq => by have := hq.1; omega
    refine ⟨a', _, c', w31, hrun, k, by omega, t + 1, a', c', _, (numR (countR 200 (countR 7 (s.1, s.2)).2).2).2, ?_, by omega, ?_, hR31, by omega, hO31, fun ad ha => ?_, hF, x29.then x31' fun q hq => .inr (by have := hq.1; omega)⟩
    · rw [w64 (by omega) (by omega), List.length_append]; rfl
    · rw [List.length_append]; simp; omega
    · rcases hblk ad ha with ⟨b0, hb0, e0⟩ | h
      · rw [e0]; exact hOp b0 hb0
      · omega

theorem eqf_step {P : Program} {w : World} {d : Nat} {xs ys : Array Value} {f : Field} {fs : List Field} {a b : Value} {r : Bool} (n : f.name ≠ "_") (qa : (part f.type xs f.offset).run P w = .ok a w) (qb : (part f.type ys f.offset).run P w = .ok b w) (he : (Op.equalIn d f.type a b).run P w = .ok r w) :
    (Op.eqFields d xs ys (f :: fs)).run P w = if r then (Op.eqFields d xs ys fs).run P w else .ok false w := by
  simp only [Op.eqFields, n, ne_eq, not_false_eq_true, if_true, Sem.run_bind, qa, qb, he, Result.andThen_ok]
  cases r <;> simp
/-- are vectors the same? -/
theorem equal_head (w : World) (x y : Hd) : (binOp .neq 44 (hdV x) (hdV y)).run Try.prog w = .ok (.bool (decide (x ≠ y))) w := by
  obtain ⟨f0, f1, f2, ht, n0, n1, n2, o0, o1, o2, p0, p1, p2, u0, u1, u2, hp⟩ : ∃ f0 f1 f2, Try.prog.underlying 44 = some (.struct #[f0, f1, f2]) ∧ f0.name ≠ "_" ∧ f1.name ≠ "_" ∧ f2.name ≠ "_" ∧ f0.offset = 0 ∧ f1.offset = 1 ∧ f2.offset = 2 ∧
      Try.prog.plainKey f0.type = true ∧ Try.prog.plainKey f1.type = true ∧ Try.prog.plainKey f2.type = true ∧ Try.prog.underlying f0.type = some (.int .i64) ∧ Try.prog.underlying f1.type = some (.int .i64) ∧ Try.prog.underlying f2.type = some (.int .u64) ∧ Try.prog.stoodInHeld 44 = false :=
    ⟨_, _, _, Try.underlying44, by decide, by decide, by decide, rfl, rfl, rfl, by kernel_rfl, by kernel_rfl, by kernel_rfl, Try.underlying3, Try.underlying3, Try.underlying42, by kernel_rfl⟩
  have hf : Try.prog.fieldsOf 44 = #[f0, f1, f2] := by simp [Program.fieldsOf, ht]
  unfold hdV
  rw [run_neq_struct, show (10000 : Nat) = 9998 + 1 + 1 from rfl, run_equalIn_struct w (9998 + 1) _ _ _ (by rw [hf]; exact ht) hp, hf]
  have q : ∀ (z : Hd) (i : Nat) (f : Field) (v : Value), Try.prog.plainKey f.type = true → f.offset = i → (#[Value.int .i64 z.1, .int .i64 z.2.1, .int .u64 z.2.2] : Array Value)[i]? = some v → (part f.type #[Value.int .i64 z.1, .int .i64 z.2.1, .int .u64 z.2.2] f.offset).run Try.prog w = .ok v w := fun z i f v h1 h2 h3 => run_part_plain w h1 (by rw [h2]; exact h3)
  show Result.andThen ((Op.eqFields (9998 + 1) _ _ [f0, f1, f2]).run Try.prog w) _ = _
  rw [eqf_step n0 (q x 0 f0 _ p0 o0 rfl) (q y 0 f0 _ p0 o0 rfl) (run_equalIn_int w _ _ _ _ _ _ u0), eqf_step n1 (q x 1 f1 _ p1 o1 rfl) (q y 1 f1 _ p1 o1 rfl) (run_equalIn_int w _ _ _ _ _ _ u1), eqf_step n2 (q x 2 f2 _ p2 o2 rfl) (q y 2 f2 _ p2 o2 rfl) (run_equalIn_int w _ _ _ _ _ _ u2)]
  obtain ⟨x0, x1, x2⟩ := x
  obtain ⟨y0, y1, y2⟩ := y
  by_cases e0 : x0 = y0 <;> by_cases e1 : x1 = y1 <;> by_cases e2 : x2 = y2 <;> simp [e0, e1, e2, Op.eqFields]
theorem same5_spec {aa ba : Option Addr} {ac bc : Nat} {x y : List Hd} (ha : RowAt w aa (hsC x)) (hb : RowAt w ba (hsC y)) (hx : x.length < 1000000) :
    Calls Try.prog 16 #[.slice aa x.length ac, .slice ba y.length bc] w (GivesV (.bool (decide (x = y))) fun w' => Ext no w w') := by
  refine (rSame5.ok _ _ _ _ _ _ (R := fun v w' => v = .bool (decide (x = y)) ∧ Ext no w w') ?_).mono fun e w' ⟨v, he, hv, hw⟩ => ⟨by rw [he, hv], hw⟩
  unfold rSame5.M
  by_cases hl : x.length = y.length
  · have hl' : ((x.length : Int) != (y.length : Int)) = false := by simp [hl]
    rw [hl', cond_false]
    refine ⟨fun k vs w1 => ∃ i : Nat, vs = [.int .i64 i] ∧ k + i = x.length ∧ x.take i = y.take i ∧ Ext no w w1, x.length, ⟨0, rfl, rfl, rfl, Ext.refl _ _⟩, ?_⟩
    rintro k w1 i3 ⟨i, hi, hk, ht, hw⟩
    simp only [List.cons.injEq, Value.int.injEq, true_and, and_true] at hi
    subst hi
    cases k with
    | succ k =>
      have hlt : i < x.length := by omega
      have hi2 : i < y.length := by omega
      rw [show decide ((i : Int) < (x.length : Int)) = true by simp; omega, cond_true]
      refine thenW_in fun w7 h7 => ?_
      have hw7 : Ext no w w7 := hw.trans (by subst h7; exact (Ext.refl _ _).drew)
      have hax := ha.no hw7
      have hby := hb.no hw7
      obtain ⟨ad, rfl⟩ := hax.addr (hsC_ne (by intro e; subst e; simp at hlt))
      obtain ⟨bd, rfl⟩ := hby.addr (hsC_ne (by intro e; subst e; simp at hi2))
      refine ⟨by omega, by omega, _, _, _, by rw [Int.toNat_natCast]; exact hs_at hax (List.getElem?_eq_getElem hlt), by omega, by omega, _, _, _, by rw [Int.toNat_natCast]; exact hs_at hby (List.getElem?_eq_getElem hi2), _, equal_head w7 x[i] y[i], ?_⟩
      by_cases he : x[i] = y[i]
      · rw [decide_eq_false (by simpa using he), cond_false]
        refine ⟨k, by omega, i + 1, by rw [w64 (by omega) (by omega)]; rfl, by omega, ?_, hw7⟩
        rw [List.take_add_one, List.take_add_one, ht]; simp [hlt, hi2, he]
      · rw [decide_eq_true he, cond_true]
        exact ⟨by rw [decide_eq_false]; rintro rfl; exact he rfl, hw7⟩
    | zero =>
      rw [show decide ((i : Int) < (x.length : Int)) = false by simp; omega, cond_false]
      obtain rfl : i = x.length := by omega
      refine ⟨?_, hw⟩
      have : x = y := by
        rw [List.take_length] at ht
        rw [hl, List.take_length] at ht
        exact ht
      simp [this]
  · have hl' : ((x.length : Int) != (y.length : Int)) = true := by simp; omega
    rw [hl', cond_true]
    exact ⟨by rw [decide_eq_false]; rintro rfl; exact hl rfl, Ext.refl _ _⟩
theorem sameB_spec {a b : Option Addr} {c d : Nat} {x y : List UInt8} (ha : RowAt w a (bytesV x)) (hb : RowAt w b (bytesV y)) (hx : x.length < 1000000) :
    Calls Try.prog 15 #[.slice a x.length c, .slice b y.length d] w (GivesV (.bool (decide (x = y))) fun w' => Ext no w w') := by
  refine (wSame.ok _ _ _ _ _ _ (R := fun v w' => v = .bool (decide (x = y)) ∧ Ext no w w') ?_).mono fun e w' ⟨v, he, hv, hw⟩ => ⟨by rw [he, hv], hw⟩
  unfold wSame.M
  by_cases hl : x.length = y.length
  · have hl' : ((x.length : Int) != (y.length : Int)) = false := by simp [hl]
    rw [hl', cond_false]
    refine ⟨fun k vs w1 => ∃ i : Nat, vs = [.int .i64 i] ∧ k = x.length - i ∧ i ≤ x.length ∧ x.take i = y.take i ∧ Ext no w w1, x.length, ⟨0, rfl, rfl, Nat.zero_le _, rfl, Ext.refl _ _⟩, ?_⟩
    rintro k w1 i3 ⟨i, hi, rfl, hle, ht, hw⟩
    simp only [List.cons.injEq, Value.int.injEq, true_and, and_true] at hi
    subst hi
    by_cases hlt : i < x.length
    · have hd : decide ((i : Int) < (x.length : Int)) = true := by simp [hlt]
      rw [hd, cond_true]
      refine thenW_in fun w7 h7 => ?_
      have hw7 : Ext no w w7 := hw.trans (by subst h7; exact (Ext.refl _ _).drew)
      have hi2 : i < y.length := hl ▸ hlt
      have hax := ha.ext hw7 (fun _ _ h => h)
      have hby := hb.ext hw7 (fun _ _ h => h)
      obtain ⟨ad, rfl⟩ := hax.addr (by intro e; rw [bytesV, List.map_eq_nil_iff] at e; subst e; simp at hlt)
      obtain ⟨bd, rfl⟩ := hby.addr (by intro e; rw [bytesV, List.map_eq_nil_iff] at e; subst e; simp at hi2)
      refine ⟨by omega, by omega, x[i].toNat, ?_, by omega, by omega, y[i].toNat, ?_, ?_⟩
      · rw [show Int.toNat (i : Int) * 1 = i by omega]; exact hax.at_ (bytesV_get hlt)
      · rw [show Int.toNat (i : Int) * 1 = i by omega]; exact hby.at_ (bytesV_get hi2)
      · by_cases he : x[i] = y[i]
        · have h1 : ((x[i].toNat : Int) != (y[i].toNat : Int)) = false := by simp [he]
          rw [h1, cond_false]
          refine ⟨x.length - (i + 1), by omega, i + 1, by rw [w64 (by omega) (by omega)]; rfl, rfl, by omega, ?_, hw7⟩
          rw [List.take_add_one, List.take_add_one, ht]; simp [hlt, hi2, he]
        · have h1 : ((x[i].toNat : Int) != (y[i].toNat : Int)) = true := by
            simp only [bne_iff_ne, ne_eq, Int.natCast_inj, UInt8.toNat_inj]; exact he
          rw [h1, cond_true]
          exact ⟨by rw [decide_eq_false]; rintro rfl; exact he rfl, hw7⟩
    · have hd : decide ((i : Int) < (x.length : Int)) = false := by simp; omega
      rw [hd, cond_false]
      obtain rfl : i = x.length := by omega
      refine ⟨?_, hw⟩
      have : x = y := by
        rw [List.take_length] at ht
        rw [hl, List.take_length] at ht
        exact ht
      simp [this]
  · have hl' : ((x.length : Int) != (y.length : Int)) = true := by simp; omega
    rw [hl', cond_true]
    exact ⟨by rw [decide_eq_false]; rintro rfl; exact hl rfl, Ext.refl _ _⟩
end

/-! ### the plain law: what is written is read, and what is read is what was written -/
theorem numR_write {n : Nat} (h : n < 18446744073709551616) (r : List UInt8) : numR (numL n ++ r, 0) = (n, (r, 0)) := by
  unfold numR; rw [if_pos rfl, rd_num h]
theorem countR_write {n : Nat} {m : Int} (h : n < 18446744073709551616) (hm : (n : Int) ≤ m) (r : List UInt8) : countR m (numL n ++ r, 0) = (n, (r, 0)) := by
  unfold countR
  rw [numR_write h, if_pos rfl, if_neg (by show ¬ (m < 0 ∨ (n : Int) > m); omega)]
theorem numR_bad {s : List UInt8 × Int} (h : s.2 ≠ 0) : (numR s).2.2 ≠ 0 := by
  unfold numR; rw [if_neg h]; exact h
theorem numR_good {s : List UInt8 × Int} (h : (numR s).2.2 = 0) : s.2 = 0 ∧ s.1 = numL (numR s).1 ++ (numR s).2.1 := by
  have h0 : s.2 = 0 := Decidable.byContradiction fun e => numR_bad e h
  refine ⟨h0, ?_⟩
  unfold numR at h ⊢
  rw [if_pos h0] at h ⊢
  cases hr : rdNum s.1 with
  | none => rw [hr] at h; exact absurd h (by decide)
  | some q => obtain ⟨n, r⟩ := q; exact (rd_back hr).1
theorem countR_good {m : Int} {s : List UInt8 × Int} (h : (countR m s).2.2 = 0) : s.2 = 0 ∧ s.1 = numL (countR m s).1 ++ (countR m s).2.1 := by
  unfold countR at h ⊢
  by_cases h1 : (numR s).2.2 = 0
  · rw [if_pos h1] at h ⊢
    by_cases h2 : m < 0 ∨ ((numR s).1 : Int) > m
    · rw [if_pos h2] at h; exact absurd h (by decide)
    · rw [if_neg h2]; exact numR_good h1
  · rw [if_neg h1] at h; exact absurd h h1
theorem read_write : ∀ (hs l : List Hd), (∀ h ∈ hs, rhead h = true ∧ 0 ≤ h.2.2 ∧ h.2.2 < 18446744073709551616) → readF hs.length l (hs.flatMap hdL, 0) = (l ++ hs, ([], 0))
  | [], l, _ => by simp [readF]
  | h :: r, l, hh => by
    obtain ⟨h1, h2, h3⟩ := hh h List.mem_cons_self
    simp only [rhead, Bool.and_eq_true, decide_eq_true_eq] at h1
    obtain ⟨a1, a2, a3, a4, _⟩ := h1
    simp only [List.length_cons, readF, List.flatMap_cons, hdL, List.append_assoc]
    rw [countR_write (by omega) (by omega), countR_write (by omega) (by omega), numR_write (by omega)]
    have he : (((h.1.toNat : Nat) : Int), ((h.2.1.toNat : Nat) : Int), ((h.2.2.toNat : Nat) : Int)) = h := by
      obtain ⟨x, y, z⟩ := h
      simp only at *
      rw [Int.toNat_of_nonneg (by omega), Int.toNat_of_nonneg (by omega), Int.toNat_of_nonneg (by omega)]
    simp only []
    rw [he, read_write r (l ++ [h]) fun q hq => hh q (List.mem_cons_of_mem _ hq)]
    simp
theorem readF_back : ∀ (n : Nat) (l : List Hd) (s : List UInt8 × Int), (readF n l s).2.2 = 0 → s.2 = 0 ∧ ∃ hs : List Hd, (readF n l s).1 = l ++ hs ∧ hs.length = n ∧ s.1 = hs.flatMap hdL ++ (readF n l s).2.1 ∧ ∀ h ∈ hs, natH h
  | 0, l, s, h => ⟨h, [], by simp [readF], rfl, rfl, by simp⟩
  | n + 1, l, s, h => by
    simp only [readF] at h ⊢
    obtain ⟨k3, hs, e1, e2, e3, e4⟩ := readF_back n _ _ h
    obtain ⟨k2, f2⟩ := numR_good k3
    obtain ⟨k1, f1⟩ := countR_good k2
    obtain ⟨k0, f0⟩ := countR_good k1
    have l1 := count_le 7 s (by decide)
    have l2 := count_le 200 (countR 7 s).2 (by decide)
    have l3 := W.numR_lt (countR 200 (countR 7 s).2).2
    refine ⟨k0, _ :: hs, by rw [e1, List.append_assoc]; rfl, by rw [List.length_cons, e2], ?_, fun q hq => ?_⟩
    · rw [f0, f1, f2, e3]
      simp [hdL]
    · rcases List.mem_cons.1 hq with rfl | hq
      · refine ⟨?_, ?_, ?_, ?_, ?_, ?_⟩ <;> first | omega | (dsimp only; omega)
      · exact e4 q hq
theorem right_len {hs : List Hd} (h : rightV hs = true) : hs.length ≤ 8 := by
  by_cases h0 : hs.length = 0
  · omega
  have key : ∀ i (hi : i < hs.length), (i : Int) ≤ hs[i].1 := by
    intro i
    induction i with
    | zero =>
      intro hi
      have := rightF_head h hs[0] (List.getElem_mem hi)
      simp only [rhead, Bool.and_eq_true, decide_eq_true_eq] at this
      have := this.1
      omega
    | succ i ih =>
      intro hi
      have h1 := ih (by omega)
      have h2 := sorted_at hs h (i := i) (j := i + 1) (by omega) (List.getElem?_eq_getElem (by omega)) (List.getElem?_eq_getElem hi)
      omega
  have h1 := key (hs.length - 1) (by omega)
  have := rightF_head h hs[hs.length - 1] (List.getElem_mem (by omega))
  simp only [rhead, Bool.and_eq_true, decide_eq_true_eq] at this
  have := this.2.1
  omega
theorem readV_write {hs : List Hd} (h : rightV hs = true) (hf : ∀ h ∈ hs, 0 ≤ h.2.2 ∧ h.2.2 < 18446744073709551616) : readV (vecL hs) = (hs, 0) := by
  have hl := right_len h
  have hra : readAll (vecL hs) = (hs, ([], 0)) := by
    unfold readAll vecL
    rw [countR_write (by omega) (by omega)]
    show readF hs.length [] (hs.flatMap hdL, 0) = _
    rw [read_write hs [] fun q hq => ⟨rightF_head h q hq, hf q hq⟩]
    simp
  unfold readV
  rw [hra]
  simp [doneR, h]
theorem readV_back {b : List UInt8} (h : (readV b).2 = 0) : rightV (readV b).1 = true ∧ vecL (readV b).1 = b ∧ ∀ q ∈ (readV b).1, natH q := by
  unfold readV at h ⊢
  by_cases hd : doneR (readAll b).2 ≠ 0
  · rw [if_pos hd] at h; exact absurd h hd
  rw [if_neg hd] at h ⊢
  by_cases hr : rightV (readAll b).1 = true
  · rw [if_pos hr]
    have hd := Decidable.not_not.1 hd
    have hk : (readAll b).2.2 = 0 ∧ (readAll b).2.1 = [] := by
      unfold doneR at hd
      by_cases h0 : (readAll b).2.2 = 0
      · rw [if_pos h0] at hd
        refine ⟨h0, ?_⟩
        by_cases h1 : (readAll b).2.1.length > 0
        · rw [if_pos h1] at hd; exact absurd hd (by decide)
        · exact List.eq_nil_of_length_eq_zero (by omega)
      · rw [if_neg h0] at hd; exact absurd hd h0
    obtain ⟨k0, hs, e1, e2, e3, e4⟩ := readF_back (countR 8 (b, 0)).1 [] (countR 8 (b, 0)).2 hk.1
    obtain ⟨_, f0⟩ := countR_good k0
    rw [List.nil_append] at e1
    have e1' : (readAll b).1 = hs := e1
    refine ⟨hr, ?_, fun q hq => e4 q (by rw [← e1']; exact hq)⟩
    rw [e1', vecL, e2]
    have e3' : (countR 8 (b, 0)).2.1 = hs.flatMap hdL ++ (readAll b).2.1 := e3
    rw [hk.2, List.append_nil] at e3'
    rw [← e3']
    exact f0.symm
  · rw [if_neg hr] at h; exact absurd h (by decide)
theorem readV_none {b : List UInt8} (h : (readV b).2 ≠ 0) : (readV b).1 = [] := by
  unfold readV at h ⊢
  by_cases hd : doneR (readAll b).2 ≠ 0
  · rw [if_pos hd]
  · rw [if_neg hd] at h ⊢
    by_cases hr : rightV (readAll b).1 = true
    · rw [if_pos hr] at h; exact absurd rfl h
    · rw [if_neg hr]
end Go.Proofs.Ytifplncikohlpaa
