/- The vector of bytes; VectorBack. -/
import Derived.Test.YtoempemllkebkaaZB
import Derived.Test.YtoempemllkebkaaZA
import Derived.Recover
import Derived.ArgAppend
set_option linter.unusedVariables false
set_option linter.unusedSimpArgs false
set_option maxRecDepth 20000
namespace Go.Proofs.Ytoempemllkebkaa
open Go Go.Mx Go.Proofs
open W (OwnB Rd GivesW numR countR doneR)
section
variable {w w' : World} {a : Option Addr} {c : Nat} {hs : List Hd}
theorem OwnH.mono {N M : Nat} (h : OwnH N w a c hs) (hM : M ≤ N) : OwnH M w a c hs := ⟨h.own, fun ad ha => ⟨Nat.le_trans hM (h.fr ad ha).1, (h.fr ad ha).2⟩⟩
theorem Q1V (m : Int) (s : List UInt8 × Int) (hm : 0 ≤ m) : ((countR m s).1 : Int) ≤ m := by
  unfold countR
  split
  · split
    · exact hm
    · rename_i h; exact Decidable.byContradiction fun e => h (.inr (by omega))
  · exact hm

theorem Q3z {b : List UInt8} (hr : RowAt w a (bytesV b)) (hc : b.length ≤ c) (hl : b.length < 1000000) :
    Calls Try.prog 93 #[.slice a b.length c] w (fun e w' => ∃ ra rc, e = .returned (.tuple #[.slice ra (readV b).1.length rc, .int .i64 (readV b).2]) ∧ OwnH w.heap.size w' ra rc (readV b).1 ∧ Ext no w w') := by
  refine (vRead.ok _ _ _ (R := fun v w' => ∃ ra rc, v = .tuple #[.slice ra (readV b).1.length rc, .int .i64 (readV b).2] ∧ OwnH w.heap.size w' ra rc (readV b).1 ∧ Ext no w w') ?_).mono fun e w' ⟨v, he, ra, rc, hv, hw⟩ => ⟨ra, rc, by rw [he, hv], hw⟩
  unfold vRead.M
  refine (W.Read_spec hr hc).mono fun e w4 ⟨p, he, hR4, hp, x4⟩ => ⟨_, he, ?_⟩
  have pnew : ∀ {w1 w2 : World}, Ext no w w1 → Ext (fun b => b = p) w1 w2 → Ext no w w2 := fun h k => h.then k fun q hq => .inr (by omega)
  refine (W.Count_spec hR4 hl (m := 8) (by decide)).mono fun e w7 ⟨he, hR7, x7'⟩ => ⟨_, he, ?_⟩
  have x7 := pnew x4 x7'
  have hn8 := Q1V 8 (b, 0) (by decide)
  have hcl := W.countR_len 8 (b, 0)
  have nilH : ∀ N w1, OwnH N w1 none 0 [] := fun N w1 => ⟨Q4t _ _ _, fun ad ha => by cases ha⟩
  refine ⟨fun k vs w1 => ∃ (t : Nat) (va : Option Addr) (vc : Nat) (l : List Hd) (s : List UInt8 × Int), vs = [.slice va l.length vc, .int .i64 t] ∧ k + t = (countR 8 (b, 0)).1 ∧ l.length = t ∧ Rd w1 p s.1 s.2 ∧ s.1.length ≤ b.length ∧ OwnH (p + 1) w1 va vc l ∧ (∀ ad, va = some ad → ad.block ≠ p) ∧ readF k l s = readAll b ∧ Ext no w w1, (countR 8 (b, 0)).1,
    ⟨0, none, 0, [], (countR 8 (b, 0)).2, rfl, rfl, rfl, hR7, hcl, nilH _ _, (fun ad ha => by cases ha), rfl, x7⟩, ?_⟩
  rintro k w12 v0 n0 c0 i ⟨t, va, vc, l, s, hvs, hk, hlt2, hR, hsl, hO, hOp, hF, hx⟩
  simp only [List.cons.injEq, Value.int.injEq, Value.slice.injEq, true_and, and_true] at hvs
  obtain ⟨⟨rfl, rfl, rfl⟩, rfl⟩ := hvs
  cases k with
  | zero =>
    rw [show decide ((t : Int) < ((countR 8 (b, 0)).1 : Int)) = false by simp; omega, cond_false]
    simp only [readF] at hF
    refine (W.Done_spec hR).mono fun e w35 ⟨he, hw⟩ => ⟨_, he, ?_⟩
    subst hw
    unfold readV
    rw [← hF]
    by_cases hd : doneR (s.1, s.2) ≠ 0
    · rw [show (doneR (s.1, s.2) != 0) = true by simpa using hd, cond_true, if_pos hd]
      exact ⟨none, 0, rfl, nilH _ _, hx⟩
    · rw [show (doneR (s.1, s.2) != 0) = false by simpa using hd, cond_false, if_neg hd]
      refine (Q1r hO.row (by have := hn8; omega)).mono fun e w38 ⟨he, x38⟩ => ⟨_, he, ?_⟩
      by_cases hri : rightV l = true
      · rw [hri, Bool.not_true, cond_false, if_pos rfl]
        exact ⟨_, _, rfl, (hO.ext x38 (fun _ _ h => h)).mono (by omega), hx.trans x38⟩
      · rw [show rightV l = false by simpa using hri, Bool.not_false, cond_true, if_neg (by decide)]
        exact ⟨none, 0, rfl, nilH _ _, hx.trans x38⟩
  | succ k =>
    rw [show decide ((t : Int) < ((countR 8 (b, 0)).1 : Int)) = true by simp; omega, cond_true]
    refine Q00 fun w13 h13 => ?_
    have x13' : Ext no w12 w13 := by subst h13; exact (Ext.refl _ _).alloc _
    have hH13 : Blk w13 w12.heap.size 66 (hdC (0, 0, 0)) := by subst h13; exact Blk.new _ _ _
    have x13 := hx.trans x13'
    have hpl0 := W.Rd.lt hR
    have hpH : w12.heap.size ≠ p := by omega
    have hR13 := W.Rd.no hR x13'
    have hO13 := hO.ext x13' (fun _ _ h => h)
    -- three numbers
    refine (W.Count_spec hR13 (Nat.lt_of_le_of_lt hsl hl) (m := 7) (by decide)).mono fun e w16 ⟨he, hR16, x16'⟩ => ⟨_, he, ?_⟩
    have l16 : (countR 7 (s.1, s.2)).2.1.length ≤ s.1.length := W.countR_len 7 (s.1, s.2)
    have x16 := pnew x13 x16'
    have hH16 := hH13.ext x16' hpH
    have hO16 := hO13.ext x16' hOp
    rw [add_zero]
    refine ⟨hH16.cana (i := 0) rfl, Q00 fun w17 h17 => ?_⟩
    have hH17 : Blk w17 w12.heap.size 66 (hdC ((countR 7 (s.1, s.2)).1, 0, 0)) := by subst h17; exact hH16.seta 0 _
    have x17' : Ext (fun b => b = w12.heap.size) w16 w17 := by subst h17; exact (Ext.refl (fun b => b = w12.heap.size) w16).setCell (a := (blk w12.heap.size).add 0) (.inl rfl) _
    have hR17 := W.Rd.up hR16 x17' (fun q hq => by omega)
    have hOH : ∀ ad, v0 = some ad → ¬ ad.block = w12.heap.size := fun ad ha e => by have := (hO.fr ad ha).2; omega
    have hO17 := hO16.ext x17' hOH
    have x17 : Ext no w w17 := x16.then x17' fun q hq => .inr (by have := hx.size; omega)
    refine (W.Count_spec hR17 (Nat.lt_of_le_of_lt (Nat.le_trans l16 hsl) hl) (m := 200) (by decide)).mono fun e w20 ⟨he, hR20, x20'⟩ => ⟨_, he, ?_⟩
    have l20 : (countR 200 (countR 7 (s.1, s.2)).2).2.1.length ≤ (countR 7 (s.1, s.2)).2.1.length := W.countR_len 200 (countR 7 (s.1, s.2)).2
    have x20 := pnew x17 x20'
    have hH20 := hH17.ext x20' hpH
    have hO20 := hO17.ext x20' hOp
    rw [add_zero]
    refine ⟨hH20.cana (i := 1) rfl, Q00 fun w21 h21 => ?_⟩
    have hH21 : Blk w21 w12.heap.size 66 (hdC ((countR 7 (s.1, s.2)).1, (countR 200 (countR 7 (s.1, s.2)).2).1, 0)) := by subst h21; exact hH20.seta 1 _
    have x21' : Ext (fun b => b = w12.heap.size) w20 w21 := by subst h21; exact (Ext.refl (fun b => b = w12.heap.size) w20).setCell (a := (blk w12.heap.size).add 1) (.inl (by rw [add_blk])) _
    have hR21 := W.Rd.up hR20 x21' (fun q hq => by omega)
    have hO21 := hO20.ext x21' hOH
    have x21 : Ext no w w21 := x20.then x21' fun q hq => .inr (by have := hx.size; omega)
    refine (W.RNum_spec hR21 (Nat.lt_of_le_of_lt (Nat.le_trans l20 (Nat.le_trans l16 hsl)) hl)).mono fun e w24 ⟨he, hR24, x24'⟩ => ⟨_, he, ?_⟩
    have l24 : (numR (countR 200 (countR 7 (s.1, s.2)).2).2).2.1.length ≤ (countR 200 (countR 7 (s.1, s.2)).2).2.1.length := W.numR_len (countR 200 (countR 7 (s.1, s.2)).2).2
    have x24 := pnew x21 x24'
    have hH24 := hH21.ext x24' hpH
    have hO24 := hO21.ext x24' hOp
    rw [add_zero]
    refine ⟨hH24.cana (i := 2) rfl, Q00 fun w25 h25 => ?_⟩
    have hH25 : Blk w25 w12.heap.size 66 (hdC ((countR 7 (s.1, s.2)).1, (countR 200 (countR 7 (s.1, s.2)).2).1, (numR (countR 200 (countR 7 (s.1, s.2)).2).2).1)) := by subst h25; exact hH24.seta 2 _
    have x25' : Ext (fun b => b = w12.heap.size) w24 w25 := by subst h25; exact (Ext.refl (fun b => b = w12.heap.size) w24).setCell (a := (blk w12.heap.size).add 2) (.inl (by rw [add_blk])) _
    have hR25 := W.Rd.up hR24 x25' (fun q hq => by omega)
    have hO25 := hO24.ext x25' hOH
    have x25 : Ext no w w25 := x24.then x25' fun q hq => .inr (by have := hx.size; omega)
    refine ⟨_, _, _, ⟨hH25.cella (i := 0) rfl, hH25.cella (i := 1) rfl, hH25.cella (i := 2) rfl, trivial⟩, Q00 fun w29 h29 => ?_⟩
    have x29' : Ext no w25 w29 := by subst h29; exact (Ext.refl _ _).alloc _
    have hb29 : Blk w29 w25.heap.size 66 (hdC ((countR 7 (s.1, s.2)).1, (countR 200 (countR 7 (s.1, s.2)).2).1, (numR (countR 200 (countR 7 (s.1, s.2)).2).2).1)) := by subst h29; exact Blk.new _ _ _
    have x29 := x25.trans x29'
    have hO29 := hO25.ext x29' (fun _ _ h => h)
    obtain ⟨a', c', w31, hrun, hO31, x31', hblk⟩ := hO29.push (ty := 36) Try.underlying36 (by have := W.Rd.lt hR25; have := x29'.size; omega) (by omega) (RowAt.of_blk hb29)
    have hlast : w25.heap.size + 1 = w29.heap.size := by subst h29; simp
    have hpl : p < w25.heap.size := W.Rd.lt hR25
    have hR29 := W.Rd.no hR25 x29'
    -- the append turns the row of the heads, or makes another
    have hR31 : Rd w31 p (numR (countR 200 (countR 7 (s.1, s.2)).2).2).2.1 (numR (countR 200 (countR 7 (s.1, s.2)).2).2).2.2  := W.Rd.up hR29 x31' fun q hq => by have := hq.1; omega
    refine ⟨a', _, c', w31, hrun, k, by omega, t + 1, a', c', _, (numR (countR 200 (countR 7 (s.1, s.2)).2).2).2, ?_, by omega, ?_, hR31, by omega, hO31, fun ad ha => ?_, hF, x29.then x31' fun q hq => .inr (by have := hq.1; omega)⟩
    · rw [w64 (by omega) (by omega), List.length_append]; rfl
    · rw [List.length_append]; simp; omega
    · rcases hblk ad ha with ⟨b0, hb0, e0⟩ | h
      · rw [e0]; exact hOp b0 hb0
      · omega

theorem eqf_step {P : Program} {w : World} {d : Nat} {xs ys : Array Value} {f : Field} {fs : List Field} {a b : Value} {r : Bool} (n : f.name ≠ "_") (qa : (part f.type xs f.offset).run P w = .ok a w) (qb : (part f.type ys f.offset).run P w = .ok b w) (he : (Op.equalIn d f.type a b).run P w = .ok r w) :
    (Op.eqFields d xs ys (f :: fs)).run P w = if r then (Op.eqFields d xs ys fs).run P w else .ok false w := by
  simp only [Op.eqFields, n, ne_eq, not_false_eq_true, if_true, Sem.run_bind, qa, qb, he, Result.andThen_ok]
  cases r <;> simp
theorem sameB_spec {a b : Option Addr} {c d : Nat} {x y : List UInt8} (ha : RowAt w a (bytesV x)) (hb : RowAt w b (bytesV y)) (hx : x.length < 1000000) :
    Calls Try.prog 11 #[.slice a x.length c, .slice b y.length d] w (GivesV (.bool (decide (x = y))) fun w' => Ext no w w') := by
  refine (wSame.ok _ _ _ _ _ _ (R := fun v w' => v = .bool (decide (x = y)) ∧ Ext no w w') ?_).mono fun e w' ⟨v, he, hv, hw⟩ => ⟨by rw [he, hv], hw⟩
  unfold wSame.M
  by_cases hl : x.length = y.length
  · have hl' : ((x.length : Int) != (y.length : Int)) = false := by simp [hl]
    rw [hl', cond_false]
    refine ⟨fun k vs w1 => ∃ i : Nat, vs = [.int .i64 i] ∧ k = x.length - i ∧ i ≤ x.length ∧ x.take i = y.take i ∧ Ext no w w1, x.length, ⟨0, rfl, rfl, Nat.zero_le _, rfl, Ext.refl _ _⟩, ?_⟩
    rintro k w1 i3 ⟨i, hi, rfl, hle, ht, hw⟩
    simp only [List.cons.injEq, Value.int.injEq, true_and, and_true] at hi
    subst hi
    by_cases hlt : i < x.length
    · have hd : decide ((i : Int) < (x.length : Int)) = true := by simp [hlt]
      rw [hd, cond_true]
      refine Q00 fun w7 h7 => ?_
      have hw7 : Ext no w w7 := hw.trans (by subst h7; exact (Ext.refl _ _).drew)
      have hi2 : i < y.length := hl ▸ hlt
      have hax := ha.ext hw7 (fun _ _ h => h)
      have hby := hb.ext hw7 (fun _ _ h => h)
      obtain ⟨ad, rfl⟩ := hax.addr (by intro e; rw [bytesV, List.map_eq_nil_iff] at e; subst e; simp at hlt)
      obtain ⟨bd, rfl⟩ := hby.addr (by intro e; rw [bytesV, List.map_eq_nil_iff] at e; subst e; simp at hi2)
      refine ⟨by omega, by omega, x[i].toNat, ?_, by omega, by omega, y[i].toNat, ?_, ?_⟩
      · rw [show Int.toNat (i : Int) * 1 = i by omega]; exact hax.at_ (Q0P hlt)
      · rw [show Int.toNat (i : Int) * 1 = i by omega]; exact hby.at_ (Q0P hi2)
      · by_cases he : x[i] = y[i]
        · have h1 : ((x[i].toNat : Int) != (y[i].toNat : Int)) = false := by simp [he]
          rw [h1, cond_false]
          refine ⟨x.length - (i + 1), by omega, i + 1, by rw [w64 (by omega) (by omega)]; rfl, rfl, by omega, ?_, hw7⟩
          rw [List.take_add_one, List.take_add_one, ht]; simp [hlt, hi2, he]
        · have h1 : ((x[i].toNat : Int) != (y[i].toNat : Int)) = true := by
            simp only [bne_iff_ne, ne_eq, Int.natCast_inj, UInt8.toNat_inj]; exact he
          rw [h1, cond_true]
          exact ⟨by rw [decide_eq_false]; rintro rfl; exact he rfl, hw7⟩
    · have hd : decide ((i : Int) < (x.length : Int)) = false := by simp; omega
      rw [hd, cond_false]
      obtain rfl : i = x.length := by omega
      refine ⟨?_, hw⟩
      have : x = y := by
        rw [List.take_length] at ht
        rw [hl, List.take_length] at ht
        exact ht
      simp [this]
  · have hl' : ((x.length : Int) != (y.length : Int)) = true := by simp; omega
    rw [hl', cond_true]
    exact ⟨by rw [decide_eq_false]; rintro rfl; exact hl rfl, Ext.refl _ _⟩
end

/-! ### the plain law: what is written is read, and what is read is what was written -/
theorem numR_write {n : Nat} (h : n < 18446744073709551616) (r : List UInt8) : numR (numL n ++ r, 0) = (n, (r, 0)) := by
  unfold numR; rw [if_pos rfl, rd_num h]
theorem countR_write {n : Nat} {m : Int} (h : n < 18446744073709551616) (hm : (n : Int) ≤ m) (r : List UInt8) : countR m (numL n ++ r, 0) = (n, (r, 0)) := by
  unfold countR
  rw [numR_write h, if_pos rfl, if_neg (by show ¬ (m < 0 ∨ (n : Int) > m); omega)]
theorem Q2I {s : List UInt8 × Int} (h : s.2 ≠ 0) : (numR s).2.2 ≠ 0 := by
  unfold numR; rw [if_neg h]; exact h
theorem Q1G {s : List UInt8 × Int} (h : (numR s).2.2 = 0) : s.2 = 0 ∧ s.1 = numL (numR s).1 ++ (numR s).2.1 := by
  have h0 : s.2 = 0 := Decidable.byContradiction fun e => Q2I e h
  refine ⟨h0, ?_⟩
  unfold numR at h ⊢
  rw [if_pos h0] at h ⊢
  cases hr : rdNum s.1 with
  | none => rw [hr] at h; exact absurd h (by decide)
  | some q => obtain ⟨n, r⟩ := q; exact (rd_back hr).1
theorem Q1e {m : Int} {s : List UInt8 × Int} (h : (countR m s).2.2 = 0) : s.2 = 0 ∧ s.1 = numL (countR m s).1 ++ (countR m s).2.1 := by
  unfold countR at h ⊢
  by_cases h1 : (numR s).2.2 = 0
  · rw [if_pos h1] at h ⊢
    by_cases h2 : m < 0 ∨ ((numR s).1 : Int) > m
    · rw [if_pos h2] at h; exact absurd h (by decide)
    · rw [if_neg h2]; exact Q1G h1
  · rw [if_neg h1] at h; exact absurd h h1
theorem Q2y : ∀ (hs l : List Hd), (∀ h ∈ hs, rhead h = true ∧ 0 ≤ h.2.2 ∧ h.2.2 < 18446744073709551616) → readF hs.length l (hs.flatMap hdL, 0) = (l ++ hs, ([], 0))
  | [], l, _ => by simp [readF]
  | h :: r, l, hh => by
    obtain ⟨h1, h2, h3⟩ := hh h List.mem_cons_self
    simp only [rhead, Bool.and_eq_true, decide_eq_true_eq] at h1
    obtain ⟨a1, a2, a3, a4, _⟩ := h1
    simp only [List.length_cons, readF, List.flatMap_cons, hdL, List.append_assoc]
    rw [countR_write (by omega) (by omega), countR_write (by omega) (by omega), numR_write (by omega)]
    have he : (((h.1.toNat : Nat) : Int), ((h.2.1.toNat : Nat) : Int), ((h.2.2.toNat : Nat) : Int)) = h := by
      obtain ⟨x, y, z⟩ := h
      simp only at *
      rw [Int.toNat_of_nonneg (by omega), Int.toNat_of_nonneg (by omega), Int.toNat_of_nonneg (by omega)]
    simp only []
    rw [he, Q2y r (l ++ [h]) fun q hq => hh q (List.mem_cons_of_mem _ hq)]
    simp
theorem Q2o : ∀ (n : Nat) (l : List Hd) (s : List UInt8 × Int), (readF n l s).2.2 = 0 → s.2 = 0 ∧ ∃ hs : List Hd, (readF n l s).1 = l ++ hs ∧ hs.length = n ∧ s.1 = hs.flatMap hdL ++ (readF n l s).2.1 ∧ ∀ h ∈ hs, natH h
  | 0, l, s, h => ⟨h, [], by simp [readF], rfl, rfl, by simp⟩
  | n + 1, l, s, h => by
    simp only [readF] at h ⊢
    obtain ⟨k3, hs, e1, e2, e3, e4⟩ := Q2o n _ _ h
    obtain ⟨k2, f2⟩ := Q1G k3
    obtain ⟨k1, f1⟩ := Q1e k2
    obtain ⟨k0, f0⟩ := Q1e k1
    have l1 := Q1V 7 s (by decide)
    have l2 := Q1V 200 (countR 7 s).2 (by decide)
    have l3 := W.numR_lt (countR 200 (countR 7 s).2).2
    refine ⟨k0, _ :: hs, by rw [e1, List.append_assoc]; rfl, by rw [List.length_cons, e2], ?_, fun q hq => ?_⟩
    · rw [f0, f1, f2, e3]
      simp [hdL]
    · rcases List.mem_cons.1 hq with rfl | hq
      · refine ⟨?_, ?_, ?_, ?_, ?_, ?_⟩ <;> first | omega | (dsimp only; omega)
      · exact e4 q hq
theorem Q2h {hs : List Hd} (h : rightV hs = true) : hs.length ≤ 8 := by
  by_cases h0 : hs.length = 0
  · omega
  have key : ∀ i (hi : i < hs.length), (i : Int) ≤ hs[i].1 := by
    intro i
    induction i with
    | zero =>
      intro hi
      have := Q10 h hs[0] (List.getElem_mem hi)
      simp only [rhead, Bool.and_eq_true, decide_eq_true_eq] at this
      have := this.1
      omega
    | succ i ih =>
      intro hi
      have h1 := ih (by omega)
      have h2 := Q49 hs h (i := i) (j := i + 1) (by omega) (List.getElem?_eq_getElem (by omega)) (List.getElem?_eq_getElem hi)
      omega
  have h1 := key (hs.length - 1) (by omega)
  have := Q10 h hs[hs.length - 1] (List.getElem_mem (by omega))
  simp only [rhead, Bool.and_eq_true, decide_eq_true_eq] at this
  have := this.2.1
  omega
theorem Q2a {hs : List Hd} (h : rightV hs = true) (hf : ∀ h ∈ hs, 0 ≤ h.2.2 ∧ h.2.2 < 18446744073709551616) : readV (vecL hs) = (hs, 0) := by
  have hl := Q2h h
  have hra : readAll (vecL hs) = (hs, ([], 0)) := by
    unfold readAll vecL
    rw [countR_write (by omega) (by omega)]
    show readF hs.length [] (hs.flatMap hdL, 0) = _
    rw [Q2y hs [] fun q hq => ⟨Q10 h q hq, hf q hq⟩]
    simp
  unfold readV
  rw [hra]
  simp [doneR, h]
theorem Q3J {b : List UInt8} (h : (readV b).2 = 0) : rightV (readV b).1 = true ∧ vecL (readV b).1 = b ∧ ∀ q ∈ (readV b).1, natH q := by
  unfold readV at h ⊢
  by_cases hd : doneR (readAll b).2 ≠ 0
  · rw [if_pos hd] at h; exact absurd h hd
  rw [if_neg hd] at h ⊢
  by_cases hr : rightV (readAll b).1 = true
  · rw [if_pos hr]
    have hd := Decidable.not_not.1 hd
    have hk : (readAll b).2.2 = 0 ∧ (readAll b).2.1 = [] := by
      unfold doneR at hd
      by_cases h0 : (readAll b).2.2 = 0
      · rw [if_pos h0] at hd
        refine ⟨h0, ?_⟩
        by_cases h1 : (readAll b).2.1.length > 0
        · rw [if_pos h1] at hd; exact absurd hd (by decide)
        · exact List.eq_nil_of_length_eq_zero (by omega)
      · rw [if_neg h0] at hd; exact absurd hd h0
    obtain ⟨k0, hs, e1, e2, e3, e4⟩ := Q2o (countR 8 (b, 0)).1 [] (countR 8 (b, 0)).2 hk.1
    obtain ⟨_, f0⟩ := Q1e k0
    rw [List.nil_append] at e1
    have e1' : (readAll b).1 = hs := e1
    refine ⟨hr, ?_, fun q hq => e4 q (by rw [← e1']; exact hq)⟩
    rw [e1', vecL, e2]
    have e3' : (countR 8 (b, 0)).2.1 = hs.flatMap hdL ++ (readAll b).2.1 := e3
    rw [hk.2, List.append_nil] at e3'
    rw [← e3']
    exact f0.symm
  · rw [if_neg hr] at h; exact absurd h (by decide)
theorem Q3y {b : List UInt8} (h : (readV b).2 ≠ 0) : (readV b).1 = [] := by
  unfold readV at h ⊢
  by_cases hd : doneR (readAll b).2 ≠ 0
  · rw [if_pos hd]
  · rw [if_neg hd] at h ⊢
    by_cases hr : rightV (readAll b).1 = true
    · rw [if_pos hr] at h; exact absurd rfl h
    · rw [if_neg hr]
open W (OwnB Rd GivesW numR countR doneR)
def rNum.M (n1 : Int) (R : RW) (w : World) : Prop :=
 bif decide (n1 < 128) then (
 thenW (w.alloc (.cells #[.int .u8 (IntKind.u8.wrap n1)] 5)) fun a9 =>
 R (.slice (some (blk w.heap.size)) 1 1) a9) else (
 128 ≠ (0 : Int) ∧ thenW (w.alloc (.cells #[.int .u8 (IntKind.u8.wrap ((IntKind.u8.wrap (Int.tmod n1 128)) + 128))] 5)) fun aa =>
 128 ≠ (0 : Int) ∧ Calls Try.prog 39 #[.int .u64 (IntKind.u64.wrap (Int.tdiv n1 128))] aa fun a8 a7 => ∃ (a1 : Option Addr) (a0 a2 : Nat), a8 = .returned (.slice a1 a0 a2) ∧
 ∃ (a4 : Option Addr) (a5 a3 : Nat) (a6 : World), (Builtin.append_ #[25, 25] 25 #[.slice (some (blk w.heap.size)) 1 1, .slice a1 a0 a2]).run Try.prog a7 = .ok (.slice a4 a5 a3) a6 ∧
 R (.slice a4 a5 a3) a6)

theorem rNum.eq (n1 : Int) (R : RW) (w : World) : mfunc Try.prog [] 39 [.int .u64 n1] R w = rNum.M n1 R w := by kernel_rfl
theorem rNum.ok (n1 : Int) {R : RW} {w : World} (h : rNum.M n1 R w) : Calls Try.prog 39 #[.int .u64 n1] w fun e w' => ∃ v, e = .returned v ∧ R v w' :=
  Q09 follows (H := []) (args := [.int .u64 n1]) (by rw [rNum.eq]; exact h)

theorem Q1i : ∀ (k m : Nat), m < 128 ^ k → 0 < k → numF (k + 1) m = numF k m
  | k + 1, m, h, _ => by
    by_cases h1 : m < 128
    · rw [numF, if_pos h1, numF, if_pos h1]
    · rw [numF, if_neg h1]
      conv => rhs; rw [numF, if_neg h1]
      have hk : 0 < k := Nat.pos_of_ne_zero fun e => by subst e; simp at h; omega
      rw [Q1i k (m / 128) (by rw [Nat.pow_succ] at h; omega) hk]
theorem Q1Z {n : Nat} (h : n < 18446744073709551616) (h1 : ¬ n < 128) : numL n = UInt8.ofNat (n % 128 + 128) :: numL (n / 128) := by
  unfold numL
  rw [numF, if_neg h1, Q1i 9 (n / 128) (by omega) (by decide)]
section
variable {w w' : World} {a : Option Addr} {c : Nat} {hs : List Hd}
theorem rNum_spec : ∀ (n : Nat) (w : World), n < 18446744073709551616 → Calls Try.prog 39 #[.int .u64 n] w (fun e w' => ∃ a' c', e = .returned (.slice a' (numL n).length c') ∧ OwnB w.heap.size w' a' c' (numL n) ∧ Ext no w w') := by
  intro n
  induction n using Nat.strongRecOn with
  | _ n ih =>
    intro w hn
    refine (rNum.ok _ (R := fun v w' => ∃ a' c', v = (.slice a' (numL n).length c') ∧ OwnB w.heap.size w' a' c' (numL n) ∧ Ext no w w') ?_).mono fun e w' ⟨v, he, a', c', hv, hw⟩ => ⟨a', c', by rw [he, hv], hw⟩
    unfold rNum.M
    have one : ∀ (w2 : World) (x : UInt8), w2 = w.alloc (.cells #[.int .u8 (x.toNat : Int)] 5) → OwnB w.heap.size w2 (some (blk w.heap.size)) 1 [x] ∧ Ext no w w2 := fun w2 x h2 => by
      have hb : Blk w2 w.heap.size 5 (bytesV [x]) := by subst h2; exact Blk.new _ _ _
      exact ⟨⟨Q1f hb rfl (by simp [maxLen]), fun ad ha => by cases ha; exact ⟨Nat.le_refl _, hb.lt⟩⟩, by subst h2; exact (Ext.refl _ _).alloc _⟩
    by_cases h1 : n < 128
    · rw [show decide ((n : Int) < 128) = true by simp; omega, cond_true]
      have hv : IntKind.u8.wrap (n : Int) = ((UInt8.ofNat n).toNat : Int) := by rw [wu8 (by omega) (by omega), Q0R (by omega)]
      have hL : numL n = [UInt8.ofNat n] := by unfold numL; rw [numF, if_pos h1]
      rw [hv, hL]
      refine Q00 fun w2 h2 => ?_
      obtain ⟨q1, q2⟩ := one w2 _ h2
      exact ⟨_, 1, rfl, q1, q2⟩
    · rw [show decide ((n : Int) < 128) = false by simp; omega, cond_false]
      have hm : Int.tmod (n : Int) 128 = ((n % 128 : Nat) : Int) := by rw [Int.tmod_eq_emod_of_nonneg (by omega)]; omega
      have hd : Int.tdiv (n : Int) 128 = ((n / 128 : Nat) : Int) := by rw [Int.tdiv_eq_ediv_of_nonneg (by omega)]; omega
      have hv : IntKind.u8.wrap ((IntKind.u8.wrap (Int.tmod (n : Int) 128)) + 128) = ((UInt8.ofNat (n % 128 + 128)).toNat : Int) := by
        rw [hm, wu8 (n := ((n % 128 : Nat) : Int)) (by omega) (by omega), wu8 (by omega) (by omega), Q0R (by omega)]; omega
      rw [hv, hd, wu64 (by omega) (by omega), Q1Z hn h1]
      refine ⟨by decide, Q00 fun w3 h3 => ⟨by decide, ?_⟩⟩
      obtain ⟨q1, q2⟩ := one w3 _ h3
      refine (ih (n / 128) (by omega) w3 (by omega)).mono fun e w6 ⟨a6, c6, he, ho6, x6⟩ => ⟨a6, _, c6, he, ?_⟩
      obtain ⟨a', c', w8, hr, ho8, x8⟩ := (W.OwnB.no q1 x6).append (t := 25) (ty := 25) Try.underlying25 (Nat.le_trans q2.size x6.size) (xc := c6) (W.OwnB.row ho6) (by have := numL_le (n / 128); simp; omega)
      exact ⟨a', _, c', w8, hr, a', c', rfl, ho8, (q2.trans x6).then x8 fun b hb => .inr hb⟩

end
set_option maxHeartbeats 4000000
open W (OwnB Rd RdR GivesW numR countR doneR zig unzig intR)
def Q0B.M (ak au aw ay ax ao : Int) (ap : Option Addr) (ar an : Nat) (az : Int) (av : Bool) (R : RW) (w : World) : Prop :=
 thenW (w.alloc (.cells #[.int .i64 ak, .int .i64 au, .int .u64 aw, .int .i64 ay, .int .i64 ax, .int .i64 ao, .slice ap ar an, .int .u64 az] 27)) fun aq =>
 bif av then (
 ∃ (a1 a8 ac ah ag a4 : Int) (a7 : Option Addr) (a5 ab : Nat) (am : Int), cellsAt aq (blk w.heap.size) [.int .i64 a1, .int .i64 a8, .int .u64 ac, .int .i64 ah, .int .i64 ag, .int .i64 a4, .slice a7 a5 ab, .int .u64 am] 0 ∧
 Calls Try.prog 62 #[.agg #[.int .i64 a1, .int .i64 a8, .int .u64 ac, .int .i64 ah, .int .i64 ag, .int .i64 a4, .slice a7 a5 ab, .int .u64 am]] aq fun b0 b1 => ∃ (ad : Bool), b0 = .returned (.bool ad) ∧
 R (.bool ad) b1) else (
 ∃ (a0 a2 ae al aj aa : Int) (a6 : Option Addr) (a3 a9 : Nat) (ai : Int), cellsAt aq (blk w.heap.size) [.int .i64 a0, .int .i64 a2, .int .u64 ae, .int .i64 al, .int .i64 aj, .int .i64 aa, .slice a6 a3 a9, .int .u64 ai] 0 ∧
 Calls Try.prog 30 #[.agg #[.int .i64 a0, .int .i64 a2, .int .u64 ae, .int .i64 al, .int .i64 aj, .int .i64 aa, .slice a6 a3 a9, .int .u64 ai], .agg #[.int .i64 0, .int .i64 0, .int .u64 0, .int .i64 0, .int .i64 0, .int .i64 0, .slice none 0 0, .int .u64 0]] aq fun b2 b3 => ∃ (af : Bool), b2 = .returned (.bool af) ∧
 R (.bool af) b3)

theorem Q0B.ok (a0 a5 a7 a8 a9 a1 : Int) (a2 : Option Addr) (a4 a3 : Nat) (aa : Int) (a6 : Bool) {R : RW} {w : World} (h : Q0B.M a0 a5 a7 a8 a9 a1 a2 a4 a3 aa a6 R w) : Calls Try.prog 37 #[.agg #[.int .i64 a0, .int .i64 a5, .int .u64 a7, .int .i64 a8, .int .i64 a9, .int .i64 a1, .slice a2 a4 a3, .int .u64 aa], .bool a6] w fun e w' => ∃ v, e = .returned v ∧ R v w' :=
  Q09 follows (H := []) (args := [.agg #[.int .i64 a0, .int .i64 a5, .int .u64 a7, .int .i64 a8, .int .i64 a9, .int .i64 a1, .slice a2 a4 a3, .int .u64 aa], .bool a6]) (cast (by kernel_rfl) h)

def Q0B.N (a0 a5 a8 a9 aa a1 : Int) (a2 : Option Addr) (a4 a3 : Nat) (ab : Int) (a7 : Bool) (R : RW) (w : World) : Prop :=
 (a7 = true →
 ∀ (ad : World), Ext no w ad →
 R (.bool (Q08.F a0 a5 a8 a9 aa a1 a2 a4 a3 ab)) ad) ∧
 (a7 = false →
 ∀ (ac : World), Ext no w ac →
 Calls Try.prog 30 #[.agg #[.int .i64 a0, .int .i64 a5, .int .u64 a8, .int .i64 a9, .int .i64 aa, .int .i64 a1, .slice a2 a4 a3, .int .u64 ab], .agg #[.int .i64 0, .int .i64 0, .int .u64 0, .int .i64 0, .int .i64 0, .int .i64 0, .slice none 0 0, .int .u64 0]] ac fun af ae => ∃ (a6 : Bool), af = .returned (.bool a6) ∧
 R (.bool a6) ae)

theorem Q0B.up (a0 a5 a6 a8 a7 a2 : Int) (a3 : Option Addr) (a4 a1 : Nat) (a9 : Int) (ab : Bool) {R : RW} {w : World} (h : Q0B.N a0 a5 a6 a8 a7 a2 a3 a4 a1 a9 ab R w) : Q0B.M a0 a5 a6 a8 a7 a2 a3 a4 a1 a9 ab R w := by
  unfold Q0B.M
  unfold Q0B.N at h
  refine Q00 fun af ah => ?_
  have aa := Blk.of_new ah
  have ak := ((Ext.refl no w)).size
  have ad := (Ext.refl no w).x_alloc ah
  refine bif_of (fun ae => ?_) (fun ae => ?_)
  ·have h := h.1 ae
   refine ⟨a0, a5, a6, a8, a7, a2, a3, a4, a1, a9, ⟨aa.celli 0 rfl rfl, aa.celli 1 rfl rfl, aa.celli 2 rfl rfl, aa.celli 3 rfl rfl, aa.celli 4 rfl rfl, aa.celli 5 rfl rfl, aa.celli 6 rfl rfl, aa.celli 7 rfl rfl, trivial⟩, ?_⟩
   refine (Q08.pure a0 a5 a6 a8 a7 a2 a3 a4 a1 a9).mono fun ee ww12 ⟨he, hxx⟩ => ⟨(Q08.F a0 a5 a6 a8 a7 a2 a3 a4 a1 a9), he, ?_⟩
   have ag := ad.trans hxx
   have h := h ww12 ag
   exact h
  have h := h.2 ae
  refine ⟨a0, a5, a6, a8, a7, a2, a3, a4, a1, a9, ⟨aa.celli 0 rfl rfl, aa.celli 1 rfl rfl, aa.celli 2 rfl rfl, aa.celli 3 rfl rfl, aa.celli 4 rfl rfl, aa.celli 5 rfl rfl, aa.celli 6 rfl rfl, aa.celli 7 rfl rfl, trivial⟩, ?_⟩
  have h := h af ad
  refine h.mono fun aj ai h => ?_
  obtain ⟨ac, he, h⟩ := h
  refine ⟨ac, he, ?_⟩
  exact h

theorem Q0B.go (a0 a5 a7 a8 a9 a1 : Int) (a2 : Option Addr) (a4 a3 : Nat) (aa : Int) (a6 : Bool) {R : RW} {w : World} (h : Q0B.N a0 a5 a7 a8 a9 a1 a2 a4 a3 aa a6 R w) : Calls Try.prog 37 #[.agg #[.int .i64 a0, .int .i64 a5, .int .u64 a7, .int .i64 a8, .int .i64 a9, .int .i64 a1, .slice a2 a4 a3, .int .u64 aa], .bool a6] w fun e w' => ∃ v, e = .returned v ∧ R v w' := Q0B.ok a0 a5 a7 a8 a9 a1 a2 a4 a3 aa a6 (Q0B.up a0 a5 a7 a8 a9 a1 a2 a4 a3 aa a6 h)
theorem Q0B.run (a0 a5 a7 a8 a9 a1 : Int) (a2 : Option Addr) (a4 a3 : Nat) (aa : Int) (a6 : Bool) {V : Value} {Q : World → Prop} {w : World} (h : Q0B.N a0 a5 a7 a8 a9 a1 a2 a4 a3 aa a6 (fun v w' => v = V ∧ Q w') w) : Calls Try.prog 37 #[.agg #[.int .i64 a0, .int .i64 a5, .int .u64 a7, .int .i64 a8, .int .i64 a9, .int .i64 a1, .slice a2 a4 a3, .int .u64 aa], .bool a6] w (Ret V Q) := (Q0B.go a0 a5 a7 a8 a9 a1 a2 a4 a3 aa a6 h).mono fun e w' ⟨v, he, hv, hq⟩ => ⟨by rw [he, hv], hq⟩

def Q0v.M (cv b3 bn c8 ct cu bv : Int) (bx : Option Addr) (bc b7 : Nat) (cw ar b1 bj c4 c5 b0 : Int) (b5 : Option Addr) (b4 b2 : Nat) (c6 cx : Int) (dc : Option Addr) (d5 d6 : Nat) (cs : Int) (R : RW) (w : World) : Prop :=
 thenW (w.alloc (.cells #[.int .i64 cv, .int .i64 b3, .int .i64 bn, .int .u64 c8, .int .i64 ct, .int .i64 cu, .int .i64 bv, .slice bx bc b7, .int .u64 cw, .int .i64 ar, .int .i64 b1, .int .u64 bj, .int .i64 c4, .int .i64 c5, .int .i64 b0, .slice b5 b4 b2, .int .u64 c6, .int .i64 cx, .slice dc d5 d6, .int .u64 cs] 38)) fun ab =>
 ∃ (bd : Int), ab.cell? ((blk w.heap.size).add 0) = some (.int .i64 bd) ∧
 bif decide (bd < 1) then (
 R (.bool false) ab) else (
 ∃ (b8 : Int), ab.cell? ((blk w.heap.size).add 0) = some (.int .i64 b8) ∧
 bif decide (b8 > 4) then (
 R (.bool false) ab) else (
 ∃ (a2 a7 aa aq ao a6 : Int) (a5 : Option Addr) (a3 a4 : Nat) (ap : Int), cellsAt ab ((blk w.heap.size).add 1) [.int .i64 a2, .int .i64 a7, .int .u64 aa, .int .i64 aq, .int .i64 ao, .int .i64 a6, .slice a5 a3 a4, .int .u64 ap] 0 ∧
 ∃ (bw : Int), ab.cell? ((blk w.heap.size).add 0) = some (.int .i64 bw) ∧
 bif bw == 1 then (
 Calls Try.prog 37 #[.agg #[.int .i64 a2, .int .i64 a7, .int .u64 aa, .int .i64 aq, .int .i64 ao, .int .i64 a6, .slice a5 a3 a4, .int .u64 ap], .bool true] ab fun dk c7 => ∃ (bi : Bool), dk = .returned (.bool bi) ∧
 bif !bi then (
 R (.bool false) c7) else (
 ∃ (a9 ah az bp bl an : Int) (al : Option Addr) (ae af : Nat) (bm : Int), cellsAt c7 ((blk w.heap.size).add 9) [.int .i64 a9, .int .i64 ah, .int .u64 az, .int .i64 bp, .int .i64 bl, .int .i64 an, .slice al ae af, .int .u64 bm] 0 ∧
 ∃ (c3 : Int), c7.cell? ((blk w.heap.size).add 0) = some (.int .i64 c3) ∧
 Calls Try.prog 37 #[.agg #[.int .i64 a9, .int .i64 ah, .int .u64 az, .int .i64 bp, .int .i64 bl, .int .i64 an, .slice al ae af, .int .u64 bm], .bool (c3 == 4)] c7 fun dl a1 => ∃ (bb : Bool), dl = .returned (.bool bb) ∧
 bif !bb then (
 R (.bool false) a1) else (
 ∃ (bf : Int), a1.cell? ((blk w.heap.size).add 0) = some (.int .i64 bf) ∧
 bif bf != 2 then (
 ∃ (c0 : Int), a1.cell? ((blk w.heap.size).add 0) = some (.int .i64 c0) ∧
 bif c0 != 3 then (
 ∃ (cj : Int), a1.cell? ((blk w.heap.size).add 17) = some (.int .i64 cj) ∧
 bif cj == 0 then (
 ∃ (dg : Option Addr) (d2 de : Nat), a1.cell? ((blk w.heap.size).add 18) = some (.slice dg d2 de) ∧
 bif (d2 : Int) == 0 then (
 ∃ (co : Int), a1.cell? ((blk w.heap.size).add 19) = some (.int .u64 co) ∧
 R (.bool (co == 0)) a1) else (
 R (.bool false) a1)) else (
 R (.bool false) a1)) else (
 ∃ (ck : Int), a1.cell? ((blk w.heap.size).add 17) = some (.int .i64 ck) ∧
 bif decide (ck ≥ 0) then (
 ∃ (cp : Int), a1.cell? ((blk w.heap.size).add 17) = some (.int .i64 cp) ∧
 bif decide (cp < 8) then (
 ∃ (d3 : Option Addr) (db d8 : Nat), a1.cell? ((blk w.heap.size).add 18) = some (.slice d3 db d8) ∧
 Calls Try.prog 38 #[.slice d3 db d8] a1 fun dn bo => ∃ (av : Bool), dn = .returned (.bool av) ∧
 bif av then (
 ∃ (b6 : Int), bo.cell? ((blk w.heap.size).add 0) = some (.int .i64 b6) ∧
 bif b6 == 3 then (
 R (.bool true) bo) else (
 ∃ (cn : Int), bo.cell? ((blk w.heap.size).add 19) = some (.int .u64 cn) ∧
 R (.bool (cn == 0)) bo)) else (
 R (.bool false) bo)) else (
 R (.bool false) a1)) else (
 R (.bool false) a1))) else (
 ∃ (cg : Int), a1.cell? ((blk w.heap.size).add 17) = some (.int .i64 cg) ∧
 bif decide (cg ≥ 0) then (
 ∃ (ce : Int), a1.cell? ((blk w.heap.size).add 17) = some (.int .i64 ce) ∧
 bif decide (ce < 8) then (
 ∃ (d9 : Option Addr) (d0 d1 : Nat), a1.cell? ((blk w.heap.size).add 18) = some (.slice d9 d0 d1) ∧
 Calls Try.prog 38 #[.slice d9 d0 d1] a1 fun dh bu => ∃ (aw : Bool), dh = .returned (.bool aw) ∧
 bif aw then (
 ∃ (be : Int), bu.cell? ((blk w.heap.size).add 0) = some (.int .i64 be) ∧
 bif be == 3 then (
 R (.bool true) bu) else (
 ∃ (cd : Int), bu.cell? ((blk w.heap.size).add 19) = some (.int .u64 cd) ∧
 R (.bool (cd == 0)) bu)) else (
 R (.bool false) bu)) else (
 R (.bool false) a1)) else (
 R (.bool false) a1))))) else (
 ∃ (b9 : Int), ab.cell? ((blk w.heap.size).add 0) = some (.int .i64 b9) ∧
 Calls Try.prog 37 #[.agg #[.int .i64 a2, .int .i64 a7, .int .u64 aa, .int .i64 aq, .int .i64 ao, .int .i64 a6, .slice a5 a3 a4, .int .u64 ap], .bool (b9 == 4)] ab fun dm c9 => ∃ (br : Bool), dm = .returned (.bool br) ∧
 bif !br then (
 R (.bool false) c9) else (
 ∃ (a8 ai au c2 bg ac : Int) (am : Option Addr) (ak ag : Nat) (bq : Int), cellsAt c9 ((blk w.heap.size).add 9) [.int .i64 a8, .int .i64 ai, .int .u64 au, .int .i64 c2, .int .i64 bg, .int .i64 ac, .slice am ak ag, .int .u64 bq] 0 ∧
 ∃ (bh : Int), c9.cell? ((blk w.heap.size).add 0) = some (.int .i64 bh) ∧
 Calls Try.prog 37 #[.agg #[.int .i64 a8, .int .i64 ai, .int .u64 au, .int .i64 c2, .int .i64 bg, .int .i64 ac, .slice am ak ag, .int .u64 bq], .bool (bh == 4)] c9 fun di a0 => ∃ (c1 : Bool), di = .returned (.bool c1) ∧
 bif !c1 then (
 R (.bool false) a0) else (
 ∃ (ba : Int), a0.cell? ((blk w.heap.size).add 0) = some (.int .i64 ba) ∧
 bif ba != 2 then (
 ∃ (bs : Int), a0.cell? ((blk w.heap.size).add 0) = some (.int .i64 bs) ∧
 bif bs != 3 then (
 ∃ (ca : Int), a0.cell? ((blk w.heap.size).add 17) = some (.int .i64 ca) ∧
 bif ca == 0 then (
 ∃ (dd : Option Addr) (cy df : Nat), a0.cell? ((blk w.heap.size).add 18) = some (.slice dd cy df) ∧
 bif (cy : Int) == 0 then (
 ∃ (cq : Int), a0.cell? ((blk w.heap.size).add 19) = some (.int .u64 cq) ∧
 R (.bool (cq == 0)) a0) else (
 R (.bool false) a0)) else (
 R (.bool false) a0)) else (
 ∃ (cm : Int), a0.cell? ((blk w.heap.size).add 17) = some (.int .i64 cm) ∧
 bif decide (cm ≥ 0) then (
 ∃ (ci : Int), a0.cell? ((blk w.heap.size).add 17) = some (.int .i64 ci) ∧
 bif decide (ci < 8) then (
 ∃ (da : Option Addr) (d4 cz : Nat), a0.cell? ((blk w.heap.size).add 18) = some (.slice da d4 cz) ∧
 Calls Try.prog 38 #[.slice da d4 cz] a0 fun dj bt => ∃ (ay : Bool), dj = .returned (.bool ay) ∧
 bif ay then (
 ∃ (bz : Int), bt.cell? ((blk w.heap.size).add 0) = some (.int .i64 bz) ∧
 bif bz == 3 then (
 R (.bool true) bt) else (
 ∃ (cc : Int), bt.cell? ((blk w.heap.size).add 19) = some (.int .u64 cc) ∧
 R (.bool (cc == 0)) bt)) else (
 R (.bool false) bt)) else (
 R (.bool false) a0)) else (
 R (.bool false) a0))) else (
 ∃ (cf : Int), a0.cell? ((blk w.heap.size).add 17) = some (.int .i64 cf) ∧
 bif decide (cf ≥ 0) then (
 ∃ (ch : Int), a0.cell? ((blk w.heap.size).add 17) = some (.int .i64 ch) ∧
 bif decide (ch < 8) then (
 ∃ (cr : Option Addr) (cb cl : Nat), a0.cell? ((blk w.heap.size).add 18) = some (.slice cr cb cl) ∧
 Calls Try.prog 38 #[.slice cr cb cl] a0 fun d7 aj => ∃ (ad : Bool), d7 = .returned (.bool ad) ∧
 bif ad then (
 ∃ (ax : Int), aj.cell? ((blk w.heap.size).add 0) = some (.int .i64 ax) ∧
 bif ax == 3 then (
 R (.bool true) aj) else (
 ∃ (bk : Int), aj.cell? ((blk w.heap.size).add 19) = some (.int .u64 bk) ∧
 R (.bool (bk == 0)) aj)) else (
 R (.bool false) aj)) else (
 R (.bool false) a0)) else (
 R (.bool false) a0)))))))

theorem Q0v.ok (am a3 ac ad aj ak a8 : Int) (ab : Option Addr) (aa a7 : Nat) (ai a0 a1 a9 ae af a4 : Int) (a5 : Option Addr) (a6 a2 : Nat) (ag al : Int) (ap : Option Addr) (an ao : Nat) (ah : Int) {R : RW} {w : World} (h : Q0v.M am a3 ac ad aj ak a8 ab aa a7 ai a0 a1 a9 ae af a4 a5 a6 a2 ag al ap an ao ah R w) : Calls Try.prog 16 #[.agg #[.int .i64 am, .int .i64 a3, .int .i64 ac, .int .u64 ad, .int .i64 aj, .int .i64 ak, .int .i64 a8, .slice ab aa a7, .int .u64 ai, .int .i64 a0, .int .i64 a1, .int .u64 a9, .int .i64 ae, .int .i64 af, .int .i64 a4, .slice a5 a6 a2, .int .u64 ag, .int .i64 al, .slice ap an ao, .int .u64 ah]] w fun e w' => ∃ v, e = .returned v ∧ R v w' :=
  Q09 follows (H := []) (args := [.agg #[.int .i64 am, .int .i64 a3, .int .i64 ac, .int .u64 ad, .int .i64 aj, .int .i64 ak, .int .i64 a8, .slice ab aa a7, .int .u64 ai, .int .i64 a0, .int .i64 a1, .int .u64 a9, .int .i64 ae, .int .i64 af, .int .i64 a4, .slice a5 a6 a2, .int .u64 ag, .int .i64 al, .slice ap an ao, .int .u64 ah]]) (cast (by kernel_rfl) h)

def Q0v.N (a0 a8 aj ap aw ax af : Int) (ai : Option Addr) (ah ae : Nat) (av a4 a5 ag aq au a9 : Int) (aa : Option Addr) (ab a7 : Nat) (ar a1 : Int) (b2 : Option Addr) (a6 b1 : Nat) (al : Int) (R : RW) (w : World) : Prop :=
 (a0 < 1 →
 ∀ (a2 : World), Ext no w a2 →
 R (.bool false) a2) ∧
 ((1 : Int) ≤ a0 →
 (a0 > 4 →
 ∀ (a2 : World), Ext no w a2 →
 R (.bool false) a2) ∧
 (a0 ≤ 4 →
 (a0 = 1 →
 ∀ (a2 : World) (b8 : Nat), Ext no w a2 → Priv w a2 [b8] →
 Calls Try.prog 37 #[.agg #[.int .i64 a8, .int .i64 aj, .int .u64 ap, .int .i64 aw, .int .i64 ax, .int .i64 af, .slice ai ah ae, .int .u64 av], .bool true] a2 fun ba b0 => ∃ (am : Bool), ba = .returned (.bool am) ∧
 Keep [b8] a2 b0 ∧
 (am = false →
 R (.bool false) b0) ∧
 (am = true →
 Calls Try.prog 37 #[.agg #[.int .i64 a4, .int .i64 a5, .int .u64 ag, .int .i64 aq, .int .i64 au, .int .i64 a9, .slice aa ab a7, .int .u64 ar], .bool (a0 == 4)] b0 fun b7 ay => ∃ (ak : Bool), b7 = .returned (.bool ak) ∧
 Keep [b8] b0 ay ∧
 (ak = false →
 R (.bool false) ay) ∧
 (ak = true →
 (a1 = 0 →
 ((a6 : Int) = 0 →
 R (.bool (al == 0)) ay) ∧
 ((a6 : Int) ≠ 0 →
 R (.bool false) ay)) ∧
 (a1 ≠ 0 →
 R (.bool false) ay)))) ∧
 (a0 ≠ 1 →
 ∀ (a2 : World) (b5 : Nat), Ext no w a2 → Priv w a2 [b5] →
 Calls Try.prog 37 #[.agg #[.int .i64 a8, .int .i64 aj, .int .u64 ap, .int .i64 aw, .int .i64 ax, .int .i64 af, .slice ai ah ae, .int .u64 av], .bool (a0 == 4)] a2 fun b6 az => ∃ (an : Bool), b6 = .returned (.bool an) ∧
 Keep [b5] a2 az ∧
 (an = false →
 R (.bool false) az) ∧
 (an = true →
 Calls Try.prog 37 #[.agg #[.int .i64 a4, .int .i64 a5, .int .u64 ag, .int .i64 aq, .int .i64 au, .int .i64 a9, .slice aa ab a7, .int .u64 ar], .bool (a0 == 4)] az fun bb a3 => ∃ (ao : Bool), bb = .returned (.bool ao) ∧
 Keep [b5] az a3 ∧
 (ao = false →
 R (.bool false) a3) ∧
 (ao = true →
 (a0 ≠ 2 →
 (a0 ≠ 3 →
 (a1 = 0 →
 ((a6 : Int) = 0 →
 R (.bool (al == 0)) a3) ∧
 ((a6 : Int) ≠ 0 →
 R (.bool false) a3)) ∧
 (a1 ≠ 0 →
 R (.bool false) a3)) ∧
 (a0 = 3 →
 (a1 ≥ 0 →
 (a1 < 8 →
 Calls Try.prog 38 #[.slice b2 a6 b1] a3 fun b9 b4 => ∃ (ac : Bool), b9 = .returned (.bool ac) ∧
 Keep [b5] a3 b4 ∧
 (ac = true →
 R (.bool true) b4) ∧
 (ac = false →
 R (.bool false) b4)) ∧
 ((8 : Int) ≤ a1 →
 R (.bool false) a3)) ∧
 (a1 < 0 →
 R (.bool false) a3))) ∧
 (a0 = 2 →
 (a1 ≥ 0 →
 (a1 < 8 →
 Calls Try.prog 38 #[.slice b2 a6 b1] a3 fun bc b3 => ∃ (ad : Bool), bc = .returned (.bool ad) ∧
 Keep [b5] a3 b3 ∧
 (ad = true →
 R (.bool (al == 0)) b3) ∧
 (ad = false →
 R (.bool false) b3)) ∧
 ((8 : Int) ≤ a1 →
 R (.bool false) a3)) ∧
 (a1 < 0 →
 R (.bool false) a3)))))))

theorem Q0v.up (a1 aa aj an ap aq ag : Int) (ai : Option Addr) (ah af : Nat) (ao a2 a4 a9 ab ad a6 : Int) (a7 : Option Addr) (a8 a5 : Nat) (ac a3 : Int) (am : Option Addr) (ak al : Nat) (ae : Int) {R : RW} {w : World} (h : Q0v.N a1 aa aj an ap aq ag ai ah af ao a2 a4 a9 ab ad a6 a7 a8 a5 ac a3 am ak al ae R w) : Q0v.M a1 aa aj an ap aq ag ai ah af ao a2 a4 a9 ab ad a6 a7 a8 a5 ac a3 am ak al ae R w := by
  unfold Q0v.M
  unfold Q0v.N at h
  refine Q00 fun av bl => ?_
  have a0 := Blk.of_new bl
  have bk := ((Ext.refl no w)).size
  have au := (Ext.refl no w).x_alloc bl
  refine ⟨a1, a0.celli 0 rfl rfl, ?_⟩
  refine bif_of (fun b5 => ?_) (fun b5 => ?_)
  ·have h := h.1 (of_decide_eq_true b5)
   have h := h av au
   exact h
  have h := h.2 (Int.not_lt.1 (of_decide_eq_false b5))
  refine ⟨a1, a0.celli 0 rfl rfl, ?_⟩
  refine bif_of (fun b6 => ?_) (fun b6 => ?_)
  ·have h := h.1 (of_decide_eq_true b6)
   have h := h av au
   exact h
  have h := h.2 (Int.not_lt.1 (of_decide_eq_false b6))
  refine ⟨aa, aj, an, ap, aq, ag, ai, ah, af, ao, ⟨a0.celli 1 rfl rfl, a0.celli 2 rfl rfl, a0.celli 3 rfl rfl, a0.celli 4 rfl rfl, a0.celli 5 rfl rfl, a0.celli 6 rfl rfl, a0.celli 7 rfl rfl, a0.celli 8 rfl rfl, trivial⟩, ?_⟩
  refine ⟨a1, a0.celli 0 rfl rfl, ?_⟩
  refine bif_of (fun b1 => ?_) (fun b1 => ?_)
  ·have h := h.1 (beq_t b1)
   have h := h av (w.heap.size) au (Priv.cons bk a0.lt Priv.nil)
   refine h.mono fun bq bx h => ?_
   obtain ⟨ay, he, hk, h⟩ := h
   refine ⟨ay, he, ?_⟩
   have a0 := hk.blk a0 (by simp)
   refine bif_of (fun bc => ?_) (fun bc => ?_)
   ·have h := h.1 (not_t bc)
    exact h
   have h := h.2 (not_f bc)
   refine ⟨a2, a4, a9, ab, ad, a6, a7, a8, a5, ac, ⟨a0.celli 9 rfl rfl, a0.celli 10 rfl rfl, a0.celli 11 rfl rfl, a0.celli 12 rfl rfl, a0.celli 13 rfl rfl, a0.celli 14 rfl rfl, a0.celli 15 rfl rfl, a0.celli 16 rfl rfl, trivial⟩, ?_⟩
   refine ⟨a1, a0.celli 0 rfl rfl, ?_⟩
   refine h.mono fun bo bs h => ?_
   obtain ⟨ax, he, hk, h⟩ := h
   refine ⟨ax, he, ?_⟩
   have a0 := hk.blk a0 (by simp)
   refine bif_of (fun be => ?_) (fun be => ?_)
   ·have h := h.1 (not_t be)
    exact h
   have h := h.2 (not_f be)
   refine ⟨a1, a0.celli 0 rfl rfl, ?_⟩
   refine bif_tt (cong1 (r := true) (fun z => z != 2) (beq_t b1) (by decide)) ?_
   refine ⟨a1, a0.celli 0 rfl rfl, ?_⟩
   refine bif_tt (cong1 (r := true) (fun z => z != 3) (beq_t b1) (by decide)) ?_
   refine ⟨a3, a0.celli 17 rfl rfl, ?_⟩
   refine bif_fo (fun b4 => ?_) (fun b4 => ?_)
   ·have h := h.2 (beq_f b4)
    exact h
   have h := h.1 (beq_t b4)
   refine ⟨am, ak, al, a0.celli 18 rfl rfl, ?_⟩
   refine bif_fo (fun bi => ?_) (fun bi => ?_)
   ·have h := h.2 (beq_f bi)
    exact h
   have h := h.1 (beq_t bi)
   refine ⟨ae, a0.celli 19 rfl rfl, ?_⟩
   exact h
  have h := h.2 (beq_f b1)
  refine ⟨a1, a0.celli 0 rfl rfl, ?_⟩
  have h := h av (w.heap.size) au (Priv.cons bk a0.lt Priv.nil)
  refine h.mono fun bm br h => ?_
  obtain ⟨az, he, hk, h⟩ := h
  refine ⟨az, he, ?_⟩
  have a0 := hk.blk a0 (by simp)
  refine bif_of (fun bf => ?_) (fun bf => ?_)
  ·have h := h.1 (not_t bf)
   exact h
  have h := h.2 (not_f bf)
  refine ⟨a2, a4, a9, ab, ad, a6, a7, a8, a5, ac, ⟨a0.celli 9 rfl rfl, a0.celli 10 rfl rfl, a0.celli 11 rfl rfl, a0.celli 12 rfl rfl, a0.celli 13 rfl rfl, a0.celli 14 rfl rfl, a0.celli 15 rfl rfl, a0.celli 16 rfl rfl, trivial⟩, ?_⟩
  refine ⟨a1, a0.celli 0 rfl rfl, ?_⟩
  refine h.mono fun bt bu h => ?_
  obtain ⟨b0, he, hk, h⟩ := h
  refine ⟨b0, he, ?_⟩
  have a0 := hk.blk a0 (by simp)
  refine bif_of (fun bd => ?_) (fun bd => ?_)
  ·have h := h.1 (not_t bd)
   exact h
  have h := h.2 (not_f bd)
  refine ⟨a1, a0.celli 0 rfl rfl, ?_⟩
  refine bif_fo (fun b2 => ?_) (fun b2 => ?_)
  ·have h := h.2 (bne_f b2)
   refine ⟨a3, a0.celli 17 rfl rfl, ?_⟩
   refine bif_fo (fun bg => ?_) (fun bg => ?_)
   ·have h := h.2 (Int.not_le.1 (of_decide_eq_false bg))
    exact h
   have h := h.1 (of_decide_eq_true bg)
   refine ⟨a3, a0.celli 17 rfl rfl, ?_⟩
   refine bif_fo (fun bh => ?_) (fun bh => ?_)
   ·have h := h.2 (Int.not_lt.1 (of_decide_eq_false bh))
    exact h
   have h := h.1 (of_decide_eq_true bh)
   refine ⟨am, ak, al, a0.celli 18 rfl rfl, ?_⟩
   refine h.mono fun bv bn h => ?_
   obtain ⟨aw, he, hk, h⟩ := h
   refine ⟨aw, he, ?_⟩
   have a0 := hk.blk a0 (by simp)
   refine bif_fo (fun b8 => ?_) (fun b8 => ?_)
   ·have h := h.2 b8
    exact h
   have h := h.1 b8
   refine ⟨a1, a0.celli 0 rfl rfl, ?_⟩
   refine bif_ff (cong1 (r := false) (fun z => z == 3) (bne_f b2) (by decide)) ?_
   refine ⟨ae, a0.celli 19 rfl rfl, ?_⟩
   exact h
  have h := h.1 (bne_t b2)
  refine ⟨a1, a0.celli 0 rfl rfl, ?_⟩
  refine bif_of (fun b3 => ?_) (fun b3 => ?_)
  ·have h := h.1 (bne_t b3)
   refine ⟨a3, a0.celli 17 rfl rfl, ?_⟩
   refine bif_fo (fun b7 => ?_) (fun b7 => ?_)
   ·have h := h.2 (beq_f b7)
    exact h
   have h := h.1 (beq_t b7)
   refine ⟨am, ak, al, a0.celli 18 rfl rfl, ?_⟩
   refine bif_fo (fun bj => ?_) (fun bj => ?_)
   ·have h := h.2 (beq_f bj)
    exact h
   have h := h.1 (beq_t bj)
   refine ⟨ae, a0.celli 19 rfl rfl, ?_⟩
   exact h
  have h := h.2 (bne_f b3)
  refine ⟨a3, a0.celli 17 rfl rfl, ?_⟩
  refine bif_fo (fun ba => ?_) (fun ba => ?_)
  ·have h := h.2 (Int.not_le.1 (of_decide_eq_false ba))
   exact h
  have h := h.1 (of_decide_eq_true ba)
  refine ⟨a3, a0.celli 17 rfl rfl, ?_⟩
  refine bif_fo (fun bb => ?_) (fun bb => ?_)
  ·have h := h.2 (Int.not_lt.1 (of_decide_eq_false bb))
   exact h
  have h := h.1 (of_decide_eq_true bb)
  refine ⟨am, ak, al, a0.celli 18 rfl rfl, ?_⟩
  refine h.mono fun bp bw h => ?_
  obtain ⟨ar, he, hk, h⟩ := h
  refine ⟨ar, he, ?_⟩
  have a0 := hk.blk a0 (by simp)
  refine bif_fo (fun b9 => ?_) (fun b9 => ?_)
  ·have h := h.2 b9
   exact h
  have h := h.1 b9
  refine ⟨a1, a0.celli 0 rfl rfl, ?_⟩
  refine bif_tt (cong1 (r := true) (fun z => z == 3) (bne_f b3) (by decide)) ?_
  exact h

theorem Q0v.go (am a3 ac ad aj ak a8 : Int) (ab : Option Addr) (aa a7 : Nat) (ai a0 a1 a9 ae af a4 : Int) (a5 : Option Addr) (a6 a2 : Nat) (ag al : Int) (ap : Option Addr) (an ao : Nat) (ah : Int) {R : RW} {w : World} (h : Q0v.N am a3 ac ad aj ak a8 ab aa a7 ai a0 a1 a9 ae af a4 a5 a6 a2 ag al ap an ao ah R w) : Calls Try.prog 16 #[.agg #[.int .i64 am, .int .i64 a3, .int .i64 ac, .int .u64 ad, .int .i64 aj, .int .i64 ak, .int .i64 a8, .slice ab aa a7, .int .u64 ai, .int .i64 a0, .int .i64 a1, .int .u64 a9, .int .i64 ae, .int .i64 af, .int .i64 a4, .slice a5 a6 a2, .int .u64 ag, .int .i64 al, .slice ap an ao, .int .u64 ah]] w fun e w' => ∃ v, e = .returned v ∧ R v w' := Q0v.ok am a3 ac ad aj ak a8 ab aa a7 ai a0 a1 a9 ae af a4 a5 a6 a2 ag al ap an ao ah (Q0v.up am a3 ac ad aj ak a8 ab aa a7 ai a0 a1 a9 ae af a4 a5 a6 a2 ag al ap an ao ah h)
theorem Q0v.run (am a3 ac ad aj ak a8 : Int) (ab : Option Addr) (aa a7 : Nat) (ai a0 a1 a9 ae af a4 : Int) (a5 : Option Addr) (a6 a2 : Nat) (ag al : Int) (ap : Option Addr) (an ao : Nat) (ah : Int) {V : Value} {Q : World → Prop} {w : World} (h : Q0v.N am a3 ac ad aj ak a8 ab aa a7 ai a0 a1 a9 ae af a4 a5 a6 a2 ag al ap an ao ah (fun v w' => v = V ∧ Q w') w) : Calls Try.prog 16 #[.agg #[.int .i64 am, .int .i64 a3, .int .i64 ac, .int .u64 ad, .int .i64 aj, .int .i64 ak, .int .i64 a8, .slice ab aa a7, .int .u64 ai, .int .i64 a0, .int .i64 a1, .int .u64 a9, .int .i64 ae, .int .i64 af, .int .i64 a4, .slice a5 a6 a2, .int .u64 ag, .int .i64 al, .slice ap an ao, .int .u64 ah]] w (Ret V Q) := (Q0v.go am a3 ac ad aj ak a8 ab aa a7 ai a0 a1 a9 ae af a4 a5 a6 a2 ag al ap an ao ah h).mono fun e w' ⟨v, he, hv, hq⟩ => ⟨by rw [he, hv], hq⟩

structure Fr where
  kd : Int
  e : Ent
  f : Ent
  who : Int
  v : List Hd
  sg : Int
deriving DecidableEq
def Fr.zero : Fr := ⟨0, Ent.zero, Ent.zero, 0, [], 0⟩
structure FP where
  r : Fr
  ea : Option Addr
  ec : Nat
  fa : Option Addr
  fc : Nat
  va : Option Addr
  vc : Nat
def FP.C (x : FP) : List Value := [.int .i64 x.r.kd, .int .i64 x.r.e.w, .int .i64 x.r.e.i, .int .u64 x.r.e.pv, .int .i64 x.r.e.t, .int .i64 x.r.e.tw, .int .i64 x.r.e.ep, .slice x.ea x.r.e.body.length x.ec, .int .u64 x.r.e.sg,
  .int .i64 x.r.f.w, .int .i64 x.r.f.i, .int .u64 x.r.f.pv, .int .i64 x.r.f.t, .int .i64 x.r.f.tw, .int .i64 x.r.f.ep, .slice x.fa x.r.f.body.length x.fc, .int .u64 x.r.f.sg, .int .i64 x.r.who, .slice x.va x.r.v.length x.vc, .int .u64 x.r.sg]
def FP.V (x : FP) : Value := .agg #[.int .i64 x.r.kd, .int .i64 x.r.e.w, .int .i64 x.r.e.i, .int .u64 x.r.e.pv, .int .i64 x.r.e.t, .int .i64 x.r.e.tw, .int .i64 x.r.e.ep, .slice x.ea x.r.e.body.length x.ec, .int .u64 x.r.e.sg,
  .int .i64 x.r.f.w, .int .i64 x.r.f.i, .int .u64 x.r.f.pv, .int .i64 x.r.f.t, .int .i64 x.r.f.tw, .int .i64 x.r.f.ep, .slice x.fa x.r.f.body.length x.fc, .int .u64 x.r.f.sg, .int .i64 x.r.who, .slice x.va x.r.v.length x.vc, .int .u64 x.r.sg]
structure FP.at (w : World) (x : FP) : Prop where
  e : RowAt w x.ea (bytesV x.r.e.body)
  f : RowAt w x.fa (bytesV x.r.f.body)
  v : RowAt w x.va (hsC x.r.v)
def frOK (x : Fr) : Bool :=
  if x.kd = 1 then Q0z x.e && (decide (x.f = Ent.zero) && (decide (x.who = 0) && (decide (x.v.length = 0) && decide (x.sg = 0))))
  else if x.kd = 2 then decide (x.e = Ent.zero) && (decide (x.f = Ent.zero) && (decide (0 ≤ x.who) && (decide (x.who < 8) && (rightV x.v && decide (x.sg = 0)))))
  else if x.kd = 3 then decide (x.e = Ent.zero) && (decide (x.f = Ent.zero) && (decide (0 ≤ x.who) && (decide (x.who < 8) && rightV x.v)))
  else if x.kd = 4 then Q0z x.e && (Q0z x.f && (decide (x.who = 0) && (decide (x.v.length = 0) && decide (x.sg = 0))))
  else false
section
variable {w w' : World} {o o' : Own} {K : Nat → Prop} {x y : FP} {e f : Ent} {a : Option Addr} {c : Nat}
theorem FP.at.no (h : x.at w) (X : Ext no w w') : x.at w' := ⟨h.e.no X, h.f.no X, h.v.no X⟩
theorem beq_dz (s : Int) : (s == 0) = decide (s = 0) := by rw [Bool.eq_iff_iff]; simp
theorem Q1E (ha : RowAt w a (bytesV e.body)) (b : Bool) :
    Calls Try.prog 37 #[entV e a c, .bool b] w (Ret (.bool (if b then Q0z e else decide (e = Ent.zero))) fun w' => Ext no w w') := by
  refine Q0B.run e.w e.i e.pv e.t e.tw e.ep a e.body.length c e.sg b ?_
  unfold Q0B.N
  rw [Q1N]
  refine ⟨fun h w2 X => ⟨by rw [h]; rfl, X⟩, fun h w2 X => ?_⟩
  refine (Q3D (e := e) (f := Ent.zero) (b := none) (d := 0) (ha.no X) (RowAt.nil _ _)).mono fun v w3 ⟨hx, X3⟩ => ⟨_, hx, by rw [h]; rfl, X.trans X3⟩
theorem Q25 (h : x.at w) (hl : x.r.v.length < 1000000) : Calls Try.prog 16 #[x.V] w (Ret (.bool (frOK x.r)) fun w' => Ext no w w') := by
  obtain ⟨⟨kd, e, f, who, v, sg⟩, ea, ec, fa, fc, va, vc⟩ := x
  obtain ⟨he, hf, hv⟩ := h
  refine Q0v.run kd e.w e.i e.pv e.t e.tw e.ep ea e.body.length ec e.sg f.w f.i f.pv f.t f.tw f.ep fa f.body.length fc f.sg who va v.length vc sg ?_
  unfold Q0v.N
  have leaf : ∀ {b : Bool} {w2 : World}, b = frOK ⟨kd, e, f, who, v, sg⟩ → Ext no w w2 → Value.bool b = Value.bool (frOK ⟨kd, e, f, who, v, sg⟩) ∧ Ext no w w2 := fun h X => ⟨by rw [h], X⟩
  refine ⟨fun h1 w2 X => leaf ?_ X, fun h1 => ⟨fun h4 w2 X => leaf ?_ X, fun h4 => ⟨fun k1 w2 p X hp => ?_, fun k1 w2 p X hp => ?_⟩⟩⟩
  · unfold frOK; simp only []; rw [if_neg (by omega), if_neg (by omega), if_neg (by omega), if_neg (by omega)]
  · unfold frOK; simp only []; rw [if_neg (by omega), if_neg (by omega), if_neg (by omega), if_neg (by omega)]
  · subst k1
    refine (Q1E (he.no X) true).mono fun u w3 ⟨hx, X3⟩ => ⟨_, hx, X3.kept, fun h => leaf ?_ (X.trans X3), fun h => ?_⟩
    · have h' : Q0z e = false := h
      simp [frOK, h']
    have h' : Q0z e = true := h
    have X3 := X.trans X3
    refine (Q1E (hf.no X3) _).mono fun u w4 ⟨hx, X4⟩ => ⟨_, hx, X4.kept, fun hh => leaf ?_ (X3.trans X4), fun hh => ?_⟩
    all_goals simp at hh
    · simp [frOK, hh]
    have X4 := X3.trans X4
    refine ⟨fun hw => ⟨fun hn => leaf ?_ X4, fun hn => leaf ?_ X4⟩, fun hw => leaf ?_ X4⟩
    · have hn' : v.length = 0 := by omega
      simp [frOK, h', hh, hw, List.length_eq_zero_iff.1 hn', beq_dz]
    · have hn' : v ≠ [] := fun h => hn (by rw [h]; rfl)
      simp [frOK, hn']
    · simp [frOK, hw]
  · refine (Q1E (he.no X) _).mono fun u w3 ⟨hx, X3⟩ => ⟨_, hx, X3.kept, fun h => leaf ?_ (X.trans X3), fun h => ?_⟩
    · by_cases k4 : kd = 4
      · subst k4; simp at h; simp [frOK, h]
      · rw [beq_false_of_ne k4] at h; simp at h; simp [frOK, h, k1, k4]
    have X3 := X.trans X3
    refine (Q1E (hf.no X3) _).mono fun u w4 ⟨hx, X4⟩ => ⟨_, hx, X4.kept, fun hh => leaf ?_ (X3.trans X4), fun hh => ?_⟩
    · by_cases k4 : kd = 4
      · subst k4; simp at hh; simp [frOK, hh]
      · rw [beq_false_of_ne k4] at hh; simp at hh; simp [frOK, hh, k1, k4]
    have X4 := X3.trans X4
    refine ⟨fun k2 => ⟨fun k3 => ?_, fun k3 => ?_⟩, fun k2 => ?_⟩
    · obtain rfl : kd = 4 := by omega
      simp at h hh
      refine ⟨fun hw => ⟨fun hn => leaf ?_ X4, fun hn => leaf ?_ X4⟩, fun hw => leaf ?_ X4⟩
      · have hn' : v.length = 0 := by omega
        simp [frOK, h, hh, hw, List.length_eq_zero_iff.1 hn', beq_dz]
      · have hn' : v ≠ [] := fun h => hn (by rw [h]; rfl)
        simp [frOK, hn']
      · simp [frOK, hw]
    · subst k3
      simp at h hh
      refine ⟨fun hw => ⟨fun hn => ?_, fun hn => leaf ?_ X4⟩, fun hw => leaf ?_ X4⟩
      · refine (Q1r (hv.no X4) hl).mono fun u w5 ⟨hx, X5⟩ => ⟨_, hx, X5.kept, fun hv => leaf ?_ (X4.trans X5), fun hv => leaf ?_ (X4.trans X5)⟩
        · have hv' : rightV v = true := hv
          have hw' : 0 ≤ who := hw
          simp [frOK, h, hh, hw', hn, hv']
        · have hv' : rightV v = false := hv
          simp [frOK, hv']
      · have : ¬ who < 8 := by omega
        simp [frOK, this]
      · have : ¬ 0 ≤ who := by omega
        simp [frOK, this]
    · subst k2
      simp at h hh
      refine ⟨fun hw => ⟨fun hn => ?_, fun hn => leaf ?_ X4⟩, fun hw => leaf ?_ X4⟩
      · refine (Q1r (hv.no X4) hl).mono fun u w5 ⟨hx, X5⟩ => ⟨_, hx, X5.kept, fun hv => leaf ?_ (X4.trans X5), fun hv => leaf ?_ (X4.trans X5)⟩
        · have hv' : rightV v = true := hv
          have hw' : 0 ≤ who := hw
          simp [frOK, h, hh, hw', hn, hv', beq_dz]
        · have hv' : rightV v = false := hv
          simp [frOK, hv']
      · have : ¬ who < 8 := by omega
        simp [frOK, this]
      · have : ¬ 0 ≤ who := by omega
        simp [frOK, this]
end
end Go.Proofs.Ytoempemllkebkaa
set_option linter.unnecessarySimpa false
namespace Go.Mx

abbrev Pan := Fs → List PanicEntry → World → Prop
def pop1 (P : Program) (f : Fs) (o : Oper) (w : World) (K : RW) (Φ : Pan) : Prop :=
  match o.op with
  | .panic x =>
    (match ev f x with
    | some (.iface t v) => Φ f [{ v := .iface t v, recovered := false }] w
    | _ => False)
  | .call c =>
    (match c.callee with
    | .value g =>
      bif known f (opnds o.op) then
        (match rho f g with
        | .func (.func k) first cap => bif enters P k then Calls P k (first.toList ++ c.args.toList.map (rho f) ++ cap.toList).toArray w (fun e w' => (resEx P o.type fun v => e = .returned v ∧ K v w') ∨ ∃ ch, e = .panicked ch ∧ Φ f ch w') else False
        | _ => False)
      else False
    | _ => mopF P f o w K)
  | _ => mopF P f o w K
def pops (P : Program) (N : Nat) (ops : List Oper) (lo : Fs) (Φ : Pan) : List Oper → Dg → Fs → World → (Fs → World → Prop) → Prop
  | [], _, f, w, K => K f w
  | o :: rest, dg, f, w, K =>
    gask ops lo f dg o fun b dg f =>
      bif b then pop1 P (f ++ lo) o w (fun v w' => putK N o.dst v dg f fun dg f => pops P N ops lo Φ rest dg f w' K) Φ
      else putK N o.dst undef dg f fun dg f => pops P N ops lo Φ rest dg f w K

theorem pop1_wp {P : Program} {D : List Deferred} {n : Nat} {f : Fs} {a : Act} {o : Oper} {w : World} {K : RW} {Φ : Pan} {next : Act → World → Prop} {Q : Exit → Act → World → Prop}
    (hf : Fr D n f a) (h : pop1 P f o w K Φ) (hk : ∀ v w', K v w' → next (a.put o.dst v) w') (hQ : ∀ ch w', Φ f ch w' → Q (.panic ch) a w') : o.wp P a w next Q := by
  unfold pop1 at h
  split at h
  · rename_i x ho
    split at h
    · rename_i t v hv
      have he : a.eval x = .iface t v := by rw [hf.eval (by rw [hv]; rfl)]; unfold rho; rw [hv]; rfl
      have hr : (execOp a.eval o).run P w = .halt (.panic (.iface t v)) w := by
        simp only [execOp, ho, he, Instr.panic, Sem.run_bind]
        rfl
      unfold Oper.wp
      rw [hr]
      exact hQ _ _ h
    · exact h.elim
  · rename_i c ho
    split at h
    · rename_i g hg
      cases hkn : known f (opnds o.op)
      · simp [hkn] at h
      · simp only [hkn, cond_true] at h
        split at h
        · rename_i k first cap hfn
          cases hen : enters P k
          · simp [hen] at h
          · simp only [hen, cond_true] at h
            have hs : isSel o.op = false := by rw [ho]; rfl
            have hr : (execOp a.eval o).run P w = .ok (.enter k (first.toList ++ c.args.toList.map (rho f) ++ cap.toList).toArray) w := by
              rw [Q1X hf hkn hs]
              simp only [execOp, ho, resolve, hg, hfn, Deferred.ofValue, pure_bind, invoke, Sem.run_bind, Sem.run_pure, Result.andThen_ok, Q1y hen]
              congr 2
              apply Array.ext'
              simp
            unfold Oper.wp
            rw [hr, Oper.upon_enter]
            refine h.mono fun e w'' hh => ?_
            rcases hh with hh | ⟨ch, rfl, hh⟩
            · obtain ⟨v, rfl, h2⟩ := Q1m hh
              exact hk _ _ h2
            · exact hQ _ _ hh
        · exact h.elim
    · exact (mopF_ok hf h).wp hk
  · exact (mopF_ok hf h).wp hk

theorem pops_ok {D : List Deferred} {P : Program} {N : Nat} {ops : List Oper} {lo : Fs} {Φ : Pan} {Q : Exit → Act → World → Prop} {K : Fs → World → Prop}
    (hQ : ∀ f w a, K f w → Fr D N (f ++ lo) a → Q .normal a w) (hP : ∀ g ch w a, Φ g ch w → Fr D N g a → Q (.panic ch) a w) :
    ∀ (l : List Oper) (dg : Dg) (f : Fs) (w : World) (a : Act), pops P N ops lo Φ l dg f w K → Fr D N (f ++ lo) a → DgOk dg (f ++ lo) → wpList P ops.toArray Q l a w
  | [], dg, f, w, a, h, hf, hd => hQ f w a h hf
  | o :: rest, dg, f, w, a, h, hf, hd => by
    simp only [pops] at h
    obtain ⟨b, dg1, f1, hb, h, hf1, hd1⟩ := gask_ok (P := P) h hf hd
    unfold wpList
    cases b
    · rw [hb]
      simp only [cond_false] at h
      obtain ⟨dg2, f2, h, hf2, hd2⟩ := putK_ok h hf1 hd1
      exact pops_ok hQ hP rest dg2 f2 w _ h hf2 hd2
    · rw [hb]
      simp only [cond_true] at h
      refine .inl (pop1_wp hf1 h (fun v w' h => ?_) fun ch w' h => hP _ ch w' a h hf1)
      obtain ⟨dg2, f2, h, hf2, hd2⟩ := putK_ok h hf1 hd1
      exact pops_ok hQ hP rest dg2 f2 w' _ h hf2 hd2

def pcode (P : Program) (H : Hints) (N : Nat) (Φ : Pan) : Code → Fs → Kx → Fs → World → Prop
  | .skip, _, K, f, w => K.n f w
  | .seq a b, lo, K, f, w => pcode P H N Φ a lo { K with n := fun f w => pcode P H N Φ b lo K f w } f w
  | .cond c x y, lo, K, f, w =>
    match ev (f ++ lo) c with
    | some (.bool b) => bif b then pcode P H N Φ x lo K f w else pcode P H N Φ y lo K f w
    | _ => False
  | .region _ ops draw, lo, K, f, w =>
    match draw with
    | false => pops P N ops.toList lo Φ ops.toList [] f w K.n
    | true => bif regOk ops.toList then mdraw P N ops.toList lo ops.toList.length [] [] [] f w.drew K.n else False
  | .block id (.loop body), lo, K, f, w =>
    match hget H id with
    | none => False
    | some hs =>
      match getAll (f ++ lo) hs.1, getAll (f ++ lo) (hs.2.map (·.1)) with
      | some cv, some vv =>
        bif (subF (zipF hs.1 cv) lo && Q0L (hs.2.map (·.2)) vv) then
          ∃ (I : Nat → List Value → World → Prop) (m : Nat), I m vv w ∧ ∀ (m : Nat) (w : World), salls (hs.2.map (·.2)) fun vs => I m vs w →
            pcode P H N Φ body (zipF hs.1 cv)
              { n := fun f' w' => bif disjF f' (zipF hs.1 cv) then
                      (match getAll f' (hs.2.map (·.1)) with
                       | some vs' => bif Q0L (hs.2.map (·.2)) vs' then ∃ m', m' < m ∧ I m' vs' w' else False
                       | none => False)
                    else False
                r := fun f' w' => K.r (f' ++ keepF f (zipF hs.1 cv)) w'
                ex := (id, fun f' w' => K.n (f' ++ keepF f (zipF hs.1 cv)) w') :: exmap (fun k f' w' => k (f' ++ keepF f (zipF hs.1 cv)) w') K.ex }
              (zipF (hs.2.map (·.1)) vs) w
        else False
      | _, _ => False
  | .block id c, lo, K, f, w => pcode P H N Φ c lo { K with ex := (id, K.n) :: K.ex } f w
  | .exit id, _, K, f, w => match exget K.ex id with | some k => k f w | none => False
  | .ret, _, K, f, w => K.r f w
  | _, _, _, _, _ => False

def postP (D : List Deferred) (N : Nat) (lo : Fs) (K : Kx) (Φ : Pan) : Exit → Act → World → Prop
  | .normal, a, w => ∃ f, Fr D N (f ++ lo) a ∧ K.n f w
  | .ret, a, w => ∃ f, Fr D N (f ++ lo) a ∧ K.r f w
  | .exit id, a, w => ∃ f k, exget K.ex id = some k ∧ Fr D N (f ++ lo) a ∧ k f w
  | .panic ch, a, w => ∃ g, Fr D N g a ∧ Φ g ch w
  | _, _, _ => False

section
variable {P : Program} {H : Hints} {N : Nat} {D : List Deferred} {Φ : Pan}
theorem post_P {lo : Fs} {K : Kx} {e : Exit} {a : Act} {w : World} (h : post D N lo K e a w) : postP D N lo K Φ e a w := by
  cases e <;> first | exact h | exact h.elim
theorem Q38 {id : Nat} {c : Code} (h : ∀ b, c ≠ .loop b) (lo : Fs) (K : Kx) (f : Fs) (w : World) :
    pcode P H N Φ (.block id c) lo K f w = pcode P H N Φ c lo { K with ex := (id, K.n) :: K.ex } f w := by
  cases c <;> first | rfl | exact absurd rfl (h _)

theorem Q14 (hm : P.follows .mixedOrders = true) (c : Code) (lo : Fs) (K : Kx) (f : Fs) (w : World) (a : Act)
    (h : pcode P H N Φ c lo K f w) (hf : Fr D N (f ++ lo) a) : c.wp P (postP D N lo K Φ) a w := by
  match c, h with
  | .skip, h => exact wp_skip ⟨f, hf, h⟩
  | .seq x y, h =>
    refine wp_seq (Code.wp_mono (fun e a' w' he => ?_) (Q14 hm x lo _ f w a h hf))
    cases e <;> try exact he
    obtain ⟨f', hf', h'⟩ := he
    exact Q14 hm y lo K f' w' a' h' hf'
  | .cond c x y, h =>
    simp only [pcode] at h
    split at h
    · rename_i b hb
      have hc : a.eval c = .bool b := by
        have := hf.eval (x := c) (by rw [hb]; rfl)
        rw [this, rho, hb]; rfl
      refine wp_cond_split hc (fun ht => ?_) (fun ht => ?_)
      · subst ht; exact Q14 hm x lo K f w a h hf
      · subst ht; exact Q14 hm y lo K f w a h hf
    · exact h.elim
  | .region id ops draw, h =>
    have hd0 : DgOk [] (f ++ lo) := fun s b hs => by cases hs
    cases draw
    · simp only [pcode] at h
      have := pops_ok (Q := postP D N lo K Φ) (fun f w a h hf => ⟨f, hf, h⟩) (fun g ch w a h hf => ⟨g, hf, h⟩) ops.toList [] f w a h hf hd0
      exact wp_region_list (by simpa using this)
    · exact Code.wp_mono (fun e a' w' he => post_P he) (Q0W (H := H) hm (.region id ops true) lo K f w a h hf)
  | .block id c, h =>
    by_cases hl : ∃ b, c = .loop b
    · obtain ⟨body, rfl⟩ := hl
      simp only [pcode] at h
      split at h
      · exact h.elim
      · rename_i hs hhs
        split at h
        · rename_i cv vv hcv hvv
          cases hc : (subF (zipF hs.1 cv) lo && Q0L (hs.2.map (·.2)) vv)
          · simp [hc] at h
          · simp only [hc, cond_true] at h
            rw [Bool.and_eq_true] at hc
            obtain ⟨hsub, hfit⟩ := hc
            obtain ⟨I, m, hI, hround⟩ := h
            have hlo : ∀ t v, get lo t = some v → has (zipF hs.1 cv) t = true := Q20 hsub
            have h0 : ∀ t v, get (zipF hs.1 cv) t = some v → get (f ++ lo) t = some v := Q0Y hcv
            refine wp_block (Q1x (fun m a w => ∃ vs, I m vs w ∧ Q0L (hs.2.map (·.2)) vs = true ∧ Fr D N (zipF (hs.2.map (·.1)) vs ++ zipF hs.1 cv) a) (m := m) ⟨vv, hI, hfit, ?_⟩ fun m a w hJ => ?_)
            · refine ⟨hf.size, hf.defers, fun t v ht => hf.at_ t v ?_⟩
              rw [Q0N] at ht
              cases h1 : get (zipF (hs.2.map (·.1)) vv) t with
              | some u => rw [h1] at ht; obtain rfl : u = v := (by simpa using ht); exact Q0Y hvv t u h1
              | none => rw [h1] at ht; exact h0 t v (by simpa using ht)
            · obtain ⟨vs, hIv, hfv, hfr⟩ := hJ
              have hb := Q23 (hround m w) hfv hIv
              refine Code.wp_mono (fun e a' w' he => ?_) (Q14 hm body _ _ _ w a hb hfr)
              cases e with
              | normal =>
                obtain ⟨f', hf', h'⟩ := he
                simp only at h'
                cases hd : disjF f' (zipF hs.1 cv)
                · simp [hd] at h'
                · simp only [hd, cond_true] at h'
                  split at h'
                  · rename_i vs' hvs'
                    cases hft : Q0L (hs.2.map (·.2)) vs'
                    · simp [hft] at h'
                    · simp only [hft, cond_true] at h'
                      obtain ⟨m', hlt, hI'⟩ := h'
                      refine ⟨m', hlt, vs', hI', hft, hf'.size, hf'.defers, fun t v ht => hf'.at_ t v ?_⟩
                      rw [Q0N] at ht
                      rw [Q0N]
                      cases h1 : get (zipF (hs.2.map (·.1)) vs') t with
                      | some u =>
                        rw [h1] at ht
                        obtain rfl : u = v := by simpa using ht
                        rw [Q0Y hvs' t u h1]; rfl
                      | none =>
                        rw [h1] at ht
                        have h2 : get (zipF hs.1 cv) t = some v := by simpa using ht
                        rw [has_get (Q1L hd t v h2), h2]; rfl
                  · exact h'.elim
              | ret =>
                obtain ⟨f', hf', h'⟩ := he
                exact ⟨_, fr_conv hf' hlo h0, h'⟩
              | exit id' =>
                obtain ⟨f', k, hk, hf', h'⟩ := he
                simp only [exget] at hk
                simp only [Exit.then, Exit.inBlock]
                cases hq : Nat.beq id id'
                · simp only [hq, cond_false] at hk
                  have hne : id' ≠ id := fun e => by subst e; simp at hq
                  rw [if_neg hne]
                  obtain ⟨k', hk', rfl⟩ := Q1A hk
                  exact ⟨_, k', hk', fr_conv hf' hlo h0, h'⟩
                · have := Q0E hq
                  subst this
                  simp only [Nat.beq_refl, cond_true, Option.some.injEq] at hk
                  subst hk
                  simp only [if_true]
                  exact ⟨_, fr_conv hf' hlo h0, h'⟩
              | goto l => exact he.elim
              | panic ch => exact he
              | outgrown => exact he.elim
        · exact h.elim
    · rw [Q38 (fun b e => hl ⟨b, e⟩)] at h
      refine wp_block (Code.wp_mono (fun e a' w' he => ?_) (Q14 hm c lo _ f w a h hf))
      cases e with
      | normal => exact he
      | ret => exact he
      | exit id' =>
        obtain ⟨f', k, hk, hf', h'⟩ := he
        simp only [exget] at hk
        simp only [Exit.inBlock]
        cases hq : Nat.beq id id'
        · simp only [hq, cond_false] at hk
          have hne : id' ≠ id := fun e => by subst e; simp at hq
          rw [if_neg hne]
          exact ⟨f', k, hk, hf', h'⟩
        · have := Q0E hq
          subst this
          simp only [Nat.beq_refl, cond_true, Option.some.injEq] at hk
          subst hk
          simp only [if_true]
          exact ⟨f', hf', h'⟩
      | goto l => exact he.elim
      | panic ch => exact he
      | outgrown => exact he.elim
  | .exit id, h =>
    simp only [pcode] at h
    split at h
    · rename_i k hk
      exact wp_exit ⟨f, k, hk, hf, h⟩
    · exact h.elim
  | .ret, h => exact wp_ret ⟨f, hf, h⟩
  | .loop _, h => exact h.elim
  | .rangeFunc .., h => exact h.elim
  | .scope _, h => exact h.elim
  | .label _, h => exact h.elim
  | .goto _, h => exact h.elim
  | .refuse _, h => exact h.elim
termination_by SizeOf.sizeOf c
end

def pfunc (P : Program) (H : Hints) (k : Nat) (args : List Value) (Φ : List PanicEntry → World → Prop) (R : RW) (w : World) : Prop :=
  match P.funcs[k]? with
  | some fn =>
    match fn.body with
    | some c =>
      bif Nat.ble args.length fn.ntmps then
        pcode P H fn.ntmps (fun _ ch w => Φ ch w) c [] { n := fun f w => mres P f w fn.results.toList [] (fun vs => R (wrapR vs) w), r := fun f w => mres P f w fn.results.toList [] (fun vs => R (wrapR vs) w), ex := [] } (argsF args 0) w
      else False
    | none => False
  | none => False
section
variable {P : Program} {H : Hints}
theorem fr_args {args : List Value} {n : Nat} (hlen : args.length ≤ n) : Fr [] n (argsF args 0 ++ []) { tmps := args.toArray ++ Array.replicate (n - args.toArray.size) undef, defers := [] } := by
  refine ⟨by simp; omega, rfl, fun t v ht => ?_⟩
  rw [List.append_nil] at ht
  obtain ⟨j, rfl, hj⟩ := Q27 ht
  have hjl := (List.getElem?_eq_some_iff.1 hj).1
  rw [Nat.zero_add, Array.getElem?_append_left (by simpa using hjl)]
  simpa using hj
theorem Q1U (hm : P.follows .mixedOrders = true) {k : Nat} {args : List Value} {Φ : List PanicEntry → World → Prop} {R : RW} {w : World} (h : pfunc P H k args Φ R w) :
    Calls P k args.toArray w fun e w' => (∃ v, e = .returned v ∧ R v w') ∨ ∃ ch, e = .panicked ch ∧ Φ ch w' := by
  unfold pfunc at h
  split at h
  · rename_i fn hfn
    split at h
    · rename_i c hc
      cases hle : Nat.ble args.length fn.ntmps
      · simp [hle] at h
      · simp only [hle, cond_true] at h
        refine calls_of_wp hfn hc ?_
        refine Code.wp_mono (fun e a w' he => ?_) (Q14 hm c [] _ _ w _ h (fr_args (Nat.le_of_ble_eq_true hle)))
        cases e with
        | normal =>
          obtain ⟨f, hf, h⟩ := he
          rw [List.append_nil] at hf
          obtain ⟨v, h1, h2⟩ := Q0U hf h
          exact ⟨hf.defers, v, h1, .inl ⟨v, rfl, h2⟩⟩
        | ret =>
          obtain ⟨f, hf, h⟩ := he
          rw [List.append_nil] at hf
          obtain ⟨v, h1, h2⟩ := Q0U hf h
          exact ⟨hf.defers, v, h1, .inl ⟨v, rfl, h2⟩⟩
        | exit id => obtain ⟨f, k, hk, _⟩ := he; cases hk
        | goto l => exact he.elim
        | panic ch =>
          obtain ⟨g, hg, h⟩ := he
          exact ⟨hg.defers, .inr ⟨ch, rfl, h⟩⟩
        | outgrown => exact he.elim
    · exact h.elim
  · exact h.elim
def dfunc (P : Program) (H : Hints) (k : Nat) (args : List Value) (R : RW) (w : World) : Prop :=
  match P.funcs[k]? with
  | some fn =>
    match fn.body with
    | some (.seq A (.seq B (.seq (.region _ ops false) C))) =>
      bif Nat.ble args.length fn.ntmps then
        mcode P H fn.ntmps A [] ⟨fun f w => mcode P H fn.ntmps B [] ⟨fun f w =>
            (match ops.toList with
            | [o1, o2] =>
              (match o1.guard, o2.guard, o2.op, o2.dst with
              | none, none, .defer c, none =>
                (match c.callee, c.args.toList with
                | .value x, [] =>
                  mopF P f o1 w fun v w => putK fn.ntmps o1.dst v [] f fun _ f =>
                    match ev f x with
                    | some (.func (.func k') first caps) =>
                      bif enters P k' then
                        pcode P H fn.ntmps (fun g ch w => CallsD P k' (first ++ caps) (.panicking ch) w fun e u w' => ∃ v, e = .returned v ∧ settle u = .returning ∧ mres P g w' fn.results.toList [] (fun vs => R (wrapR vs) w')) C []
                          { n := fun _ _ => False, r := fun g w => CallsD P k' (first ++ caps) .returning w fun e u w' => ∃ v, e = .returned v ∧ settle u = .returning ∧ mres P g w' fn.results.toList [] (fun vs => R (wrapR vs) w'), ex := [] } f w
                      else False
                    | _ => False
                | _, _ => False)
              | _, _, _, _ => False)
            | _ => False),
            fun f w => mres P f w fn.results.toList [] (fun vs => R (wrapR vs) w), []⟩ f w,
          fun f w => mres P f w fn.results.toList [] (fun vs => R (wrapR vs) w), []⟩ (argsF args 0) w
      else False
    | _ => False
  | none => False
theorem Q2p {fn : Func} {tmps : Array Value} {D : List Deferred} {n : Nat} {g : Fs} {a : Act} (hg : Fr D n g a) {k : Nat} {first caps : Array Value} (hen : enters P k = true) {u : FrameMode} (hu : u ≠ .run) {w : World} {R : RW}
    (h : CallsD P k (first ++ caps) u w fun e u' w' => ∃ v, e = .returned v ∧ settle u' = .returning ∧ mres P g w' fn.results.toList [] (fun vs => R (wrapR vs) w')) :
    Leaves P fn a.tmps (fun e w' => ∃ v, e = .returned v ∧ R v w') [{ target := .fn (.func k) caps, args := first }] u w := by
  refine leaves_cons hu (by simp only [invoke, Q1y hen]) (h.mono fun e u' w' ⟨v, he, hs, hm⟩ => ?_)
  subst he
  show Leaves P fn a.tmps _ [] (settle u') w'
  rw [hs]
  obtain ⟨v, h1, h2⟩ := Q0U hg hm
  exact ⟨v, h1, v, rfl, h2⟩
theorem Q4w (hm : P.follows .mixedOrders = true) {k : Nat} {args : List Value} {R : RW} {w : World} (h : dfunc P H k args R w) :
    Calls P k args.toArray w fun e w' => ∃ v, e = .returned v ∧ R v w' := by
  unfold dfunc at h
  split at h
  · rename_i fn hfn
    split at h
    · rename_i A B id ops C hc
      cases hle : Nat.ble args.length fn.ntmps
      · simp [hle] at h
      · simp only [hle, cond_true] at h
        refine calls_of_wp_defers hfn hc ?_
        have hret : ∀ (lo f : Fs) (a : Act) (w : World), Fr [] fn.ntmps (f ++ []) a → mres P f w fn.results.toList [] (fun vs => R (wrapR vs) w) → bodyPostD P fn (fun e w' => ∃ v, e = .returned v ∧ R v w') .ret a w := fun lo f a w hf hr => by
          rw [List.append_nil] at hf
          obtain ⟨v, h1, h2⟩ := Q0U hf hr
          show Leaves P fn a.tmps _ a.defers .returning w
          rw [hf.defers]
          exact ⟨v, h1, v, rfl, h2⟩
        refine wp_seq (Code.wp_mono (fun e a w' he => ?_) (Q0W hm A [] _ _ w _ h (fr_args (Nat.le_of_ble_eq_true hle))))
        cases e with
        | ret => obtain ⟨f, hf, hr⟩ := he; exact hret [] f a w' hf hr
        | exit id => obtain ⟨f, k, hk, _⟩ := he; cases hk
        | goto l => exact he.elim
        | panic ch => exact he.elim
        | outgrown => exact he.elim
        | normal =>
          obtain ⟨f, hf, h⟩ := he
          refine wp_seq (Code.wp_mono (fun e a w' he => ?_) (Q0W hm B [] _ _ w' a h hf))
          cases e with
          | ret => obtain ⟨f, hf, hr⟩ := he; exact hret [] f a w' hf hr
          | exit id => obtain ⟨f, k, hk, _⟩ := he; cases hk
          | goto l => exact he.elim
          | panic ch => exact he.elim
          | outgrown => exact he.elim
          | normal =>
            obtain ⟨f, hf, h⟩ := he
            rw [List.append_nil] at hf
            split at h
            · rename_i o1 o2 hops
              split at h
              · rename_i c hg1 hg2 ho2 hd2
                split at h
                · rename_i x hcal hargs
                  refine wp_seq (wp_region_list ?_)
                  rw [hops]
                  have hops' : ops = [o1, o2].toArray := by rw [← hops]
                  rw [hops']
                  unfold wpList
                  have hw1 : Region.wanted o1 (yielded [o1, o2].toArray a.tmps) = true := by unfold Region.wanted; rw [hg1]
                  rw [if_pos hw1]
                  refine .inl ((mopF_ok hf h).wp fun v w2 h => ?_)
                  obtain ⟨dg2, f2, h, hf2, _⟩ := putK_ok (lo := []) (dg := []) h (by rw [List.append_nil]; exact hf) (fun s b hs => by cases hs)
                  rw [List.append_nil] at hf2
                  split at h
                  · rename_i k' first caps hev
                    cases hen : enters P k'
                    · simp [hen] at h
                    · simp only [hen, cond_true] at h
                      unfold wpList
                      have hw2 : Region.wanted o2 (yielded [o1, o2].toArray (a.put o1.dst v).tmps) = true := by unfold Region.wanted; rw [hg2]
                      rw [if_pos hw2]
                      refine .inl ?_
                      have hex : (a.put o1.dst v).eval x = .func (.func k') first caps := by rw [hf2.eval (by rw [hev]; rfl)]; unfold rho; rw [hev]; rfl
                      have hca : c.args = #[] := by apply Array.ext'; rw [hargs]
                      have hr : (execOp (a.put o1.dst v).eval o2).run P w2 = .ok (.defer { target := .fn (.func k') caps, args := first }) w2 := by
                        simp only [execOp, ho2, resolve, hcal, hca, hex, Deferred.ofValue, pure_bind, Sem.run_bind, Sem.run_pure, Result.andThen_ok]
                        simp
                      unfold Oper.wp
                      rw [hr, Oper.upon_defer, hd2]
                      unfold wpList
                      have hf3 : Fr [{ target := .fn (.func k') caps, args := first }] fn.ntmps (f2 ++ []) ({ a.put o1.dst v with defers := { target := .fn (.func k') caps, args := first } :: (a.put o1.dst v).defers } : Act) := by
                        rw [List.append_nil]
                        exact ⟨hf2.size, by show _ :: _ = _; rw [hf2.defers], hf2.at_⟩
                      refine Code.wp_mono (fun e a3 w3 he => ?_) (Q14 hm C [] _ f2 w2 _ h hf3)
                      cases e with
                      | normal => obtain ⟨_, _, h⟩ := he; exact h.elim
                      | ret =>
                        obtain ⟨g, hg, h⟩ := he
                        rw [List.append_nil] at hg
                        show Leaves P fn a3.tmps _ a3.defers .returning w3
                        rw [hg.defers]
                        exact Q2p (tmps := a3.tmps) hg hen (by simp) h
                      | exit id => obtain ⟨f, k, hk, _⟩ := he; cases hk
                      | goto l => exact he.elim
                      | panic ch =>
                        obtain ⟨g, hg, h⟩ := he
                        show Leaves P fn a3.tmps _ a3.defers (.panicking ch) w3
                        rw [hg.defers]
                        exact Q2p (tmps := a3.tmps) hg hen (by simp) h
                      | outgrown => exact he.elim
                  · exact h.elim
                · exact h.elim
              · exact h.elim
            · exact h.elim
    · exact h.elim
  · exact h.elim
end
def recV : FrameMode → Value × FrameMode
  | .panicking ({ v, recovered := false, goexit := false } :: older) => (v, .panicking ({ v, recovered := true } :: older))
  | u => (.nilIface, u)
def rfunc (P : Program) (H : Hints) (k : Nat) (args : List Value) (u : FrameMode) (R : Value → FrameMode → World → Prop) (w : World) : Prop :=
  match P.funcs[k]? with
  | some fn =>
    match fn.body with
    | some (.seq (.region _ ops false) C) =>
      bif Nat.ble args.length fn.ntmps then
        (match ops.toList with
        | [o1, o2] =>
          (match o1.guard, o1.op, o1.dst, o2.guard with
          | none, .call c, some d, none =>
            (match c.callee, c.args.toList with
            | .builtin .recover, [] =>
              bif Nat.blt d fn.ntmps then
                mopF P ((d, (recV u).1) :: argsF args 0) o2 w fun v w => putK fn.ntmps o2.dst v [] ((d, (recV u).1) :: argsF args 0) fun _ f =>
                  mcode P H fn.ntmps C [] ⟨fun f w => mres P f w fn.results.toList [] (fun vs => R (wrapR vs) (recV u).2 w), fun f w => mres P f w fn.results.toList [] (fun vs => R (wrapR vs) (recV u).2 w), []⟩ f w
              else False
            | _, _ => False)
          | _, _, _, _ => False)
        | _ => False)
      else False
    | _ => False
  | none => False
section
variable {P : Program} {H : Hints}
theorem recV_D (c : Frame) (cs : List Frame) (u : FrameMode) (hu : c.mode = u) :
    (match recoverD (c :: cs) with | some (v, cs') => (v, cs') | none => (.nilIface, c :: cs)) = ((recV u).1, { c with mode := (recV u).2 } :: cs) := by
  subst hu
  unfold recoverD recV
  simp only
  split <;> rename_i h
  · split at h
    · rename_i v older hm
      cases h
      rw [hm]
    · cases h
  · split at h
    · cases h
    · rename_i hn
      split
      · rename_i v older hm; exact absurd hm (hn v older)
      · rfl
theorem Q3g (hm : P.follows .mixedOrders = true) {k : Nat} {args : List Value} {u : FrameMode} {R : Value → FrameMode → World → Prop} {w : World} (h : rfunc P H k args u R w) :
    CallsD P k args.toArray u w fun e u' w' => ∃ v, e = .returned v ∧ R v u' w' := by
  unfold rfunc at h
  split at h
  · rename_i fn hfn
    split at h
    · rename_i id ops C hc
      cases hle : Nat.ble args.length fn.ntmps
      · simp [hle] at h
      · simp only [hle, cond_true] at h
        split at h
        · rename_i o1 o2 hops
          split at h
          · rename_i c d hg1 ho1 hd1 hg2
            split at h
            · rename_i hcal hargs
              cases hlt : Nat.blt d fn.ntmps
              · simp [hlt] at h
              · simp only [hlt, cond_true] at h
                refine callsD_of_wpS hfn hc fun c₀ cs hu => ?_
                refine wpS_seq (wpS_region ?_)
                have hops' : ops = #[o1, o2] := by apply Array.ext'; rw [hops]
                have hca : c.args = #[] := by apply Array.ext'; rw [hargs]
                have hf0 := fr_args (Nat.le_of_ble_eq_true hle)
                rw [List.append_nil] at hf0
                generalize ({ tmps := args.toArray ++ Array.replicate (fn.ntmps - args.toArray.size) undef, defers := [] } : Act) = a at *
                rw [hops']
                show wpOpsS P #[o1, o2] _ [0, 1] a (c₀ :: cs) w
                unfold wpOpsS
                have hw1 : Region.wanted o1 (yielded #[o1, o2] a.tmps) = true := by unfold Region.wanted; rw [hg1]
                show (if Region.wanted o1 (yielded #[o1, o2] a.tmps) = true then _ else _)
                rw [if_pos hw1]
                have hr1 : (execOp a.eval o1).run P w = .ok .recover w := by
                  simp only [execOp, ho1, resolve, hcal, hca]
                  rfl
                have hr1' : (execOp a.eval #[o1, o2][0]).run P w = .ok .recover w := hr1
                rw [hr1']
                have hrec := recV_D c₀ cs u hu
                have key : wpOpsS P #[o1, o2] (Exit.thenS (C.wpS P (bodyPostS P fn c₀ cs fun e u' w' => ∃ v, e = .returned v ∧ R v u' w')) (bodyPostS P fn c₀ cs fun e u' w' => ∃ v, e = .returned v ∧ R v u' w')) [1] (a.put o1.dst (recV u).1) ({ c₀ with mode := (recV u).2 } :: cs) w := by
                  have hf1 : Fr [] fn.ntmps ((d, (recV u).1) :: argsF args 0) (a.put o1.dst (recV u).1) := by rw [hd1]; exact hf0.put hlt _
                  unfold wpOpsS
                  have hw2 : Region.wanted o2 (yielded #[o1, o2] (a.put o1.dst (recV u).1).tmps) = true := by unfold Region.wanted; rw [hg2]
                  show (if Region.wanted o2 (yielded #[o1, o2] (a.put o1.dst (recV u).1).tmps) = true then _ else _)
                  rw [if_pos hw2]
                  have fin : ∀ v w2, putK fn.ntmps o2.dst v [] ((d, (recV u).1) :: argsF args 0) (fun _ f => mcode P H fn.ntmps C [] ⟨fun f w => mres P f w fn.results.toList [] (fun vs => R (wrapR vs) (recV u).2 w), fun f w => mres P f w fn.results.toList [] (fun vs => R (wrapR vs) (recV u).2 w), []⟩ f w2) →
                      wpOpsS P #[o1, o2] (Exit.thenS (C.wpS P (bodyPostS P fn c₀ cs fun e u' w' => ∃ v, e = .returned v ∧ R v u' w')) (bodyPostS P fn c₀ cs fun e u' w' => ∃ v, e = .returned v ∧ R v u' w')) [] ((a.put o1.dst (recV u).1).put o2.dst v) ({ c₀ with mode := (recV u).2 } :: cs) w2 := fun v w2 h => by
                    obtain ⟨dg2, f2, h, hf2, _⟩ := putK_ok (lo := []) (dg := []) h (by rw [List.append_nil]; exact hf1) (fun s b hs => by cases hs)
                    unfold wpOpsS
                    show C.wpS P _ _ _ _
                    refine wpS_of_wp (Code.wp_mono (fun e a3 w3 he => ?_) (Q0W hm C [] _ f2 w2 _ h hf2))
                    cases e with
                    | normal =>
                      obtain ⟨g, hg, h⟩ := he
                      rw [List.append_nil] at hg
                      obtain ⟨v, h1, h2⟩ := Q0U (R := fun v w => R v (recV u).2 w) hg h
                      exact ⟨hg.defers, _, rfl, v, h1, v, rfl, h2⟩
                    | ret =>
                      obtain ⟨g, hg, h⟩ := he
                      rw [List.append_nil] at hg
                      obtain ⟨v, h1, h2⟩ := Q0U (R := fun v w => R v (recV u).2 w) hg h
                      exact ⟨hg.defers, _, rfl, v, h1, v, rfl, h2⟩
                    | exit id => obtain ⟨f, k, hk, _⟩ := he; cases hk
                    | goto l => exact he.elim
                    | panic ch => exact he.elim
                    | outgrown => exact he.elim
                  have hok := mopF_ok hf1 h
                  unfold OpOk at hok
                  generalize hrun : (execOp (a.put o1.dst (recV u).1).eval o2).run P w = r at hok
                  have hrun' : (execOp (a.put o1.dst (recV u).1).eval #[o1, o2][1]).run P w = r := hrun
                  rw [hrun']
                  clear hrun hrun'
                  cases r with
                  | ok n w2 =>
                    cases n <;> simp only at hok
                    case value v => exact fin v w2 hok
                    case skip => exact fin undef w2 hok
                    case enter f args =>
                      show Calls P f args w2 _
                      exact hok.mono fun e w'' ⟨v, he, hv⟩ => by subst he; exact fin v w'' hv
                    all_goals exact hok.elim
                  | halt x w2 => exact hok.elim
                cases hrd : recoverD (c₀ :: cs) with
                | none =>
                  rw [hrd] at hrec
                  have h1 : Value.nilIface = (recV u).1 := congrArg Prod.fst hrec
                  have h2 : c₀ :: cs = { c₀ with mode := (recV u).2 } :: cs := congrArg Prod.snd hrec
                  show wpOpsS P #[o1, o2] _ [1] (a.put o1.dst .nilIface) (c₀ :: cs) w
                  rw [h1, h2]; exact key
                | some p =>
                  obtain ⟨v, cs'⟩ := p
                  rw [hrd] at hrec
                  have h1 : v = (recV u).1 := congrArg Prod.fst hrec
                  have h2 : cs' = { c₀ with mode := (recV u).2 } :: cs := congrArg Prod.snd hrec
                  show wpOpsS P #[o1, o2] _ [1] (a.put o1.dst v) cs' w
                  rw [h1, h2]; exact key
            · exact h.elim
          · exact h.elim
        · exact h.elim
    · exact h.elim
  · exact h.elim
end
end Go.Mx
set_option linter.unusedSectionVars false
namespace Go.Mx
section
variable {K K1 : Nat → Prop} {w w1 w' : World} {o o1 o' : Own} {p q j : Nat}
def setAll : List Value → Nat → List Value → List Value
  | cs, _, [] => cs
  | cs, k, v :: r => setAll (cs.set k v) (k + 1) r
def putsK (w : World) (a : Addr) : List Value → Nat → (World → Prop) → Prop
  | [], _, Φ => Φ w
  | v :: r, j, Φ => Q01 w (a.add j) ∧ thenW (w.setCell (a.add j) v) fun w' => putsK w' a r (j + 1) Φ
theorem Q1Q : ∀ {vs u cs : List Value} {k : Nat}, setAll (u ++ cs) (u.length + k) vs = u ++ setAll cs k vs
  | [], _, _, _ => rfl
  | v :: r, u, cs, k => by
    simp only [setAll]
    rw [show (u ++ cs).set (u.length + k) v = u ++ cs.set k v by rw [List.set_append_right _ _ (by omega)]; congr 2; omega, Nat.add_assoc, Q1Q]
theorem Q1Y : ∀ {vs u cs : List Value}, vs.length = u.length → setAll (u ++ cs) 0 vs = vs ++ cs
  | [], [], _, _ => rfl
  | v :: r, x :: u, cs, h => by
    have := Q1Q (vs := r) (u := [v]) (cs := u ++ cs) (k := 0)
    simp only [setAll, List.cons_append, List.set_cons_zero]
    simp only [List.length_cons, List.length_nil, List.cons_append, List.nil_append, Nat.add_zero] at this
    rw [this, Q1Y (by simpa using h)]
  | [], _ :: _, _, h => by simp at h
  | _ :: _, [], _, h => by simp at h
theorem Q1c {w : World} {q : Nat} {t : TypeId} {vs cs : List Value} (h : Blk w q t (setAll cs (0 + 0) vs)) (hl : vs.length = cs.length) : Blk w q t vs := by
  have := Q1Y (vs := vs) (u := cs) (cs := []) hl
  rw [List.append_nil, List.append_nil] at this
  rw [this] at h
  exact h
theorem Q0S {q k : Nat} {t : TypeId} : ∀ {vs cs : List Value} {j : Nat} {w : World} {Φ : World → Prop}, Blk w q t cs → k + j + vs.length ≤ cs.length → (∀ w', Ext (fun b => b = q) w w' → Blk w' q t (setAll cs (k + j) vs) → Φ w') → putsK w ((blk q).add k) vs j Φ
  | [], cs, j, w, Φ, hb, _, h => h w (Ext.refl _ _) hb
  | v :: r, cs, j, w, Φ, hb, hl, h => by
    simp only [List.length_cons] at hl
    have hc : cs[k + j]? = some (cs[k + j]'(by omega)) := List.getElem?_eq_getElem (by omega)
    refine ⟨by rw [add_add]; exact hb.cana hc, Q00 fun w2 e2 => ?_⟩
    rw [add_add, add_blk] at e2
    have X : Ext (fun b => b = q) w w2 := (Ext.refl (fun b => b = q) w).x_set (q := q) (i := k + j) rfl (.inl rfl) e2
    have hb2 := hb.seti (k + j) (t := t) (v := v) rfl e2
    exact Q0S hb2 (by simp; omega) fun w' X' hb' => h w' (X.trans X') hb'
end
theorem Ext.x_puts {m : Nat → Prop} {w0 w w' : World} {q : Nat} (h : Ext m w0 w) (X : Ext (fun b => b = q) w w') (hq : m q ∨ w0.heap.size ≤ q) : Ext m w0 w' :=
  ⟨X.os.trans h.os, X.tape.trans h.tape, X.output.trans h.output, Nat.le_trans h.size X.size, fun b hb hm => by
    refine (X.block b (Nat.lt_of_lt_of_le hb h.size) fun e => ?_).trans (h.block b hb hm)
    subst e
    rcases hq with hq | hq
    · exact hm hq
    · omega⟩
end Go.Mx
set_option maxRecDepth 100000
set_option maxHeartbeats 4000000
namespace Go.Proofs.Ytoempemllkebkaa
open Go Go.Mx Go.Proofs
def frmMust.M (k1 : Int) (Φ : List PanicEntry → World → Prop) (R : RW) (w : World) : Prop :=
 bif k1 != 0 then (
 Φ [{ v := .iface 33 (.int .i64 k1), recovered := false }] w) else (
 R (.tuple #[]) w)

theorem frmMust.ok (k1 : Int) {Φ : List PanicEntry → World → Prop} {R : RW} {w : World} (h : frmMust.M k1 Φ R w) : Calls Try.prog 61 #[.int .i64 k1] w fun e w' => (∃ v, e = .returned v ∧ R v w') ∨ ∃ ch, e = .panicked ch ∧ Φ ch w' :=
  Q1U follows (H := []) (args := [.int .i64 k1]) (cast (by kernel_rfl) h)

def frmEnt.M (b4 b3 : Addr) (Φ : List PanicEntry → World → Prop) (R : RW) (w : World) : Prop :=
 ∃ (b9 : Option Addr) (b6 b7 : Nat), w.cell? b4 = some (.slice b9 b6 b7) ∧
 Calls Try.prog 98 #[.slice b9 b6 b7] w fun av aj => (∃ (a8 af al ar aq ac : Int) (a7 : Option Addr) (a9 aa : Nat) (ak ah : Int), av = .returned (.tuple #[.agg #[.int .i64 a8, .int .i64 af, .int .u64 al, .int .i64 ar, .int .i64 aq, .int .i64 ac, .slice a7 a9 aa, .int .u64 ak], .int .i64 ah]) ∧
 thenW (aj.alloc (.cells #[.int .i64 0, .int .i64 0, .int .u64 0, .int .i64 0, .int .i64 0, .int .i64 0, .slice none 0 0, .int .u64 0] 27)) fun b5 =>
 putsK b5 (blk aj.heap.size) [.int .i64 a8, .int .i64 af, .int .u64 al, .int .i64 ar, .int .i64 aq, .int .i64 ac, .slice a7 a9 aa, .int .u64 ak] 0 fun b2 =>
 Calls Try.prog 61 #[.int .i64 ah] b2 fun ap ai => (ap = .returned (.tuple #[]) ∧
 ∃ (b8 : Option Addr), ai.cell? b3 = some (.pointer b8) ∧
 ∃ (a0 a1 ab ag ae a5 : Int) (a3 : Option Addr) (a2 a4 : Nat) (ad : Int), cellsAt ai (blk aj.heap.size) [.int .i64 a0, .int .i64 a1, .int .u64 ab, .int .i64 ag, .int .i64 ae, .int .i64 a5, .slice a3 a2 a4, .int .u64 ad] 0 ∧
 b8.elim False fun a6 =>
 Q01 ai (a6.add 0) ∧
 thenW (ai.setCell (a6.add 0) (.int .i64 a0)) fun au =>
 Q01 au (a6.add 1) ∧
 thenW (au.setCell (a6.add 1) (.int .i64 a1)) fun b0 =>
 Q01 b0 (a6.add 2) ∧
 thenW (b0.setCell (a6.add 2) (.int .u64 ab)) fun an =>
 Q01 an (a6.add 3) ∧
 thenW (an.setCell (a6.add 3) (.int .i64 ag)) fun ax =>
 Q01 ax (a6.add 4) ∧
 thenW (ax.setCell (a6.add 4) (.int .i64 ae)) fun am =>
 Q01 am (a6.add 5) ∧
 thenW (am.setCell (a6.add 5) (.int .i64 a5)) fun ay =>
 Q01 ay (a6.add 6) ∧
 thenW (ay.setCell (a6.add 6) (.slice a3 a2 a4)) fun ao =>
 Q01 ao (a6.add 7) ∧
 thenW (ao.setCell (a6.add 7) (.int .u64 ad)) fun b1 =>
 R (.tuple #[]) b1) ∨ ∃ (az : List PanicEntry), ap = .panicked az ∧
 Φ az ai) ∨ ∃ (aw : List PanicEntry), av = .panicked aw ∧
 Φ aw aj

theorem frmEnt.ok (a0 a1 : Addr) {Φ : List PanicEntry → World → Prop} {R : RW} {w : World} (h : frmEnt.M a0 a1 Φ R w) : Calls Try.prog 97 #[.pointer (some a0), .pointer (some a1)] w fun e w' => (∃ v, e = .returned v ∧ R v w') ∨ ∃ ch, e = .panicked ch ∧ Φ ch w' :=
  Q1U follows (H := []) (args := [.pointer (some a0), .pointer (some a1)]) (cast (by kernel_rfl) h)

def frmVec.M (a7 a6 : Addr) (Φ : List PanicEntry → World → Prop) (R : RW) (w : World) : Prop :=
 ∃ (af : Option Addr) (ac ad : Nat), w.cell? a7 = some (.slice af ac ad) ∧
 Calls Try.prog 93 #[.slice af ac ad] w fun ab a9 => (∃ (a0 : Option Addr) (a2 a1 : Nat) (a4 : Int), ab = .returned (.tuple #[.slice a0 a2 a1, .int .i64 a4]) ∧
 Calls Try.prog 61 #[.int .i64 a4] a9 fun ae a3 => (ae = .returned (.tuple #[]) ∧
 ∃ (ag : Option Addr), a3.cell? a6 = some (.pointer ag) ∧
 ag.elim False fun ah =>
 Q01 a3 (((ah.add 1).add 18).add 0) ∧
 thenW (a3.setCell (((ah.add 1).add 18).add 0) (.slice a0 a2 a1)) fun a8 =>
 R (.tuple #[]) a8) ∨ ∃ (a5 : List PanicEntry), ae = .panicked a5 ∧
 Φ a5 a3) ∨ ∃ (aa : List PanicEntry), ab = .panicked aa ∧
 Φ aa a9

theorem frmVec.ok (a0 a1 : Addr) {Φ : List PanicEntry → World → Prop} {R : RW} {w : World} (h : frmVec.M a0 a1 Φ R w) : Calls Try.prog 92 #[.pointer (some a0), .pointer (some a1)] w fun e w' => (∃ v, e = .returned v ∧ R v w') ∨ ∃ ch, e = .panicked ch ∧ Φ ch w' :=
  Q1U follows (H := []) (args := [.pointer (some a0), .pointer (some a1)]) (cast (by kernel_rfl) h)

def Q1T.M (r1 : Option Addr) (Φ : List PanicEntry → World → Prop) (R : RW) (w : World) : Prop :=
 thenW (w.alloc (.cells #[.int .i64 0, .int .i64 0, .int .i64 0, .int .u64 0, .int .i64 0, .int .i64 0, .int .i64 0, .slice none 0 0, .int .u64 0, .int .i64 0, .int .i64 0, .int .u64 0, .int .i64 0, .int .i64 0, .int .i64 0, .slice none 0 0, .int .u64 0, .int .i64 0, .slice none 0 0, .int .u64 0] 38)) fun dd =>
 r1.elim False fun a3 =>
 ∃ (c5 : Option Addr), dd.cell? (a3.add 0) = some (.pointer c5) ∧
 Calls Try.prog 54 #[.pointer c5, .int .i64 4] dd fun df dc => (∃ (ca : Int), df = .returned (.int .i64 ca) ∧
 r1.elim False fun a9 =>
 Q01 dc (((a9.add 1).add 0).add 0) ∧
 thenW (dc.setCell (((a9.add 1).add 0).add 0) (.int .i64 ca)) fun ct =>
 r1.elim False fun dl =>
 ∃ (cf : Int), ct.cell? ((dl.add 1).add 0) = some (.int .i64 cf) ∧
 Calls Try.prog 60 #[.pointer r1, .int .i64 cf] ct fun cw d2 => (∃ (bg : Nat) (bt c8 : Array Value), cw = .returned (.func (.func bg) bt c8) ∧
 bif enters Try.prog bg then Calls Try.prog bg (bt.toList ++ ([] : List Value) ++ c8.toList).toArray d2 (fun d7 cr => (d7 = .returned (.tuple #[]) ∧
 r1.elim False fun dk =>
 ∃ (bj : Option Addr), cr.cell? (dk.add 0) = some (.pointer bj) ∧
 Calls Try.prog 56 #[.pointer bj] cr fun da d6 => (∃ (ce : Int), da = .returned (.int .i64 ce) ∧
 Calls Try.prog 61 #[.int .i64 ce] d6 fun d9 cq => (d9 = .returned (.tuple #[]) ∧
 r1.elim False fun dp =>
 ∃ (bi : Option Addr) (aj c9 : Nat), cq.cell? (dp.add 21) = some (.slice bi aj c9) ∧
 ∃ (I0 : Nat → List Value → World → Prop) (dn : Nat), I0 dn [.int .i64 0] cq ∧ ∀ (dh : Nat) (cc : World) (cs : Int), I0 dh [.int .i64 cs] cc →
 bif decide (cs < (aj : Int)) then (
 bi.elim False fun dj =>
 0 ≤ (cs : Int) ∧ (cs : Int) < (aj : Int) ∧
 ∃ (cp : Nat) (d1 cx : Array Value), cc.cell? (dj.add (Int.toNat cs * 1)) = some (.func (.func cp) d1 cx) ∧
 bif enters Try.prog cp then Calls Try.prog cp (d1.toList ++ ([] : List Value) ++ cx.toList).toArray cc (fun cz d0 => (cz = .returned (.tuple #[]) ∧
 ∃ de, de < dh ∧ I0 de [.int .i64 (IntKind.i64.wrap (cs + 1))] d0) ∨ ∃ (d4 : List PanicEntry), cz = .panicked d4 ∧
 Φ d4 d0) else False) else (
 r1.elim False fun di =>
 ∃ (c1 ai ay bl bq c7 az : Int) (aq : Option Addr) (b6 bf : Nat) (bv ah bb bm c6 bx ax : Int) (be : Option Addr) (ba b5 : Nat) (c4 ch : Int) (cj : Option Addr) (cn cl : Nat) (cb : Int), cellsAt cc (di.add 1) [.int .i64 c1, .int .i64 ai, .int .i64 ay, .int .u64 bl, .int .i64 bq, .int .i64 c7, .int .i64 az, .slice aq b6 bf, .int .u64 bv, .int .i64 ah, .int .i64 bb, .int .u64 bm, .int .i64 c6, .int .i64 bx, .int .i64 ax, .slice be ba b5, .int .u64 c4, .int .i64 ch, .slice cj cn cl, .int .u64 cb] 0 ∧
 Calls Try.prog 16 #[.agg #[.int .i64 c1, .int .i64 ai, .int .i64 ay, .int .u64 bl, .int .i64 bq, .int .i64 c7, .int .i64 az, .slice aq b6 bf, .int .u64 bv, .int .i64 ah, .int .i64 bb, .int .u64 bm, .int .i64 c6, .int .i64 bx, .int .i64 ax, .slice be ba b5, .int .u64 c4, .int .i64 ch, .slice cj cn cl, .int .u64 cb]] cc fun cy ci => (∃ (c2 : Bool), cy = .returned (.bool c2) ∧
 bif !c2 then (
 Φ [{ v := .iface 33 (.int .i64 4), recovered := false }] ci) else (
 r1.elim False fun dm =>
 ∃ (br af b8 bh c0 bz ap : Int) (av : Option Addr) (b7 b9 : Nat) (bu al b2 bn bw bs b3 : Int) (b1 : Option Addr) (au bd : Nat) (c3 cg : Int) (cm : Option Addr) (co ck : Nat) (cd : Int), cellsAt ci (dm.add 1) [.int .i64 br, .int .i64 af, .int .i64 b8, .int .u64 bh, .int .i64 c0, .int .i64 bz, .int .i64 ap, .slice av b7 b9, .int .u64 bu, .int .i64 al, .int .i64 b2, .int .u64 bn, .int .i64 bw, .int .i64 bs, .int .i64 b3, .slice b1 au bd, .int .u64 c3, .int .i64 cg, .slice cm co ck, .int .u64 cd] 0 ∧
 putsK ci (blk w.heap.size) [.int .i64 br, .int .i64 af, .int .i64 b8, .int .u64 bh, .int .i64 c0, .int .i64 bz, .int .i64 ap, .slice av b7 b9, .int .u64 bu, .int .i64 al, .int .i64 b2, .int .u64 bn, .int .i64 bw, .int .i64 bs, .int .i64 b3, .slice b1 au bd, .int .u64 c3, .int .i64 cg, .slice cm co ck, .int .u64 cd] 0 fun d8 =>
 ∃ (b0 a2 a7 ak aw ar ad : Int) (ac : Option Addr) (aa a8 : Nat) (ao a1 ab ae ag an a5 : Int) (a4 : Option Addr) (a0 a6 : Nat) (am bc : Int) (bo : Option Addr) (bp bk : Nat) (b4 : Int), cellsAt d8 (blk w.heap.size) [.int .i64 b0, .int .i64 a2, .int .i64 a7, .int .u64 ak, .int .i64 aw, .int .i64 ar, .int .i64 ad, .slice ac aa a8, .int .u64 ao, .int .i64 a1, .int .i64 ab, .int .u64 ae, .int .i64 ag, .int .i64 an, .int .i64 a5, .slice a4 a0 a6, .int .u64 am, .int .i64 bc, .slice bo bp bk, .int .u64 b4] 0 ∧
 R (.agg #[.int .i64 b0, .int .i64 a2, .int .i64 a7, .int .u64 ak, .int .i64 aw, .int .i64 ar, .int .i64 ad, .slice ac aa a8, .int .u64 ao, .int .i64 a1, .int .i64 ab, .int .u64 ae, .int .i64 ag, .int .i64 an, .int .i64 a5, .slice a4 a0 a6, .int .u64 am, .int .i64 bc, .slice bo bp bk, .int .u64 b4]) d8)) ∨ ∃ (d5 : List PanicEntry), cy = .panicked d5 ∧
 Φ d5 ci)) ∨ ∃ (cv : List PanicEntry), d9 = .panicked cv ∧
 Φ cv cq) ∨ ∃ (d3 : List PanicEntry), da = .panicked d3 ∧
 Φ d3 d6) ∨ ∃ (cu : List PanicEntry), d7 = .panicked cu ∧
 Φ cu cr) else False) ∨ ∃ (db : List PanicEntry), cw = .panicked db ∧
 Φ db d2) ∨ ∃ (dg : List PanicEntry), df = .panicked dg ∧
 Φ dg dc

theorem Q1T.ok (r1 : Option Addr) {Φ : List PanicEntry → World → Prop} {R : RW} {w : World} (h : Q1T.M r1 Φ R w) : Calls Try.prog 34 #[.pointer r1] w fun e w' => (∃ v, e = .returned v ∧ R v w') ∨ ∃ ch, e = .panicked ch ∧ Φ ch w' :=
  Q1U follows (H := [(0, [0, 2, 31, 32], [(33, (.one (.int .i64)))])]) (args := [.pointer r1]) (cast (by kernel_rfl) h)

def frmBack.M (a0 ac : Addr) (pk : Int) (R : Value → FrameMode → World → Prop) (w : World) : Prop :=
 ∃ (b3 : Bool), (binOp .neq 20 (.iface 33 (.int .i64 pk)) (.nilIface)).run Try.prog w = .ok (.bool b3) w ∧
 bif b3 then (
 thenW (w.drew) fun ai =>
 ∃ (v5 : Int), (Instr.typeAssert (.iface 33 (.int .i64 pk)) 20 33 false).run Try.prog ai = .ok (.int .i64 v5) ai ∧
 Q01 ai (a0.add 0) ∧
 thenW (ai.setCell (a0.add 0) (.int .i64 0)) fun ak =>
 Q01 ak (a0.add 1) ∧
 thenW (ak.setCell (a0.add 1) (.int .i64 0)) fun am =>
 Q01 am (a0.add 2) ∧
 thenW (am.setCell (a0.add 2) (.int .i64 0)) fun an =>
 Q01 an (a0.add 3) ∧
 thenW (an.setCell (a0.add 3) (.int .u64 0)) fun al =>
 Q01 al (a0.add 4) ∧
 thenW (al.setCell (a0.add 4) (.int .i64 0)) fun a7 =>
 Q01 a7 (a0.add 5) ∧
 thenW (a7.setCell (a0.add 5) (.int .i64 0)) fun a6 =>
 Q01 a6 (a0.add 6) ∧
 thenW (a6.setCell (a0.add 6) (.int .i64 0)) fun a9 =>
 Q01 a9 (a0.add 7) ∧
 thenW (a9.setCell (a0.add 7) (.slice none 0 0)) fun a5 =>
 Q01 a5 (a0.add 8) ∧
 thenW (a5.setCell (a0.add 8) (.int .u64 0)) fun a4 =>
 Q01 a4 (a0.add 9) ∧
 thenW (a4.setCell (a0.add 9) (.int .i64 0)) fun ad =>
 Q01 ad (a0.add 10) ∧
 thenW (ad.setCell (a0.add 10) (.int .i64 0)) fun ag =>
 Q01 ag (a0.add 11) ∧
 thenW (ag.setCell (a0.add 11) (.int .u64 0)) fun ab =>
 Q01 ab (a0.add 12) ∧
 thenW (ab.setCell (a0.add 12) (.int .i64 0)) fun ah =>
 Q01 ah (a0.add 13) ∧
 thenW (ah.setCell (a0.add 13) (.int .i64 0)) fun af =>
 Q01 af (a0.add 14) ∧
 thenW (af.setCell (a0.add 14) (.int .i64 0)) fun aa =>
 Q01 aa (a0.add 15) ∧
 thenW (aa.setCell (a0.add 15) (.slice none 0 0)) fun a3 =>
 Q01 a3 (a0.add 16) ∧
 thenW (a3.setCell (a0.add 16) (.int .u64 0)) fun a2 =>
 Q01 a2 (a0.add 17) ∧
 thenW (a2.setCell (a0.add 17) (.int .i64 0)) fun a8 =>
 Q01 a8 (a0.add 18) ∧
 thenW (a8.setCell (a0.add 18) (.slice none 0 0)) fun ae =>
 Q01 ae (a0.add 19) ∧
 thenW (ae.setCell (a0.add 19) (.int .u64 0)) fun a1 =>
 (Instr.typeAssert (.iface 33 (.int .i64 pk)) 20 33 false).run Try.prog a1 = .ok (.int .i64 v5) a1 ∧
 Q01 a1 (ac.add 0) ∧
 thenW (a1.setCell (ac.add 0) (.int .i64 v5)) fun aj =>
 R (.tuple #[]) (.panicking [{ v := .iface 33 (.int .i64 pk), recovered := true }]) aj) else (
 R (.tuple #[]) (.panicking [{ v := .iface 33 (.int .i64 pk), recovered := true }]) w)

theorem frmBack.ok (a0 a1 : Addr) (pk : Int) {R : Value → FrameMode → World → Prop} {w : World} (h : frmBack.M a0 a1 pk R w) : CallsD Try.prog 32 #[.pointer (some a0), .pointer (some a1)] (.panicking [{ v := .iface 33 (.int .i64 pk), recovered := false }]) w fun e u' w' => ∃ v, e = .returned v ∧ R v u' w' :=
  Q3g follows (H := []) (args := [.pointer (some a0), .pointer (some a1)]) (cast (by kernel_rfl) h)

def frmDone.M (a0 a1 : Addr) (R : Value → FrameMode → World → Prop) (w : World) : Prop :=
 R (.tuple #[]) .returning w

theorem frmDone.ok (a0 a1 : Addr) {R : Value → FrameMode → World → Prop} {w : World} (h : frmDone.M a0 a1 R w) : CallsD Try.prog 32 #[.pointer (some a0), .pointer (some a1)] .returning w fun e u' w' => ∃ v, e = .returned v ∧ R v u' w' :=
  Q3g follows (H := []) (args := [.pointer (some a0), .pointer (some a1)]) (cast (by kernel_rfl) h)

def frmRead.M (f4 : Option Addr) (f2 f3 : Nat) (R : RW) (w : World) : Prop :=
 thenW (w.alloc (.cells #[.int .i64 0, .int .i64 0, .int .i64 0, .int .u64 0, .int .i64 0, .int .i64 0, .int .i64 0, .slice none 0 0, .int .u64 0, .int .i64 0, .int .i64 0, .int .u64 0, .int .i64 0, .int .i64 0, .int .i64 0, .slice none 0 0, .int .u64 0, .int .i64 0, .slice none 0 0, .int .u64 0] 38)) fun dx =>
 thenW (dx.alloc (.cells #[.int .i64 0] 33)) fun f1 =>
 bif decide ((f2 : Int) > 4000) then (
 ∃ (e4 ch dj dp ed ec cw : Int) (c8 : Option Addr) (cj cg : Nat) (dm bq c6 cz du dw co : Int) (ce : Option Addr) (ct cd : Nat) (dn dy : Int) (el : Option Addr) (ej ei : Nat) (eb : Int), cellsAt f1 (blk w.heap.size) [.int .i64 e4, .int .i64 ch, .int .i64 dj, .int .u64 dp, .int .i64 ed, .int .i64 ec, .int .i64 cw, .slice c8 cj cg, .int .u64 dm, .int .i64 bq, .int .i64 c6, .int .u64 cz, .int .i64 du, .int .i64 dw, .int .i64 co, .slice ce ct cd, .int .u64 dn, .int .i64 dy, .slice el ej ei, .int .u64 eb] 0 ∧
 putsK f1 (blk w.heap.size) [.int .i64 e4, .int .i64 ch, .int .i64 dj, .int .u64 dp, .int .i64 ed, .int .i64 ec, .int .i64 cw, .slice c8 cj cg, .int .u64 dm, .int .i64 bq, .int .i64 c6, .int .u64 cz, .int .i64 du, .int .i64 dw, .int .i64 co, .slice ce ct cd, .int .u64 dn, .int .i64 dy, .slice el ej ei, .int .u64 eb] 0 fun ev =>
 Q01 ev ((blk dx.heap.size).add 0) ∧
 thenW (ev.setCell ((blk dx.heap.size).add 0) (.int .i64 3)) fun en =>
 ∃ (cr ae bg bw ci ca ax : Int) (ba : Option Addr) (bh au : Nat) (c3 am b0 bi cl c5 bd : Int) (aw : Option Addr) (be bb : Nat) (cc d5 : Int) (dv : Option Addr) (ds dq : Nat) (de : Int), cellsAt en (blk w.heap.size) [.int .i64 cr, .int .i64 ae, .int .i64 bg, .int .u64 bw, .int .i64 ci, .int .i64 ca, .int .i64 ax, .slice ba bh au, .int .u64 c3, .int .i64 am, .int .i64 b0, .int .u64 bi, .int .i64 cl, .int .i64 c5, .int .i64 bd, .slice aw be bb, .int .u64 cc, .int .i64 d5, .slice dv ds dq, .int .u64 de] 0 ∧
 ∃ (ek : Int), en.cell? (blk dx.heap.size) = some (.int .i64 ek) ∧
 R (.tuple #[.agg #[.int .i64 cr, .int .i64 ae, .int .i64 bg, .int .u64 bw, .int .i64 ci, .int .i64 ca, .int .i64 ax, .slice ba bh au, .int .u64 c3, .int .i64 am, .int .i64 b0, .int .u64 bi, .int .i64 cl, .int .i64 c5, .int .i64 bd, .slice aw be bb, .int .u64 cc, .int .i64 d5, .slice dv ds dq, .int .u64 de], .int .i64 ek]) en) else (
 Calls Try.prog 33 #[.slice f4 f2 f3] f1 fun eu em => (∃ (e5 : Option Addr), eu = .returned (.pointer e5) ∧
 thenW (em.alloc (.cells #[.pointer e5, .int .i64 0, .int .i64 0, .int .i64 0, .int .u64 0, .int .i64 0, .int .i64 0, .int .i64 0, .slice none 0 0, .int .u64 0, .int .i64 0, .int .i64 0, .int .u64 0, .int .i64 0, .int .i64 0, .int .i64 0, .slice none 0 0, .int .u64 0, .int .i64 0, .slice none 0 0, .int .u64 0, .slice none 0 0] 72)) fun f0 =>
 Calls Try.prog 34 #[.pointer (some (blk em.heap.size))] f0 fun eo ey => (∃ (e9 c7 dk dr e6 dz d3 : Int) (d6 : Option Addr) (d7 d0 : Nat) (e0 c4 d4 dt e2 e1 da : Int) (dg : Option Addr) (d8 dc : Nat) (e7 eg : Int) (er : Option Addr) (es eq : Nat) (eh : Int), eo = .returned (.agg #[.int .i64 e9, .int .i64 c7, .int .i64 dk, .int .u64 dr, .int .i64 e6, .int .i64 dz, .int .i64 d3, .slice d6 d7 d0, .int .u64 e0, .int .i64 c4, .int .i64 d4, .int .u64 dt, .int .i64 e2, .int .i64 e1, .int .i64 da, .slice dg d8 dc, .int .u64 e7, .int .i64 eg, .slice er es eq, .int .u64 eh]) ∧
 putsK ey (blk w.heap.size) [.int .i64 e9, .int .i64 c7, .int .i64 dk, .int .u64 dr, .int .i64 e6, .int .i64 dz, .int .i64 d3, .slice d6 d7 d0, .int .u64 e0, .int .i64 c4, .int .i64 d4, .int .u64 dt, .int .i64 e2, .int .i64 e1, .int .i64 da, .slice dg d8 dc, .int .u64 e7, .int .i64 eg, .slice er es eq, .int .u64 eh] 0 fun ex =>
 Q01 ex ((blk dx.heap.size).add 0) ∧
 thenW (ex.setCell ((blk dx.heap.size).add 0) (.int .i64 0)) fun ez =>
 CallsD Try.prog 32 #[.pointer (some (blk w.heap.size)), .pointer (some (blk dx.heap.size))] .returning ez fun ea ef bz => ∃ (ep : Value), ea = .returned ep ∧ settle ef = .returning ∧
 ∃ (cp ap ay bu cb cv b8 : Int) (bf : Option Addr) (b7 az : Nat) (ck ad b2 bx cy cx b5 : Int) (av : Option Addr) (b3 b6 : Nat) (cu cs : Int) (d9 : Option Addr) (d2 dl : Nat) (cm : Int), cellsAt bz (blk w.heap.size) [.int .i64 cp, .int .i64 ap, .int .i64 ay, .int .u64 bu, .int .i64 cb, .int .i64 cv, .int .i64 b8, .slice bf b7 az, .int .u64 ck, .int .i64 ad, .int .i64 b2, .int .u64 bx, .int .i64 cy, .int .i64 cx, .int .i64 b5, .slice av b3 b6, .int .u64 cu, .int .i64 cs, .slice d9 d2 dl, .int .u64 cm] 0 ∧
 ∃ (e8 : Int), bz.cell? (blk dx.heap.size) = some (.int .i64 e8) ∧
 R (.tuple #[.agg #[.int .i64 cp, .int .i64 ap, .int .i64 ay, .int .u64 bu, .int .i64 cb, .int .i64 cv, .int .i64 b8, .slice bf b7 az, .int .u64 ck, .int .i64 ad, .int .i64 b2, .int .u64 bx, .int .i64 cy, .int .i64 cx, .int .i64 b5, .slice av b3 b6, .int .u64 cu, .int .i64 cs, .slice d9 d2 dl, .int .u64 cm], .int .i64 e8]) bz) ∨ ∃ (et : List PanicEntry), eo = .panicked et ∧
 CallsD Try.prog 32 #[.pointer (some (blk w.heap.size)), .pointer (some (blk dx.heap.size))] (.panicking et) ey fun ea ef bz => ∃ (ep : Value), ea = .returned ep ∧ settle ef = .returning ∧
 ∃ (bo a0 a4 b4 c2 bk ar : Int) (a5 : Option Addr) (al ah : Nat) (bt a1 ak b9 bl bv a9 : Int) (ac : Option Addr) (a7 an : Nat) (bp cf : Int) (db : Option Addr) (dd di : Nat) (cq : Int), cellsAt bz (blk w.heap.size) [.int .i64 bo, .int .i64 a0, .int .i64 a4, .int .u64 b4, .int .i64 c2, .int .i64 bk, .int .i64 ar, .slice a5 al ah, .int .u64 bt, .int .i64 a1, .int .i64 ak, .int .u64 b9, .int .i64 bl, .int .i64 bv, .int .i64 a9, .slice ac a7 an, .int .u64 bp, .int .i64 cf, .slice db dd di, .int .u64 cq] 0 ∧
 ∃ (e3 : Int), bz.cell? (blk dx.heap.size) = some (.int .i64 e3) ∧
 R (.tuple #[.agg #[.int .i64 bo, .int .i64 a0, .int .i64 a4, .int .u64 b4, .int .i64 c2, .int .i64 bk, .int .i64 ar, .slice a5 al ah, .int .u64 bt, .int .i64 a1, .int .i64 ak, .int .u64 b9, .int .i64 bl, .int .i64 bv, .int .i64 a9, .slice ac a7 an, .int .u64 bp, .int .i64 cf, .slice db dd di, .int .u64 cq], .int .i64 e3]) bz) ∨ ∃ (ew : List PanicEntry), eu = .panicked ew ∧
 CallsD Try.prog 32 #[.pointer (some (blk w.heap.size)), .pointer (some (blk dx.heap.size))] (.panicking ew) em fun ea ef bz => ∃ (ep : Value), ea = .returned ep ∧ settle ef = .returning ∧
 ∃ (br a2 ai b1 bm bn aj : Int) (a6 : Option Addr) (ao ag : Nat) (c0 a3 aa bc c1 bs a8 : Int) (ab : Option Addr) (af aq : Nat) (bj c9 : Int) (df : Option Addr) (dh d1 : Nat) (cn : Int), cellsAt bz (blk w.heap.size) [.int .i64 br, .int .i64 a2, .int .i64 ai, .int .u64 b1, .int .i64 bm, .int .i64 bn, .int .i64 aj, .slice a6 ao ag, .int .u64 c0, .int .i64 a3, .int .i64 aa, .int .u64 bc, .int .i64 c1, .int .i64 bs, .int .i64 a8, .slice ab af aq, .int .u64 bj, .int .i64 c9, .slice df dh d1, .int .u64 cn] 0 ∧
 ∃ (ee : Int), bz.cell? (blk dx.heap.size) = some (.int .i64 ee) ∧
 R (.tuple #[.agg #[.int .i64 br, .int .i64 a2, .int .i64 ai, .int .u64 b1, .int .i64 bm, .int .i64 bn, .int .i64 aj, .slice a6 ao ag, .int .u64 c0, .int .i64 a3, .int .i64 aa, .int .u64 bc, .int .i64 c1, .int .i64 bs, .int .i64 a8, .slice ab af aq, .int .u64 bj, .int .i64 c9, .slice df dh d1, .int .u64 cn], .int .i64 ee]) bz)

theorem frmRead.ok (a0 : Option Addr) (a1 a2 : Nat) {R : RW} {w : World} (h : frmRead.M a0 a1 a2 R w) : Calls Try.prog 13 #[.slice a0 a1 a2] w fun e w' => ∃ v, e = .returned v ∧ R v w' :=
  Q4w follows (H := []) (args := [.slice a0 a1 a2]) (cast (by kernel_rfl) h)
def Q0k.M (r1 al : Option Addr) (R : RW) (w : World) : Prop :=
 thenW (w.alloc (.cells #[.pointer al] 118)) fun ag =>
 r1.elim False fun a4 =>
 ∃ (a3 : Option Addr), ag.cell? (a4.add 0) = some (.pointer a3) ∧
 Calls Try.prog 55 #[.pointer a3, .int .i64 4000] ag fun aj ad => ∃ (a6 : Option Addr) (a7 a5 : Nat), aj = .returned (.slice a6 a7 a5) ∧
 thenW (ad.alloc (.cells #[.slice none 0 0] 25)) fun ah =>
 Q01 ah ((blk ad.heap.size).add 0) ∧
 thenW (ah.setCell ((blk ad.heap.size).add 0) (.slice a6 a7 a5)) fun a8 =>
 r1.elim False fun ak =>
 ∃ (a0 : Option Addr) (a1 a2 : Nat), a8.cell? (ak.add 21) = some (.slice a0 a1 a2) ∧
 thenW (a8.alloc (.cells #[.func (.func 97) #[] #[.pointer (some (blk ad.heap.size)), .pointer (some (blk w.heap.size))]] 1)) fun ae =>
 ∃ (ab : Option Addr) (ac aa : Nat) (a9 : World), (Builtin.append_ #[70, 70] 70 #[.slice a0 a1 a2, .slice (some (blk a8.heap.size)) 1 1]).run Try.prog ae = .ok (.slice ab ac aa) a9 ∧
 r1.elim False fun ai =>
 Q01 a9 ((ai.add 21).add 0) ∧
 thenW (a9.setCell ((ai.add 21).add 0) (.slice ab ac aa)) fun af =>
 R (.tuple #[]) af

theorem Q0k.ok (r1 a0 : Option Addr) {R : RW} {w : World} (h : Q0k.M r1 a0 R w) : Calls Try.prog 91 #[.pointer r1, .pointer a0] w fun e w' => ∃ v, e = .returned v ∧ R v w' :=
  Q09 follows (H := []) (args := [.pointer r1, .pointer a0]) (cast (by kernel_rfl) h)

def Q0k.N (r1 al : Option Addr) (R : RW) (w : World) : Prop :=
 ∀ (ae : World) (q4 : Nat), Ext no w ae → Blk ae q4 118 [.pointer al] → w.heap.size ≤ q4 → q4 < ae.heap.size →
 ∃ a5 : Addr, r1 = some a5 ∧
 ∃ (a7 : Option Addr), ae.cell? (a5.add 0) = some (.pointer a7) ∧
 Calls Try.prog 55 #[.pointer a7, .int .i64 4000] ae fun ak ag => ∃ (a4 : Option Addr) (a6 a3 : Nat), ak = .returned (.slice a4 a6 a3) ∧
 ∀ (a8 : World) (ac : Nat), Ext no ag a8 → Blk a8 ac 25 [.slice none 0 0] → ag.heap.size ≤ ac → ac < a8.heap.size →
 Q01 a8 ((blk ac).add 0) ∧
 thenW (a8.setCell ((blk ac).add 0) (.slice a4 a6 a3)) fun aa =>
 ∃ (a2 : Option Addr) (a0 a1 : Nat), aa.cell? (a5.add 21) = some (.slice a2 a0 a1) ∧
 ∀ (a9 : World) (ai : Nat), Ext no aa a9 → Blk a9 ai 1 [.func (.func 97) #[] #[.pointer (some (blk ac)), .pointer (some (blk q4))]] → aa.heap.size ≤ ai → ai < a9.heap.size →
 ∃ (af : Option Addr) (ah ad : Nat) (ab : World), (Builtin.append_ #[70, 70] 70 #[.slice a2 a0 a1, .slice (some (blk ai)) 1 1]).run Try.prog a9 = .ok (.slice af ah ad) ab ∧
 Q01 ab ((a5.add 21).add 0) ∧
 thenW (ab.setCell ((a5.add 21).add 0) (.slice af ah ad)) fun aj =>
 R (.tuple #[]) aj

theorem Q0k.up (r1 ak : Option Addr) {R : RW} {w : World} (h : Q0k.N r1 ak R w) : Q0k.M r1 ak R w := by
  unfold Q0k.M
  unfold Q0k.N at h
  refine Q00 fun am e3 => ?_
  have h := h am w.heap.size ((Ext.refl no w).x_alloc e3) (Blk.of_new e3) ((Ext.refl no w)).size (Q0s e3)
  obtain ⟨a5, ag, h⟩ := h
  refine Q0p ag ?_
  obtain ⟨a7, an, h⟩ := h
  refine ⟨a7, an, ?_⟩
  refine h.mono fun aq a9 h => ?_
  obtain ⟨a4, a6, a3, he, h⟩ := h
  refine ⟨a4, a6, a3, he, ?_⟩
  refine Q00 fun ad ae => ?_
  have h := h ad a9.heap.size ((Ext.refl no a9).x_alloc ae) (Blk.of_new ae) ((Ext.refl no a9)).size (Q0s ae)
  obtain ⟨hcs, h⟩ := h
  refine ⟨hcs, Q00 fun a8 al => ?_⟩
  replace h := Q0X h al
  refine Q0p ag ?_
  obtain ⟨a2, a0, a1, ab, h⟩ := h
  refine ⟨a2, a0, a1, ab, ?_⟩
  refine Q00 fun aj ah => ?_
  have h := h aj a8.heap.size ((Ext.refl no a8).x_alloc ah) (Blk.of_new ah) ((Ext.refl no a8)).size (Q0s ah)
  obtain ⟨ac, af, aa, ai, hr, h⟩ := h
  refine ⟨ac, af, aa, ai, hr, ?_⟩
  refine Q0p ag ?_
  obtain ⟨hcs, h⟩ := h
  refine ⟨hcs, Q00 fun ao ap => ?_⟩
  replace h := Q0X h ap
  exact h

theorem Q0k.go (r1 a0 : Option Addr) {R : RW} {w : World} (h : Q0k.N r1 a0 R w) : Calls Try.prog 91 #[.pointer r1, .pointer a0] w fun e w' => ∃ v, e = .returned v ∧ R v w' := Q0k.ok r1 a0 (Q0k.up r1 a0 h)
abbrev Q0c.J1 (ab : Addr) (R : RW) (ac : World) : Prop :=
 ∃ (ao : Option Addr), ac.cell? ab = some (.pointer ao) ∧
 ao.elim False fun ap =>
 ∃ (a6 : Option Addr), ac.cell? (ap.add 0) = some (.pointer a6) ∧
 Calls Try.prog 55 #[.pointer a6, .int .i64 4000] ac fun aj a8 => ∃ (a4 : Option Addr) (a5 a3 : Nat), aj = .returned (.slice a4 a5 a3) ∧
 thenW (a8.alloc (.cells #[.slice none 0 0] 25)) fun ag =>
 Q01 ag ((blk a8.heap.size).add 0) ∧
 thenW (ag.setCell ((blk a8.heap.size).add 0) (.slice a4 a5 a3)) fun al =>
 thenW (al.drew) fun a7 =>
 ∃ (ah : Option Addr), a7.cell? ab = some (.pointer ah) ∧
 ∃ (ak : Option Addr), a7.cell? ab = some (.pointer ak) ∧
 ak.elim False fun am =>
 ∃ (a2 : Option Addr) (a0 a1 : Nat), a7.cell? (am.add 21) = some (.slice a2 a0 a1) ∧
 thenW (a7.alloc (.cells #[.func (.func 92) #[] #[.pointer (some (blk a8.heap.size)), .pointer (some ab)]] 1)) fun a9 =>
 a9.cell? (am.add 21) = some (.slice a2 a0 a1) ∧
 a9.cell? ab = some (.pointer ak) ∧
 a9.cell? ab = some (.pointer ah) ∧
 ∃ (ae : Option Addr) (af ad : Nat) (aa : World), (Builtin.append_ #[70, 70] 70 #[.slice a2 a0 a1, .slice (some (blk a7.heap.size)) 1 1]).run Try.prog a9 = .ok (.slice ae af ad) aa ∧
 aa.cell? ab = some (.pointer ah) ∧
 ah.elim False fun an =>
 Q01 aa ((an.add 21).add 0) ∧
 thenW (aa.setCell ((an.add 21).add 0) (.slice ae af ad)) fun ai =>
 R (.tuple #[]) ai

def Q0c.M (r1 : Option Addr) (R : RW) (w : World) : Prop :=
 thenW (w.alloc (.cells #[.pointer r1] 67)) fun a7 =>
 thenW (a7.drew) fun a3 =>
 ∃ (x4 : Option Addr), a3.cell? (blk w.heap.size) = some (.pointer x4) ∧
 ∃ (x5 : Option Addr), a3.cell? (blk w.heap.size) = some (.pointer x5) ∧
 x5.elim False fun a6 =>
 ∃ (a0 : Option Addr), a3.cell? (a6.add 0) = some (.pointer a0) ∧
 Calls Try.prog 54 #[.pointer a0, .int .i64 7] a3 fun a8 a2 => ∃ (a1 : Int), a8 = .returned (.int .i64 a1) ∧
 a2.cell? (blk w.heap.size) = some (.pointer x4) ∧
 x4.elim False fun a5 =>
 Q01 a2 (((a5.add 1).add 17).add 0) ∧
 thenW (a2.setCell (((a5.add 1).add 17).add 0) (.int .i64 a1)) fun a4 =>
 Q0c.J1 (blk w.heap.size) R a4

theorem Q0c.ok (r1 : Option Addr) {R : RW} {w : World} (h : Q0c.M r1 R w) : Calls Try.prog 78 #[.pointer r1] w fun e w' => ∃ v, e = .returned v ∧ R v w' :=
  Q09 follows (H := []) (args := [.pointer r1]) (cast (by kernel_rfl) h)

def Q0c.N (r1 : Option Addr) (R : RW) (w : World) : Prop :=
 ∀ (ae : World) (q3 : Nat), Ext no w ae → Blk ae q3 67 [.pointer r1] → w.heap.size ≤ q3 → q3 < ae.heap.size →
 ∃ (x6 : Option Addr), ae.cell? (blk q3) = some (.pointer x6) ∧
 ∃ (x8 : Option Addr), ae.cell? (blk q3) = some (.pointer x8) ∧
 ∃ a9 : Addr, x8 = some a9 ∧
 ∃ (a7 : Option Addr), ae.cell? (a9.add 0) = some (.pointer a7) ∧
 ∀ (ax : World), Ext no ae ax →
 Calls Try.prog 54 #[.pointer a7, .int .i64 7] ax fun ar af => ∃ (aa : Int), ar = .returned (.int .i64 aa) ∧
 af.cell? (blk q3) = some (.pointer x6) ∧
 ∃ aq : Addr, x6 = some aq ∧
 Q01 af (((aq.add 1).add 17).add 0) ∧
 thenW (af.setCell (((aq.add 1).add 17).add 0) (.int .i64 aa)) fun ag =>
 ∃ (az : Option Addr), ag.cell? (blk q3) = some (.pointer az) ∧
 ∃ ay : Addr, az = some ay ∧
 ∃ (a6 : Option Addr), ag.cell? (ay.add 0) = some (.pointer a6) ∧
 Calls Try.prog 55 #[.pointer a6, .int .i64 4000] ag fun aw aj => ∃ (a3 : Option Addr) (a5 a4 : Nat), aw = .returned (.slice a3 a5 a4) ∧
 ∀ (ac : World) (ah : Nat), Ext no aj ac → Blk ac ah 25 [.slice none 0 0] → aj.heap.size ≤ ah → ah < ac.heap.size →
 Q01 ac ((blk ah).add 0) ∧
 thenW (ac.setCell ((blk ah).add 0) (.slice a3 a5 a4)) fun ab =>
 ∃ (am : Option Addr), ab.cell? (blk q3) = some (.pointer am) ∧
 ∃ (ap : Option Addr), ab.cell? (blk q3) = some (.pointer ap) ∧
 ∃ ao : Addr, ap = some ao ∧
 ∃ (a2 : Option Addr) (a0 a1 : Nat), ab.cell? (ao.add 21) = some (.slice a2 a0 a1) ∧
 ∀ (a8 : World) (an : Nat), Ext no ab a8 → Blk a8 an 1 [.func (.func 92) #[] #[.pointer (some (blk ah)), .pointer (some (blk q3))]] → ab.heap.size ≤ an → an < a8.heap.size →
 a8.cell? (ao.add 21) = some (.slice a2 a0 a1) ∧
 a8.cell? (blk q3) = some (.pointer ap) ∧
 a8.cell? (blk q3) = some (.pointer am) ∧
 ∃ (ai : Option Addr) (ak al : Nat) (ad : World), (Builtin.append_ #[70, 70] 70 #[.slice a2 a0 a1, .slice (some (blk an)) 1 1]).run Try.prog a8 = .ok (.slice ai ak al) ad ∧
 ad.cell? (blk q3) = some (.pointer am) ∧
 ∃ av : Addr, am = some av ∧
 Q01 ad ((av.add 21).add 0) ∧
 thenW (ad.setCell ((av.add 21).add 0) (.slice ai ak al)) fun au =>
 R (.tuple #[]) au

theorem Q0c.up (r1 : Option Addr) {R : RW} {w : World} (h : Q0c.N r1 R w) : Q0c.M r1 R w := by
  unfold Q0c.M
  unfold Q0c.N at h
  refine Q00 fun b4 e2 => ?_
  have h := h b4 w.heap.size ((Ext.refl no w).x_alloc e2) (Blk.of_new e2) ((Ext.refl no w)).size (Q0s e2)
  refine Q00 fun b7 e4 => ?_
  have ac := (Ext.refl no b4).x_drew e4
  obtain ⟨x6, bb, h⟩ := h
  refine ⟨x6, (ac).cell bb id, ?_⟩
  obtain ⟨x8, bf, h⟩ := h
  refine ⟨x8, (ac).cell bf id, ?_⟩
  obtain ⟨a9, b6, h⟩ := h
  refine Q0p b6 ?_
  obtain ⟨a8, aq, h⟩ := h
  refine ⟨a8, (ac).cell aq id, ?_⟩
  have h := h b7 ac
  refine h.mono fun bc b8 h => ?_
  obtain ⟨aa, he, h⟩ := h
  refine ⟨aa, he, ?_⟩
  obtain ⟨aw, h⟩ := h
  refine ⟨aw, ?_⟩
  obtain ⟨bm, ad, h⟩ := h
  refine Q0p ad ?_
  obtain ⟨hcs, h⟩ := h
  refine ⟨hcs, Q00 fun bd bk => ?_⟩
  replace h := Q0X h bk
  first | unfold Q0c.J1 | skip
  obtain ⟨be, b2, h⟩ := h
  refine ⟨be, b2, ?_⟩
  obtain ⟨bn, au, h⟩ := h
  refine Q0p au ?_
  obtain ⟨a6, ao, h⟩ := h
  refine ⟨a6, ao, ?_⟩
  refine h.mono fun bi ab h => ?_
  obtain ⟨a0, a5, a1, he, h⟩ := h
  refine ⟨a0, a5, a1, he, ?_⟩
  refine Q00 fun ak b1 => ?_
  have h := h ak ab.heap.size ((Ext.refl no ab).x_alloc b1) (Blk.of_new b1) ((Ext.refl no ab)).size (Q0s b1)
  obtain ⟨hcs, h⟩ := h
  refine ⟨hcs, Q00 fun al bg => ?_⟩
  replace h := Q0X h bg
  refine Q00 fun am ba => ?_
  have a3 := (Ext.refl no al).x_drew ba
  obtain ⟨b5, aj, h⟩ := h
  refine ⟨b5, (a3).cell aj id, ?_⟩
  obtain ⟨b9, ah, h⟩ := h
  refine ⟨b9, (a3).cell ah id, ?_⟩
  obtain ⟨bl, ar, h⟩ := h
  refine Q0p ar ?_
  obtain ⟨a7, a2, a4, ae, h⟩ := h
  refine ⟨a7, a2, a4, (a3).cell ae id, ?_⟩
  refine Q00 fun af b3 => ?_
  have h := h af am.heap.size (a3.x_alloc b3) (Blk.of_new b3) (a3).size (Q0s b3)
  obtain ⟨ax, ay, ai, h⟩ := h
  refine ⟨ax, ay, ai, ?_⟩
  obtain ⟨ag, an, az, ap, hr, h⟩ := h
  refine ⟨ag, an, az, ap, hr, ?_⟩
  obtain ⟨b0, h⟩ := h
  refine ⟨b0, ?_⟩
  obtain ⟨bo, av, h⟩ := h
  refine Q0p av ?_
  obtain ⟨hcs, h⟩ := h
  refine ⟨hcs, Q00 fun bh bj => ?_⟩
  replace h := Q0X h bj
  exact h

theorem Q0c.go (r1 : Option Addr) {R : RW} {w : World} (h : Q0c.N r1 R w) : Calls Try.prog 78 #[.pointer r1] w fun e w' => ∃ v, e = .returned v ∧ R v w' := Q0c.ok r1 (Q0c.up r1 h)
def Q0q.M (r1 : Option Addr) (R : RW) (w : World) : Prop :=
 r1.elim False fun a2 =>
 Calls Try.prog 91 #[.pointer r1, .pointer (some ((a2.add 1).add 1))] w fun a0 a1 => a0 = .returned (.tuple #[]) ∧
 R (.tuple #[]) a1

theorem Q0q.ok (r1 : Option Addr) {R : RW} {w : World} (h : Q0q.M r1 R w) : Calls Try.prog 77 #[.pointer r1] w fun e w' => ∃ v, e = .returned v ∧ R v w' :=
  Q09 follows (H := []) (args := [.pointer r1]) (cast (by kernel_rfl) h)

def Q0q.N (r1 : Option Addr) (R : RW) (w : World) : Prop :=
 ∃ a2 : Addr, r1 = some a2 ∧
 Calls Try.prog 91 #[.pointer r1, .pointer (some ((a2.add 1).add 1))] w fun a0 a1 => a0 = .returned (.tuple #[]) ∧
 R (.tuple #[]) a1

theorem Q0q.up (r1 : Option Addr) {R : RW} {w : World} (h : Q0q.N r1 R w) : Q0q.M r1 R w := by
  unfold Q0q.M
  unfold Q0q.N at h
  obtain ⟨a2, a0, h⟩ := h
  refine Q0p a0 ?_
  refine h.mono fun a1 a3 h => ?_
  obtain ⟨he, h⟩ := h
  refine ⟨he, ?_⟩
  exact h

theorem Q0q.go (r1 : Option Addr) {R : RW} {w : World} (h : Q0q.N r1 R w) : Calls Try.prog 77 #[.pointer r1] w fun e w' => ∃ v, e = .returned v ∧ R v w' := Q0q.ok r1 (Q0q.up r1 h)
def Q0m.M (r1 : Option Addr) (R : RW) (w : World) : Prop :=
 Calls Try.prog 77 #[.pointer r1] w fun a2 a1 => a2 = .returned (.tuple #[]) ∧
 r1.elim False fun a4 =>
 Calls Try.prog 91 #[.pointer r1, .pointer (some ((a4.add 1).add 9))] a1 fun a3 a0 => a3 = .returned (.tuple #[]) ∧
 R (.tuple #[]) a0

theorem Q0m.ok (r1 : Option Addr) {R : RW} {w : World} (h : Q0m.M r1 R w) : Calls Try.prog 80 #[.pointer r1] w fun e w' => ∃ v, e = .returned v ∧ R v w' :=
  Q09 follows (H := []) (args := [.pointer r1]) (cast (by kernel_rfl) h)

def Q0m.N (r1 : Option Addr) (R : RW) (w : World) : Prop :=
 Calls Try.prog 77 #[.pointer r1] w fun a2 a1 => a2 = .returned (.tuple #[]) ∧
 ∃ a4 : Addr, r1 = some a4 ∧
 Calls Try.prog 91 #[.pointer r1, .pointer (some ((a4.add 1).add 9))] a1 fun a3 a0 => a3 = .returned (.tuple #[]) ∧
 R (.tuple #[]) a0

theorem Q0m.up (r1 : Option Addr) {R : RW} {w : World} (h : Q0m.N r1 R w) : Q0m.M r1 R w := by
  unfold Q0m.M
  unfold Q0m.N at h
  refine h.mono fun a2 a5 h => ?_
  obtain ⟨he, h⟩ := h
  refine ⟨he, ?_⟩
  obtain ⟨a4, a0, h⟩ := h
  refine Q0p a0 ?_
  refine h.mono fun a3 a1 h => ?_
  obtain ⟨he, h⟩ := h
  refine ⟨he, ?_⟩
  exact h

theorem Q0m.go (r1 : Option Addr) {R : RW} {w : World} (h : Q0m.N r1 R w) : Calls Try.prog 80 #[.pointer r1] w fun e w' => ∃ v, e = .returned v ∧ R v w' := Q0m.ok r1 (Q0m.up r1 h)
def Q0l.M (r1 : Option Addr) (R : RW) (w : World) : Prop :=
 Calls Try.prog 78 #[.pointer r1] w fun a6 a3 => a6 = .returned (.tuple #[]) ∧
 r1.elim False fun a4 =>
 ∃ (a0 : Option Addr), a3.cell? (a4.add 0) = some (.pointer a0) ∧
 Calls Try.prog 71 #[.pointer a0] a3 fun a7 a5 => ∃ (a1 : Int), a7 = .returned (.int .u64 a1) ∧
 r1.elim False fun a9 =>
 Q01 a5 (((a9.add 1).add 19).add 0) ∧
 thenW (a5.setCell (((a9.add 1).add 19).add 0) (.int .u64 a1)) fun a2 =>
 R (.tuple #[]) a2

theorem Q0l.ok (r1 : Option Addr) {R : RW} {w : World} (h : Q0l.M r1 R w) : Calls Try.prog 79 #[.pointer r1] w fun e w' => ∃ v, e = .returned v ∧ R v w' :=
  Q09 follows (H := []) (args := [.pointer r1]) (cast (by kernel_rfl) h)

def Q0l.N (r1 : Option Addr) (R : RW) (w : World) : Prop :=
 Calls Try.prog 78 #[.pointer r1] w fun a6 a3 => a6 = .returned (.tuple #[]) ∧
 ∃ a4 : Addr, r1 = some a4 ∧
 ∃ (a0 : Option Addr), a3.cell? (a4.add 0) = some (.pointer a0) ∧
 Calls Try.prog 71 #[.pointer a0] a3 fun a7 a5 => ∃ (a1 : Int), a7 = .returned (.int .u64 a1) ∧
 Q01 a5 (((a4.add 1).add 19).add 0) ∧
 thenW (a5.setCell (((a4.add 1).add 19).add 0) (.int .u64 a1)) fun a2 =>
 R (.tuple #[]) a2

theorem Q0l.up (r1 : Option Addr) {R : RW} {w : World} (h : Q0l.N r1 R w) : Q0l.M r1 R w := by
  unfold Q0l.M
  unfold Q0l.N at h
  refine h.mono fun a7 a9 h => ?_
  obtain ⟨he, h⟩ := h
  refine ⟨he, ?_⟩
  obtain ⟨a4, a2, h⟩ := h
  refine Q0p a2 ?_
  obtain ⟨a0, a6, h⟩ := h
  refine ⟨a0, a6, ?_⟩
  refine h.mono fun a8 aa h => ?_
  obtain ⟨a1, he, h⟩ := h
  refine ⟨a1, he, ?_⟩
  refine Q0p a2 ?_
  obtain ⟨hcs, h⟩ := h
  refine ⟨hcs, Q00 fun a5 a3 => ?_⟩
  replace h := Q0X h a3
  exact h

theorem Q0l.go (r1 : Option Addr) {R : RW} {w : World} (h : Q0l.N r1 R w) : Calls Try.prog 79 #[.pointer r1] w fun e w' => ∃ v, e = .returned v ∧ R v w' := Q0l.ok r1 (Q0l.up r1 h)
def Q0o.M (r1 : Option Addr) (n2 : Int) (R : RW) (w : World) : Prop :=
 bif n2 == 1 then (
 R (.func (.func 77) #[.pointer r1] #[]) w) else (
 bif n2 == 2 then (
 R (.func (.func 78) #[.pointer r1] #[]) w) else (
 bif n2 == 3 then (
 R (.func (.func 79) #[.pointer r1] #[]) w) else (
 bif n2 == 4 then (
 R (.func (.func 80) #[.pointer r1] #[]) w) else (
 R (.func (.func 81) #[] #[]) w))))

theorem Q0o.ok (r1 : Option Addr) (n2 : Int) {R : RW} {w : World} (h : Q0o.M r1 n2 R w) : Calls Try.prog 60 #[.pointer r1, .int .i64 n2] w fun e w' => ∃ v, e = .returned v ∧ R v w' :=
  Q09 follows (H := []) (args := [.pointer r1, .int .i64 n2]) (cast (by kernel_rfl) h)

def Q0o.N (r1 : Option Addr) (n2 : Int) (R : RW) (w : World) : Prop :=
 (n2 = 1 →
 R (.func (.func 77) #[.pointer r1] #[]) w) ∧
 (n2 ≠ 1 →
 (n2 = 2 →
 R (.func (.func 78) #[.pointer r1] #[]) w) ∧
 (n2 ≠ 2 →
 (n2 = 3 →
 R (.func (.func 79) #[.pointer r1] #[]) w) ∧
 (n2 ≠ 3 →
 (n2 = 4 →
 R (.func (.func 80) #[.pointer r1] #[]) w) ∧
 (n2 ≠ 4 →
 R (.func (.func 81) #[] #[]) w))))

theorem Q0o.up (r1 : Option Addr) (n2 : Int) {R : RW} {w : World} (h : Q0o.N r1 n2 R w) : Q0o.M r1 n2 R w := by
  unfold Q0o.M
  unfold Q0o.N at h
  refine bif_of (fun c3 => ?_) (fun c3 => ?_)
  ·have h := h.1 (beq_t c3)
   exact h
  have h := h.2 (beq_f c3)
  refine bif_of (fun c4 => ?_) (fun c4 => ?_)
  ·have h := h.1 (beq_t c4)
   exact h
  have h := h.2 (beq_f c4)
  refine bif_of (fun c5 => ?_) (fun c5 => ?_)
  ·have h := h.1 (beq_t c5)
   exact h
  have h := h.2 (beq_f c5)
  refine bif_of (fun c6 => ?_) (fun c6 => ?_)
  ·have h := h.1 (beq_t c6)
   exact h
  have h := h.2 (beq_f c6)
  exact h

theorem Q0o.go (r1 : Option Addr) (n2 : Int) {R : RW} {w : World} (h : Q0o.N r1 n2 R w) : Calls Try.prog 60 #[.pointer r1, .int .i64 n2] w fun e w' => ∃ v, e = .returned v ∧ R v w' := Q0o.ok r1 n2 (Q0o.up r1 n2 h)
def Q0i.M  (R : RW) (w : World) : Prop :=
 R (.tuple #[]) w

theorem Q0i.ok  {R : RW} {w : World} (h : Q0i.M  R w) : Calls Try.prog 81 #[] w fun e w' => ∃ v, e = .returned v ∧ R v w' :=
  Q09 follows (H := []) (args := []) (cast (by kernel_rfl) h)

def Q0i.N  (R : RW) (w : World) : Prop :=
 R (.tuple #[]) w

theorem Q0i.up  {R : RW} {w : World} (h : Q0i.N  R w) : Q0i.M  R w := by
  unfold Q0i.M
  unfold Q0i.N at h
  exact h

theorem Q0i.go  {R : RW} {w : World} (h : Q0i.N  R w) : Calls Try.prog 81 #[] w fun e w' => ∃ v, e = .returned v ∧ R v w' := Q0i.ok  (Q0i.up  h)
def Q0K.M (az : Option Addr) (b0 ay : Nat) (af ak an ar ao ah : Int) (al : Option Addr) (am aj : Nat) (aq : Int) (R : RW) (w : World) : Prop :=
 thenW (w.alloc (.cells #[.int .i64 af, .int .i64 ak, .int .u64 an, .int .i64 ar, .int .i64 ao, .int .i64 ah, .slice al am aj, .int .u64 aq] 27)) fun ap =>
 ∃ (a0 aa ac ae ad a2 : Int) (a7 : Option Addr) (a5 ab : Nat) (ag : Int), cellsAt ap (blk w.heap.size) [.int .i64 a0, .int .i64 aa, .int .u64 ac, .int .i64 ae, .int .i64 ad, .int .i64 a2, .slice a7 a5 ab, .int .u64 ag] 0 ∧
 Calls Try.prog 58 #[.agg #[.int .i64 a0, .int .i64 aa, .int .u64 ac, .int .i64 ae, .int .i64 ad, .int .i64 a2, .slice a7 a5 ab, .int .u64 ag]] ap fun aw au => ∃ (a8 : Option Addr) (a4 a9 : Nat) (ai : Int), aw = .returned (.tuple #[.slice a8 a4 a9, .int .i64 ai]) ∧
 Calls Try.prog 29 #[.slice az b0 ay, .slice a8 a4 a9] au fun ax av => ∃ (a1 : Option Addr) (a6 a3 : Nat), ax = .returned (.slice a1 a6 a3) ∧
 R (.slice a1 a6 a3) av

theorem Q0K.ok (aa : Option Addr) (ab ac : Nat) (a0 a1 a6 a8 a9 a2 : Int) (a3 : Option Addr) (a4 a5 : Nat) (a7 : Int) {R : RW} {w : World} (h : Q0K.M aa ab ac a0 a1 a6 a8 a9 a2 a3 a4 a5 a7 R w) : Calls Try.prog 27 #[.slice aa ab ac, .agg #[.int .i64 a0, .int .i64 a1, .int .u64 a6, .int .i64 a8, .int .i64 a9, .int .i64 a2, .slice a3 a4 a5, .int .u64 a7]] w fun e w' => ∃ v, e = .returned v ∧ R v w' :=
  Q09 follows (H := []) (args := [.slice aa ab ac, .agg #[.int .i64 a0, .int .i64 a1, .int .u64 a6, .int .i64 a8, .int .i64 a9, .int .i64 a2, .slice a3 a4 a5, .int .u64 a7]]) (cast (by kernel_rfl) h)

def Q0K.N (an : Option Addr) (ao am : Nat) (a6 aa ad ah ae a7 : Int) (ab : Option Addr) (ac a9 : Nat) (ag : Int) (R : RW) (w : World) : Prop :=
 ∀ (af : World), Ext no w af →
 Calls Try.prog 58 #[.agg #[.int .i64 a6, .int .i64 aa, .int .u64 ad, .int .i64 ah, .int .i64 ae, .int .i64 a7, .slice ab ac a9, .int .u64 ag]] af fun aj ak => ∃ (a0 : Option Addr) (a5 a4 : Nat) (a8 : Int), aj = .returned (.tuple #[.slice a0 a5 a4, .int .i64 a8]) ∧
 Calls Try.prog 29 #[.slice an ao am, .slice a0 a5 a4] ak fun ai al => ∃ (a1 : Option Addr) (a3 a2 : Nat), ai = .returned (.slice a1 a3 a2) ∧
 R (.slice a1 a3 a2) al

theorem Q0K.up (am : Option Addr) (an ak : Nat) (a0 a3 a6 ae a7 a1 : Int) (a4 : Option Addr) (a5 a2 : Nat) (ac : Int) {R : RW} {w : World} (h : Q0K.N am an ak a0 a3 a6 ae a7 a1 a4 a5 a2 ac R w) : Q0K.M am an ak a0 a3 a6 ae a7 a1 a4 a5 a2 ac R w := by
  unfold Q0K.M
  unfold Q0K.N at h
  refine Q00 fun aj al => ?_
  have ah := Blk.of_new al
  have au := ((Ext.refl no w)).size
  have ai := (Ext.refl no w).x_alloc al
  refine ⟨a0, a3, a6, ae, a7, a1, a4, a5, a2, ac, ⟨ah.celli 0 rfl rfl, ah.celli 1 rfl rfl, ah.celli 2 rfl rfl, ah.celli 3 rfl rfl, ah.celli 4 rfl rfl, ah.celli 5 rfl rfl, ah.celli 6 rfl rfl, ah.celli 7 rfl rfl, trivial⟩, ?_⟩
  have h := h aj ai
  refine h.mono fun ap aq h => ?_
  obtain ⟨a8, af, ad, ag, he, h⟩ := h
  refine ⟨a8, af, ad, ag, he, ?_⟩
  refine h.mono fun ao ar h => ?_
  obtain ⟨a9, ab, aa, he, h⟩ := h
  refine ⟨a9, ab, aa, he, ?_⟩
  exact h

theorem Q0K.go (aa : Option Addr) (ab ac : Nat) (a0 a1 a6 a8 a9 a2 : Int) (a3 : Option Addr) (a4 a5 : Nat) (a7 : Int) {R : RW} {w : World} (h : Q0K.N aa ab ac a0 a1 a6 a8 a9 a2 a3 a4 a5 a7 R w) : Calls Try.prog 27 #[.slice aa ab ac, .agg #[.int .i64 a0, .int .i64 a1, .int .u64 a6, .int .i64 a8, .int .i64 a9, .int .i64 a2, .slice a3 a4 a5, .int .u64 a7]] w fun e w' => ∃ v, e = .returned v ∧ R v w' := Q0K.ok aa ab ac a0 a1 a6 a8 a9 a2 a3 a4 a5 a7 (Q0K.up aa ab ac a0 a1 a6 a8 a9 a2 a3 a4 a5 a7 h)
def Q0t.M (b1 b7 b8 bb b9 b4 : Int) (b5 : Option Addr) (b6 b3 : Nat) (bc : Int) (R : RW) (w : World) : Prop :=
 thenW (w.alloc (.cells #[.int .i64 b1, .int .i64 b7, .int .u64 b8, .int .i64 bb, .int .i64 b9, .int .i64 b4, .slice b5 b6 b3, .int .u64 bc] 27)) fun be =>
 thenW (be.alloc (.cells #[.int .i64 0, .int .i64 0, .int .i64 0, .int .u64 0, .int .i64 0, .int .i64 0, .int .i64 0, .slice none 0 0, .int .u64 0, .int .i64 0, .int .i64 0, .int .u64 0, .int .i64 0, .int .i64 0, .int .i64 0, .slice none 0 0, .int .u64 0, .int .i64 0, .slice none 0 0, .int .u64 0] 38)) fun ba =>
 ∃ (ai aq aw b0 az an : Int) (ap : Option Addr) (ao au : Nat) (b2 : Int), cellsAt ba (blk w.heap.size) [.int .i64 ai, .int .i64 aq, .int .u64 aw, .int .i64 b0, .int .i64 az, .int .i64 an, .slice ap ao au, .int .u64 b2] 0 ∧
 putsK ba (blk be.heap.size) [.int .i64 1, .int .i64 ai, .int .i64 aq, .int .u64 aw, .int .i64 b0, .int .i64 az, .int .i64 an, .slice ap ao au, .int .u64 b2, .int .i64 0, .int .i64 0, .int .u64 0, .int .i64 0, .int .i64 0, .int .i64 0, .slice none 0 0, .int .u64 0, .int .i64 0, .slice none 0 0, .int .u64 0] 0 fun bd =>
 ∃ (ak a0 a4 ad ah af ab : Int) (a8 : Option Addr) (a9 a2 : Nat) (ag a1 aa ac ae aj a5 : Int) (a3 : Option Addr) (a6 a7 : Nat) (al ar : Int) (av : Option Addr) (ay ax : Nat) (am : Int), cellsAt bd (blk be.heap.size) [.int .i64 ak, .int .i64 a0, .int .i64 a4, .int .u64 ad, .int .i64 ah, .int .i64 af, .int .i64 ab, .slice a8 a9 a2, .int .u64 ag, .int .i64 a1, .int .i64 aa, .int .u64 ac, .int .i64 ae, .int .i64 aj, .int .i64 a5, .slice a3 a6 a7, .int .u64 al, .int .i64 ar, .slice av ay ax, .int .u64 am] 0 ∧
 R (.agg #[.int .i64 ak, .int .i64 a0, .int .i64 a4, .int .u64 ad, .int .i64 ah, .int .i64 af, .int .i64 ab, .slice a8 a9 a2, .int .u64 ag, .int .i64 a1, .int .i64 aa, .int .u64 ac, .int .i64 ae, .int .i64 aj, .int .i64 a5, .slice a3 a6 a7, .int .u64 al, .int .i64 ar, .slice av ay ax, .int .u64 am]) bd

theorem Q0t.ok (a0 a5 a6 a7 a8 a1 : Int) (a2 : Option Addr) (a4 a3 : Nat) (a9 : Int) {R : RW} {w : World} (h : Q0t.M a0 a5 a6 a7 a8 a1 a2 a4 a3 a9 R w) : Calls Try.prog 20 #[.agg #[.int .i64 a0, .int .i64 a5, .int .u64 a6, .int .i64 a7, .int .i64 a8, .int .i64 a1, .slice a2 a4 a3, .int .u64 a9]] w fun e w' => ∃ v, e = .returned v ∧ R v w' :=
  Q09 follows (H := []) (args := [.agg #[.int .i64 a0, .int .i64 a5, .int .u64 a6, .int .i64 a7, .int .i64 a8, .int .i64 a1, .slice a2 a4 a3, .int .u64 a9]]) (cast (by kernel_rfl) h)

def Q0t.N (a0 a5 a6 a7 a9 a1 : Int) (a2 : Option Addr) (a4 a3 : Nat) (aa : Int) (R : RW) (w : World) : Prop :=
 ∀ (a8 : World), Ext no w a8 →
 R (.agg #[.int .i64 1, .int .i64 a0, .int .i64 a5, .int .u64 a6, .int .i64 a7, .int .i64 a9, .int .i64 a1, .slice a2 a4 a3, .int .u64 aa, .int .i64 0, .int .i64 0, .int .u64 0, .int .i64 0, .int .i64 0, .int .i64 0, .slice none 0 0, .int .u64 0, .int .i64 0, .slice none 0 0, .int .u64 0]) a8

theorem Q0t.up (a0 a5 a7 a9 a8 a2 : Int) (a3 : Option Addr) (a4 a1 : Nat) (aa : Int) {R : RW} {w : World} (h : Q0t.N a0 a5 a7 a9 a8 a2 a3 a4 a1 aa R w) : Q0t.M a0 a5 a7 a9 a8 a2 a3 a4 a1 aa R w := by
  unfold Q0t.M
  unfold Q0t.N at h
  refine Q00 fun am e9 => ?_
  have ab := Blk.of_new e9
  have an := ((Ext.refl no w)).size
  have ag := (Ext.refl no w).x_alloc e9
  refine Q00 fun aj ae => ?_
  have a6 := Blk.of_new ae
  have ai := (ag).size
  have ah := Nat.ne_of_lt ab.lt
  have ab := ab.x_alloc ae
  have ac := ag.x_alloc ae
  refine ⟨a0, a5, a7, a9, a8, a2, a3, a4, a1, aa, ⟨ab.celli 0 rfl rfl, ab.celli 1 rfl rfl, ab.celli 2 rfl rfl, ab.celli 3 rfl rfl, ab.celli 4 rfl rfl, ab.celli 5 rfl rfl, ab.celli 6 rfl rfl, ab.celli 7 rfl rfl, trivial⟩, ?_⟩
  refine Q0S (k := 0) (j := 0) a6 (by exact Nat.le_of_ble_eq_true rfl) fun ad al ak => ?_
  have af := ac.x_puts al (.inr ai)
  have a6 := Q1c ak rfl
  refine ⟨1, a0, a5, a7, a9, a8, a2, a3, a4, a1, aa, 0, 0, 0, 0, 0, 0, none, 0, 0, 0, 0, none, 0, 0, 0, ⟨a6.celli 0 rfl rfl, a6.celli 1 rfl rfl, a6.celli 2 rfl rfl, a6.celli 3 rfl rfl, a6.celli 4 rfl rfl, a6.celli 5 rfl rfl, a6.celli 6 rfl rfl, a6.celli 7 rfl rfl, a6.celli 8 rfl rfl, a6.celli 9 rfl rfl, a6.celli 10 rfl rfl, a6.celli 11 rfl rfl, a6.celli 12 rfl rfl, a6.celli 13 rfl rfl, a6.celli 14 rfl rfl, a6.celli 15 rfl rfl, a6.celli 16 rfl rfl, a6.celli 17 rfl rfl, a6.celli 18 rfl rfl, a6.celli 19 rfl rfl, trivial⟩, ?_⟩
  have h := h ad af
  exact h

theorem Q0t.go (a0 a5 a6 a7 a8 a1 : Int) (a2 : Option Addr) (a4 a3 : Nat) (a9 : Int) {R : RW} {w : World} (h : Q0t.N a0 a5 a6 a7 a8 a1 a2 a4 a3 a9 R w) : Calls Try.prog 20 #[.agg #[.int .i64 a0, .int .i64 a5, .int .u64 a6, .int .i64 a7, .int .i64 a8, .int .i64 a1, .slice a2 a4 a3, .int .u64 a9]] w fun e w' => ∃ v, e = .returned v ∧ R v w' := Q0t.ok a0 a5 a6 a7 a8 a1 a2 a4 a3 a9 (Q0t.up a0 a5 a6 a7 a8 a1 a2 a4 a3 a9 h)
theorem Q0t.run (a0 a5 a6 a7 a8 a1 : Int) (a2 : Option Addr) (a4 a3 : Nat) (a9 : Int) {V : Value} {Q : World → Prop} {w : World} (h : Q0t.N a0 a5 a6 a7 a8 a1 a2 a4 a3 a9 (fun v w' => v = V ∧ Q w') w) : Calls Try.prog 20 #[.agg #[.int .i64 a0, .int .i64 a5, .int .u64 a6, .int .i64 a7, .int .i64 a8, .int .i64 a1, .slice a2 a4 a3, .int .u64 a9]] w (Ret V Q) := (Q0t.go a0 a5 a6 a7 a8 a1 a2 a4 a3 a9 h).mono fun e w' ⟨v, he, hv, hq⟩ => ⟨by rw [he, hv], hq⟩

abbrev Q0C.J1 (an : Option Addr) (ae : Nat) (R : RW) (ag : World) : Prop :=
 Calls Try.prog 26 #[.slice none 0 0, .int .u64 (IntKind.u64.wrap (ae : Int))] ag fun ai aj => ∃ (a4 : Option Addr) (a3 a5 : Nat), ai = .returned (.slice a4 a3 a5) ∧
 ∃ (I0 : Nat → List Value → World → Prop) (ao : Nat), I0 ao [.slice a4 a3 a5, .int .i64 0] aj ∧ ∀ (al : Nat) (a6 : World) (a7 : Option Addr) (a9 a8 : Nat) (aa : Int), I0 al [.slice a7 a9 a8, .int .i64 aa] a6 →
 bif decide (aa < (ae : Int)) then (
 an.elim False fun am =>
 0 ≤ (aa : Int) ∧ (aa : Int) < (ae : Int) ∧
 ∃ (ac : Option Addr) (ad ab : Nat), a6.cell? (am.add (Int.toNat aa * 1)) = some (.slice ac ad ab) ∧
 Calls Try.prog 29 #[.slice a7 a9 a8, .slice ac ad ab] a6 fun af ah => ∃ (a2 : Option Addr) (a0 a1 : Nat), af = .returned (.slice a2 a0 a1) ∧
 ∃ ak, ak < al ∧ I0 ak [.slice a2 a0 a1, .int .i64 (IntKind.i64.wrap (aa + 1))] ah) else (
 R (.tuple #[.slice a7 a9 a8, .int .i64 0]) a6)

def Q0C.M (a2 : Option Addr) (a1 a4 : Nat) (R : RW) (w : World) : Prop :=
 bif decide ((a1 : Int) > 1000) then (
 R (.tuple #[.slice none 0 0, .int .i64 3]) w) else (
 Calls Try.prog 52 #[.slice a2 a1 a4, .func (.func 53) #[] #[]] w fun a5 a3 => ∃ (a0 : Bool), a5 = .returned (.bool a0) ∧
 bif a0 then (
 R (.tuple #[.slice none 0 0, .int .i64 3]) a3) else (
 Q0C.J1 a2 a1 R a3))

theorem Q0C.ok (a2 : Option Addr) (a1 a0 : Nat) {R : RW} {w : World} (h : Q0C.M a2 a1 a0 R w) : Calls Try.prog 21 #[.slice a2 a1 a0] w fun e w' => ∃ v, e = .returned v ∧ R v w' :=
  Q09 follows (H := [(0, [18, 19], [(4, (.one .slice)), (20, (.one (.int .i64)))])]) (args := [.slice a2 a1 a0]) (cast (by kernel_rfl) h)

def Q0C.N (ak : Option Addr) (a9 ap : Nat) (R : RW) (w : World) : Prop :=
 ((a9 : Int) > 1000 →
 R (.tuple #[.slice none 0 0, .int .i64 3]) w) ∧
 ((a9 : Int) ≤ 1000 →
 Calls Try.prog 52 #[.slice ak a9 ap, .func (.func 53) #[] #[]] w fun ar am => ∃ (a0 : Bool), ar = .returned (.bool a0) ∧
 (a0 = true →
 R (.tuple #[.slice none 0 0, .int .i64 3]) am) ∧
 (a0 = false →
 Calls Try.prog 26 #[.slice none 0 0, .int .u64 (IntKind.u64.wrap (a9 : Int))] am fun aq ao => ∃ (a6 : Option Addr) (a7 a8 : Nat), aq = .returned (.slice a6 a7 a8) ∧
 ∃ (I0 : Nat → List Value → World → Prop) (an : Nat), I0 an [.slice a6 a7 a8, .int .i64 0] ao ∧ ∀ (aj : Nat) (a4 : World) (ab : Option Addr) (ac aa : Nat) (a5 : Int), I0 aj [.slice ab ac aa, .int .i64 a5] a4 →
 (a5 < (a9 : Int) →
 ∃ al : Addr, ak = some al ∧
 0 ≤ (a5 : Int) ∧ (a5 : Int) < (a9 : Int) ∧
 ∃ (ae : Option Addr) (af ad : Nat), a4.cell? (al.add (Int.toNat a5 * 1)) = some (.slice ae af ad) ∧
 Calls Try.prog 29 #[.slice ab ac aa, .slice ae af ad] a4 fun ag ah => ∃ (a2 : Option Addr) (a1 a3 : Nat), ag = .returned (.slice a2 a1 a3) ∧
 (-9223372036854775808 : Int) ≤ (a5 + 1) ∧ (a5 + 1) < 9223372036854775808 ∧
 ∃ ai, ai < aj ∧ I0 ai [.slice a2 a1 a3, .int .i64 (a5 + 1)] ah) ∧
 ((a9 : Int) ≤ a5 →
 R (.tuple #[.slice ab ac aa, .int .i64 0]) a4)))

theorem Q0C.up (ai : Option Addr) (ah aj : Nat) {R : RW} {w : World} (h : Q0C.N ai ah aj R w) : Q0C.M ai ah aj R w := by
  unfold Q0C.M
  unfold Q0C.N at h
  refine bif_of (fun c2 => ?_) (fun c2 => ?_)
  ·have h := h.1 (of_decide_eq_true c2)
   exact h
  have h := h.2 (Int.not_lt.1 (of_decide_eq_false c2))
  refine h.mono fun b0 az h => ?_
  obtain ⟨a0, he, h⟩ := h
  refine ⟨a0, he, ?_⟩
  refine bif_of (fun c6 => ?_) (fun c6 => ?_)
  ·have h := h.1 c6
   exact h
  have h := h.2 c6
  first | unfold Q0C.J1 | skip
  refine h.mono fun ay aw h => ?_
  obtain ⟨a4, a5, a6, he, h⟩ := h
  refine ⟨a4, a5, a6, he, ?_⟩
  obtain ⟨I0, ao, h0, h⟩ := h
  refine ⟨I0, ao, h0, fun an aa af ag ad ar hI => ?_⟩
  have h := h an aa af ag ad ar hI
  refine bif_fo (fun ab => ?_) (fun ab => ?_)
  ·have h := h.2 (Int.not_lt.1 (of_decide_eq_false ab))
   exact h
  have h := h.1 (of_decide_eq_true ab)
  obtain ⟨ax, a8, h⟩ := h
  refine Q0p a8 ?_
  obtain ⟨ap, au, h⟩ := h
  refine ⟨ap, au, ?_⟩
  obtain ⟨ac, ae, a9, a7, h⟩ := h
  refine ⟨ac, ae, a9, a7, ?_⟩
  refine h.mono fun al am h => ?_
  obtain ⟨a2, a1, a3, he, h⟩ := h
  refine ⟨a2, a1, a3, he, ?_⟩
  obtain ⟨av, aq, h⟩ := h
  try rw [w64 av aq]
  obtain ⟨ak, hk, h⟩ := h
  exact ⟨ak, hk, h⟩

theorem Q0C.go (a2 : Option Addr) (a1 a0 : Nat) {R : RW} {w : World} (h : Q0C.N a2 a1 a0 R w) : Calls Try.prog 21 #[.slice a2 a1 a0] w fun e w' => ∃ v, e = .returned v ∧ R v w' := Q0C.ok a2 a1 a0 (Q0C.up a2 a1 a0 h)
abbrev Q0G.J1 (ad : Option Addr) (ae ag : Nat) (af : Int) (I0 : Nat → List Value → World → Prop) (ah : Nat) (a4 : Option Addr) (R : RW) (aa : World) : Prop :=
 Calls Try.prog 55 #[.pointer a4, .int .i64 4000] aa fun a9 a6 => ∃ (a2 : Option Addr) (a1 a0 : Nat), a9 = .returned (.slice a2 a1 a0) ∧
 thenW (a6.alloc (.cells #[.slice a2 a1 a0] 25)) fun ab =>
 ∃ (a8 : Option Addr) (a7 a3 : Nat) (a5 : World), (Builtin.append_ #[53, 53] 53 #[.slice ad ae ag, .slice (some (blk a6.heap.size)) 1 1]).run Try.prog ab = .ok (.slice a8 a7 a3) a5 ∧
 ∃ ac, ac < ah ∧ I0 ac [.slice a8 a7 a3, .int .i64 (IntKind.i64.wrap (af + 1))] a5

def Q0G.M (ab : Option Addr) (ac ah : Nat) (R : RW) (w : World) : Prop :=
 Calls Try.prog 33 #[.slice ab ac ah] w fun ad af => ∃ (a1 : Option Addr), ad = .returned (.pointer a1) ∧
 Calls Try.prog 54 #[.pointer a1, .int .i64 1000] af fun ae aa => ∃ (a2 : Int), ae = .returned (.int .i64 a2) ∧
 ∃ (I0 : Nat → List Value → World → Prop) (ag : Nat), I0 ag [.slice none 0 0, .int .i64 0] aa ∧ ∀ (a9 : Nat) (a3 : World) (a8 : Option Addr) (a5 a6 : Nat) (t9 : Int), I0 a9 [.slice a8 a5 a6, .int .i64 t9] a3 →
 bif decide (t9 < a2) then (
 Q0G.J1 a8 a5 a6 t9 I0 a9 a1 R a3) else (
 Calls Try.prog 56 #[.pointer a1] a3 fun a7 a4 => ∃ (a0 : Int), a7 = .returned (.int .i64 a0) ∧
 bif a0 != 0 then (
 R (.tuple #[.slice none 0 0, .int .i64 a0]) a4) else (
 R (.tuple #[.slice a8 a5 a6, .int .i64 0]) a4))

theorem Q0G.ok (a0 : Option Addr) (a1 a2 : Nat) {R : RW} {w : World} (h : Q0G.M a0 a1 a2 R w) : Calls Try.prog 23 #[.slice a0 a1 a2] w fun e w' => ∃ v, e = .returned v ∧ R v w' :=
  Q09 follows (H := [(0, [4, 9], [(2, (.one .slice)), (10, (.one (.int .i64)))])]) (args := [.slice a0 a1 a2]) (cast (by kernel_rfl) h)

def Q0G.N (aq : Option Addr) (au an : Nat) (R : RW) (w : World) : Prop :=
 Calls Try.prog 33 #[.slice aq au an] w fun ao am => ∃ (a5 : Option Addr), ao = .returned (.pointer a5) ∧
 Calls Try.prog 54 #[.pointer a5, .int .i64 1000] am fun av ap => ∃ (a4 : Int), av = .returned (.int .i64 a4) ∧
 ∃ (I0 : Nat → List Value → World → Prop) (ar : Nat), I0 ar [.slice none 0 0, .int .i64 0] ap ∧ ∀ (al : Nat) (a7 : World) (af : Option Addr) (ag ah : Nat) (t9 : Int), I0 al [.slice af ag ah, .int .i64 t9] a7 →
 (t9 < a4 →
 Calls Try.prog 55 #[.pointer a5, .int .i64 4000] a7 fun ai a8 => ∃ (a3 : Option Addr) (a1 a2 : Nat), ai = .returned (.slice a3 a1 a2) ∧
 ∀ (a6 : World) (ae : Nat), Ext no a8 a6 → Blk a6 ae 25 [.slice a3 a1 a2] → a8.heap.size ≤ ae → ae < a6.heap.size →
 ∃ (a9 : Option Addr) (ad aa : Nat) (ab : World), (Builtin.append_ #[53, 53] 53 #[.slice af ag ah, .slice (some (blk ae)) 1 1]).run Try.prog a6 = .ok (.slice a9 ad aa) ab ∧
 (-9223372036854775808 : Int) ≤ (t9 + 1) ∧ (t9 + 1) < 9223372036854775808 ∧
 ∃ ak, ak < al ∧ I0 ak [.slice a9 ad aa, .int .i64 (t9 + 1)] ab) ∧
 (a4 ≤ t9 →
 Calls Try.prog 56 #[.pointer a5] a7 fun aj ac => ∃ (a0 : Int), aj = .returned (.int .i64 a0) ∧
 (a0 ≠ 0 →
 R (.tuple #[.slice none 0 0, .int .i64 a0]) ac) ∧
 (a0 = 0 →
 R (.tuple #[.slice af ag ah, .int .i64 0]) ac))

theorem Q0G.up (ah : Option Addr) (ai ag : Nat) {R : RW} {w : World} (h : Q0G.N ah ai ag R w) : Q0G.M ah ai ag R w := by
  unfold Q0G.M
  unfold Q0G.N at h
  refine h.mono fun ax aw h => ?_
  obtain ⟨a6, he, h⟩ := h
  refine ⟨a6, he, ?_⟩
  refine h.mono fun az ay h => ?_
  obtain ⟨a4, he, h⟩ := h
  refine ⟨a4, he, ?_⟩
  obtain ⟨I0, ap, h0, h⟩ := h
  refine ⟨I0, ap, h0, fun ao a8 aj al am t9 hI => ?_⟩
  have h := h ao a8 aj al am t9 hI
  refine bif_fo (fun ad => ?_) (fun ad => ?_)
  ·have h := h.2 (Int.not_lt.1 (of_decide_eq_false ad))
   refine h.mono fun aq au h => ?_
   obtain ⟨a5, he, h⟩ := h
   refine ⟨a5, he, ?_⟩
   refine bif_of (fun ac => ?_) (fun ac => ?_)
   ·have h := h.1 (bne_t ac)
    exact h
   have h := h.2 (bne_f ac)
   exact h
  have h := h.1 (of_decide_eq_true ad)
  first | unfold Q0G.J1 | skip
  refine h.mono fun ar a3 h => ?_
  obtain ⟨a2, a0, a1, he, h⟩ := h
  refine ⟨a2, a0, a1, he, ?_⟩
  refine Q00 fun a9 af => ?_
  have h := h a9 a3.heap.size ((Ext.refl no a3).x_alloc af) (Blk.of_new af) ((Ext.refl no a3)).size (Q0s af)
  obtain ⟨a7, ae, aa, ab, hr, h⟩ := h
  refine ⟨a7, ae, aa, ab, hr, ?_⟩
  obtain ⟨av, an, h⟩ := h
  try rw [w64 av an]
  obtain ⟨ak, hk, h⟩ := h
  exact ⟨ak, hk, h⟩

theorem Q0G.go (a0 : Option Addr) (a1 a2 : Nat) {R : RW} {w : World} (h : Q0G.N a0 a1 a2 R w) : Calls Try.prog 23 #[.slice a0 a1 a2] w fun e w' => ∃ v, e = .returned v ∧ R v w' := Q0G.ok a0 a1 a2 (Q0G.up a0 a1 a2 h)
abbrev Q05.J1 (ai : Option Addr) (ah al : Nat) (ab : Int) (I0 : Nat → List Value → World → Prop) (aj : Option Addr) (ak af : Nat) (R : RW) (a9 : World) : Prop :=
 aj.elim False fun ag =>
 0 ≤ (ab : Int) ∧ (ab : Int) < (ak : Int) ∧
 ∃ (a3 : Option Addr) (a8 a5 : Nat), a9.cell? (ag.add (Int.toNat ab * 1)) = some (.slice a3 a8 a5) ∧
 Calls Try.prog 42 #[.slice a3 a8 a5] a9 fun ac ad => ∃ (a1 : Option Addr) (a0 a2 : Nat), ac = .returned (.slice a1 a0 a2) ∧
 ∃ (a6 : Option Addr) (a4 a7 : Nat) (aa : World), (Builtin.append_ #[25, 25] 25 #[.slice ai ah al, .slice a1 a0 a2]).run Try.prog ad = .ok (.slice a6 a4 a7) aa ∧
 ∃ ae, ae < af ∧ I0 ae [.slice a6 a4 a7, .int .i64 (IntKind.i64.wrap (ab + 1))] aa

abbrev Q05.J2 (a7 : Option Addr) (ab aa : Nat) (a2 : Int) (I0 : Nat → List Value → World → Prop) (a5 : Option Addr) (a6 a9 : Nat) (R : RW) (a0 : World) : Prop :=
 a5.elim False fun a8 =>
 0 ≤ (a2 : Int) ∧ (a2 : Int) < (a6 : Int) ∧
 ∃ (a4 : Option Addr) (a1 a3 : Nat), a0.cell? (a8.add (Int.toNat a2 * 1)) = some (.slice a4 a1 a3) ∧
 bif decide ((a1 : Int) > 4000) then (
 R (.tuple #[.slice none 0 0, .int .i64 3]) a0) else (
 Q05.J1 a7 ab aa a2 I0 a5 a6 a9 R a0)

abbrev Q05.J3 (ad : Option Addr) (aa : Nat) (R : RW) (a7 : World) : Prop :=
 Calls Try.prog 39 #[.int .u64 (IntKind.u64.wrap (aa : Int))] a7 fun a8 ab => ∃ (a1 : Option Addr) (a0 a2 : Nat), a8 = .returned (.slice a1 a0 a2) ∧
 ∃ (I0 : Nat → List Value → World → Prop) (ae : Nat), I0 ae [.slice a1 a0 a2, .int .i64 0] ab ∧ ∀ (ac : Nat) (a6 : World) (a4 : Option Addr) (a3 a5 : Nat) (a9 : Int), I0 ac [.slice a4 a3 a5, .int .i64 a9] a6 →
 bif decide (a9 < (aa : Int)) then (
 Q05.J2 a4 a3 a5 a9 I0 ad aa ac R a6) else (
 R (.tuple #[.slice a4 a3 a5, .int .i64 0]) a6)

def Q05.M (a1 : Option Addr) (a0 a2 : Nat) (R : RW) (w : World) : Prop :=
 bif decide ((a0 : Int) > 1000) then (
 R (.tuple #[.slice none 0 0, .int .i64 3]) w) else (
 Q05.J3 a1 a0 R w)

theorem Q05.ok (a2 : Option Addr) (a1 a0 : Nat) {R : RW} {w : World} (h : Q05.M a2 a1 a0 R w) : Calls Try.prog 22 #[.slice a2 a1 a0] w fun e w' => ∃ v, e = .returned v ∧ R v w' :=
  Q09 follows (H := [(0, [0], [(4, (.one .slice)), (5, (.one (.int .i64)))])]) (args := [.slice a2 a1 a0]) (cast (by kernel_rfl) h)

def Q05.N (ap : Option Addr) (a7 au : Nat) (R : RW) (w : World) : Prop :=
 ((a7 : Int) > 1000 →
 R (.tuple #[.slice none 0 0, .int .i64 3]) w) ∧
 ((a7 : Int) ≤ 1000 →
 Calls Try.prog 39 #[.int .u64 (IntKind.u64.wrap (a7 : Int))] w fun ar aq => ∃ (a5 : Option Addr) (a6 a4 : Nat), ar = .returned (.slice a5 a6 a4) ∧
 ∃ (I0 : Nat → List Value → World → Prop) (m8 : Nat), I0 m8 [.slice a5 a6 a4, .int .i64 0] aq ∧ ∀ (m9 : Nat) (a3 : World) (aj : Option Addr) (ai an : Nat) (i7 : Int), I0 m9 [.slice aj ai an, .int .i64 i7] a3 →
 (i7 < (a7 : Int) →
 ∃ ah : Addr, ap = some ah ∧
 0 ≤ (i7 : Int) ∧ (i7 : Int) < (a7 : Int) ∧
 ∃ (ag : Option Addr) (a8 al : Nat), a3.cell? (ah.add (Int.toNat i7 * 1)) = some (.slice ag a8 al) ∧
 ((a8 : Int) > 4000 →
 R (.tuple #[.slice none 0 0, .int .i64 3]) a3) ∧
 ((a8 : Int) ≤ 4000 →
 0 ≤ (i7 : Int) ∧ (i7 : Int) < (a7 : Int) ∧
 ∃ (ae : Option Addr) (ab ad : Nat), a3.cell? (ah.add (Int.toNat i7 * 1)) = some (.slice ae ab ad) ∧
 Calls Try.prog 42 #[.slice ae ab ad] a3 fun ak am => ∃ (a0 : Option Addr) (a1 a2 : Nat), ak = .returned (.slice a0 a1 a2) ∧
 ∃ (af : Option Addr) (ac aa : Nat) (a9 : World), (Builtin.append_ #[25, 25] 25 #[.slice aj ai an, .slice a0 a1 a2]).run Try.prog am = .ok (.slice af ac aa) a9 ∧
 (-9223372036854775808 : Int) ≤ (i7 + 1) ∧ (i7 + 1) < 9223372036854775808 ∧
 ∃ ao, ao < m9 ∧ I0 ao [.slice af ac aa, .int .i64 (i7 + 1)] a9)) ∧
 ((a7 : Int) ≤ i7 →
 R (.tuple #[.slice aj ai an, .int .i64 0]) a3))

theorem Q05.up (ap : Option Addr) (ao aq : Nat) {R : RW} {w : World} (h : Q05.N ap ao aq R w) : Q05.M ap ao aq R w := by
  unfold Q05.M
  unfold Q05.N at h
  refine bif_of (fun c2 => ?_) (fun c2 => ?_)
  ·have h := h.1 (of_decide_eq_true c2)
   exact h
  have h := h.2 (Int.not_lt.1 (of_decide_eq_false c2))
  first | unfold Q05.J3 | skip
  refine h.mono fun b3 b2 h => ?_
  obtain ⟨a5, a6, a3, he, h⟩ := h
  refine ⟨a5, a6, a3, he, ?_⟩
  obtain ⟨I0, m8, h0, h⟩ := h
  refine ⟨I0, m8, h0, fun m9 ae au ar az i7 hI => ?_⟩
  have h := h m9 ae au ar az i7 hI
  refine bif_fo (fun aa => ?_) (fun aa => ?_)
  ·have h := h.2 (Int.not_lt.1 (of_decide_eq_false aa))
   exact h
  have h := h.1 (of_decide_eq_true aa)
  first | unfold Q05.J2 | skip
  obtain ⟨b1, a4, h⟩ := h
  refine Q0p a4 ?_
  obtain ⟨ad, ah, h⟩ := h
  refine ⟨ad, ah, ?_⟩
  obtain ⟨a7, a9, aj, an, h⟩ := h
  refine ⟨a7, a9, aj, an, ?_⟩
  refine bif_of (fun ag => ?_) (fun ag => ?_)
  ·have h := h.1 (of_decide_eq_true ag)
   exact h
  have h := h.2 (Int.not_lt.1 (of_decide_eq_false ag))
  first | unfold Q05.J1 | skip
  refine Q0p a4 ?_
  obtain ⟨ad, ah, h⟩ := h
  refine ⟨ad, ah, ?_⟩
  obtain ⟨al, af, ak, ab, h⟩ := h
  refine ⟨al, af, ak, ab, ?_⟩
  refine h.mono fun av ax h => ?_
  obtain ⟨a0, a1, a2, he, h⟩ := h
  refine ⟨a0, a1, a2, he, ?_⟩
  obtain ⟨am, ai, ac, a8, hr, h⟩ := h
  refine ⟨am, ai, ac, a8, hr, ?_⟩
  obtain ⟨b0, aw, h⟩ := h
  try rw [w64 b0 aw]
  obtain ⟨ay, hk, h⟩ := h
  exact ⟨ay, hk, h⟩

theorem Q05.go (a2 : Option Addr) (a1 a0 : Nat) {R : RW} {w : World} (h : Q05.N a2 a1 a0 R w) : Calls Try.prog 22 #[.slice a2 a1 a0] w fun e w' => ∃ v, e = .returned v ∧ R v w' := Q05.ok a2 a1 a0 (Q05.up a2 a1 a0 h)
abbrev Q0e.J1 (ad : Option Addr) (af ac : Nat) (ae : Int) (I0 : Nat → List Value → World → Prop) (m9 : Nat) (w : World) (R : RW) (a8 : World) : Prop :=
 Calls Try.prog 44 #[.pointer (some (blk w.heap.size)), .int .i64 4000] a8 fun aa a3 => ∃ (a0 : Option Addr) (a1 a2 : Nat), aa = .returned (.slice a0 a1 a2) ∧
 thenW (a3.alloc (.cells #[.slice a0 a1 a2] 25)) fun a9 =>
 ∃ (a6 : Option Addr) (a5 a4 : Nat) (a7 : World), (Builtin.append_ #[53, 53] 53 #[.slice ad af ac, .slice (some (blk a3.heap.size)) 1 1]).run Try.prog a9 = .ok (.slice a6 a5 a4) a7 ∧
 ∃ ab, ab < m9 ∧ I0 ab [.slice a6 a5 a4, .int .i64 (IntKind.i64.wrap (ae + 1))] a7

def Q0e.M (ac : Option Addr) (ad ah : Nat) (R : RW) (w : World) : Prop :=
 thenW (w.alloc (.cells #[.slice ac ad ah, .int .i64 0] 83)) fun af =>
 Calls Try.prog 43 #[.pointer (some (blk w.heap.size)), .int .i64 1000] af fun ae ag => ∃ (a6 : Int), ae = .returned (.int .i64 a6) ∧
 ∃ (I0 : Nat → List Value → World → Prop) (m8 : Nat), I0 m8 [.slice none 0 0, .int .i64 0] ag ∧ ∀ (m9 : Nat) (a5 : World) (a2 : Option Addr) (a1 a0 : Nat) (i7 : Int), I0 m9 [.slice a2 a1 a0, .int .i64 i7] a5 →
 bif decide (i7 < a6) then (
 ∃ (a9 : Int), a5.cell? ((blk w.heap.size).add 1) = some (.int .i64 a9) ∧
 bif a9 == 0 then (
 Q0e.J1 a2 a1 a0 i7 I0 m9 w R a5) else (
 Calls Try.prog 46 #[.pointer (some (blk w.heap.size))] a5 fun aa a7 => ∃ (a3 : Int), aa = .returned (.int .i64 a3) ∧
 bif a3 != 0 then (
 R (.tuple #[.slice none 0 0, .int .i64 a3]) a7) else (
 R (.tuple #[.slice a2 a1 a0, .int .i64 0]) a7))) else (
 Calls Try.prog 46 #[.pointer (some (blk w.heap.size))] a5 fun ab a8 => ∃ (a4 : Int), ab = .returned (.int .i64 a4) ∧
 bif a4 != 0 then (
 R (.tuple #[.slice none 0 0, .int .i64 a4]) a8) else (
 R (.tuple #[.slice a2 a1 a0, .int .i64 0]) a8))

theorem Q0e.ok (a0 : Option Addr) (a1 a2 : Nat) {R : RW} {w : World} (h : Q0e.M a0 a1 a2 R w) : Calls Try.prog 24 #[.slice a0 a1 a2] w fun e w' => ∃ v, e = .returned v ∧ R v w' :=
  Q09 follows (H := [(0, [4, 5], [(6, (.one .slice)), (7, (.one (.int .i64)))])]) (args := [.slice a0 a1 a2]) (cast (by kernel_rfl) h)

def Q0e.N (au : Option Addr) (aw ar : Nat) (R : RW) (w : World) : Prop :=
 ∀ (aj : World) (q3 : Nat), Ext no w aj → Blk aj q3 83 [.slice au aw ar, .int .i64 0] → w.heap.size ≤ q3 → q3 < aj.heap.size →
 Calls Try.prog 43 #[.pointer (some (blk q3)), .int .i64 1000] aj fun av aq => ∃ (a8 : Int), av = .returned (.int .i64 a8) ∧
 ∃ (I0 : Nat → List Value → World → Prop) (m9 : Nat), I0 m9 [.slice none 0 0, .int .i64 0] aq ∧ ∀ (ap : Nat) (a9 : World) (a4 : Option Addr) (a2 a3 : Nat) (i8 : Int), I0 ap [.slice a4 a2 a3, .int .i64 i8] a9 →
 (i8 < a8 →
 ∃ (ab : Int), a9.cell? ((blk q3).add 1) = some (.int .i64 ab) ∧
 (ab = 0 →
 Calls Try.prog 44 #[.pointer (some (blk q3)), .int .i64 4000] a9 fun am ah => ∃ (a5 : Option Addr) (a7 a6 : Nat), am = .returned (.slice a5 a7 a6) ∧
 ∀ (aa : World) (ak : Nat), Ext no ah aa → Blk aa ak 25 [.slice a5 a7 a6] → ah.heap.size ≤ ak → ak < aa.heap.size →
 ∃ (ag : Option Addr) (af ae : Nat) (ac : World), (Builtin.append_ #[53, 53] 53 #[.slice a4 a2 a3, .slice (some (blk ak)) 1 1]).run Try.prog aa = .ok (.slice ag af ae) ac ∧
 (-9223372036854775808 : Int) ≤ (i8 + 1) ∧ (i8 + 1) < 9223372036854775808 ∧
 ∃ ao, ao < ap ∧ I0 ao [.slice ag af ae, .int .i64 (i8 + 1)] ac) ∧
 (ab ≠ 0 →
 Calls Try.prog 46 #[.pointer (some (blk q3))] a9 fun al ad => ∃ (a1 : Int), al = .returned (.int .i64 a1) ∧
 (a1 ≠ 0 →
 R (.tuple #[.slice none 0 0, .int .i64 a1]) ad) ∧
 (a1 = 0 →
 R (.tuple #[.slice a4 a2 a3, .int .i64 0]) ad))) ∧
 (a8 ≤ i8 →
 Calls Try.prog 46 #[.pointer (some (blk q3))] a9 fun an ai => ∃ (a0 : Int), an = .returned (.int .i64 a0) ∧
 (a0 ≠ 0 →
 R (.tuple #[.slice none 0 0, .int .i64 a0]) ai) ∧
 (a0 = 0 →
 R (.tuple #[.slice a4 a2 a3, .int .i64 0]) ai))

theorem Q0e.up (ao : Option Addr) (ap an : Nat) {R : RW} {w : World} (h : Q0e.N ao ap an R w) : Q0e.M ao ap an R w := by
  unfold Q0e.M
  unfold Q0e.N at h
  refine Q00 fun aq e2 => ?_
  have h := h aq w.heap.size ((Ext.refl no w).x_alloc e2) (Blk.of_new e2) ((Ext.refl no w)).size (Q0s e2)
  refine h.mono fun b3 b2 h => ?_
  obtain ⟨a7, he, h⟩ := h
  refine ⟨a7, he, ?_⟩
  obtain ⟨I0, m9, h0, h⟩ := h
  refine ⟨I0, m9, h0, fun az ad a8 a5 a6 i8 hI => ?_⟩
  have h := h az ad a8 a5 a6 i8 hI
  refine bif_fo (fun aa => ?_) (fun aa => ?_)
  ·have h := h.2 (Int.not_lt.1 (of_decide_eq_false aa))
   refine h.mono fun ax b1 h => ?_
   obtain ⟨a3, he, h⟩ := h
   refine ⟨a3, he, ?_⟩
   refine bif_of (fun ag => ?_) (fun ag => ?_)
   ·have h := h.1 (bne_t ag)
    exact h
   have h := h.2 (bne_f ag)
   exact h
  have h := h.1 (of_decide_eq_true aa)
  obtain ⟨ac, al, h⟩ := h
  refine ⟨ac, al, ?_⟩
  refine bif_fo (fun af => ?_) (fun af => ?_)
  ·have h := h.2 (beq_f af)
   refine h.mono fun av ar h => ?_
   obtain ⟨a4, he, h⟩ := h
   refine ⟨a4, he, ?_⟩
   refine bif_of (fun am => ?_) (fun am => ?_)
   ·have h := h.1 (bne_t am)
    exact h
   have h := h.2 (bne_f am)
   exact h
  have h := h.1 (beq_t af)
  first | unfold Q0e.J1 | skip
  refine h.mono fun aw a9 h => ?_
  obtain ⟨a0, a2, a1, he, h⟩ := h
  refine ⟨a0, a2, a1, he, ?_⟩
  refine Q00 fun ak ai => ?_
  have h := h ak a9.heap.size ((Ext.refl no a9).x_alloc ai) (Blk.of_new ai) ((Ext.refl no a9)).size (Q0s ai)
  obtain ⟨aj, ah, ae, ab, hr, h⟩ := h
  refine ⟨aj, ah, ae, ab, hr, ?_⟩
  obtain ⟨b0, au, h⟩ := h
  try rw [w64 b0 au]
  obtain ⟨ay, hk, h⟩ := h
  exact ⟨ay, hk, h⟩

theorem Q0e.go (a0 : Option Addr) (a1 a2 : Nat) {R : RW} {w : World} (h : Q0e.N a0 a1 a2 R w) : Calls Try.prog 24 #[.slice a0 a1 a2] w fun e w' => ∃ v, e = .returned v ∧ R v w' := Q0e.ok a0 a1 a2 (Q0e.up a0 a1 a2 h)
end Go.Proofs.Ytoempemllkebkaa
namespace Go.Mx
theorem Q3K {P : Program} {t e : TypeId} {size : Nat} {α : Type} {f : α → List Value} {G : World → α → Prop} (ht : P.underlying t = some (.slice e)) (hs : P.cellsOf e = size) (he : Opens P e fun W cs => ∃ x, cs = f x ∧ G W x) :
    Opens P t fun W cs => ∃ (a : Option Addr) (c : Nat) (l : List α), cs = [.slice a l.length c] ∧ l.length ≤ c ∧ c ≤ maxLen ∧ RowAt W a (l.flatMap f) ∧ ∀ x ∈ l, G W x :=
  (Q2c (size := size) ht hs he).mono fun W cs ⟨a, l, c, rows, h1, h2, h3, h4, h5, h6⟩ => by
    obtain ⟨xs, h7, h8⟩ := rows_of (rows := rows) f (G W) fun r hr => (h6 r hr).2
    subst h7
    rw [List.length_map] at h4
    subst h4
    exact ⟨a, c, xs, h1, h2, h3, by rw [List.flatMap_def]; exact h5, h8⟩
section
variable {α : Type} {f : α → List Value} {n : Nat} {w : World} {a : Option Addr} {l : List α}
end
end Go.Mx
namespace Go.Mx
section
variable {K K1 : Nat → Prop} {w w1 w' w0 : World} {o o1 o' o0 : Own} {p q j k N : Nat} {e : TypeId} {size n c : Nat} {a : Option Addr} {cs : List Value}
end
end Go.Mx
namespace Go.Mx
open Go
section
variable {P : Program} {w w' : World} {q k : Nat} {t e : TypeId} {cs vs : List Value}
theorem Grows.ne {w : World} {o : Own} {sz n c g b : Nat} {a : Option Addr} {cs' : List Value} (h : Grows e sz w o g a n c cs) (hb : Blk w b t cs') (hte : t ≠ e) : ∀ ad, a = some ad → ad.block ≠ b := by
  intro ad ha hq
  rcases h.own.2 with ⟨hv, h0⟩ | ⟨q, cap, cur, hv, hle, hgb, _⟩
  · cases hv; cases ha
  · cases hv; cases ha
    simp only at hq
    subst hq
    unfold Blk at hb
    rw [hb] at hgb
    cases hgb
    exact hte rfl
end
end Go.Mx
set_option maxRecDepth 20000
namespace Go.Proofs.Ytoempemllkebkaa
open Go Go.Mx Go.Proofs
open W (OwnB Rd numR countR doneR)
theorem inf1 : (Try.prog.info? 1).map (fun i => (i.zero, i.size, i.bytes)) = some (some (.nilFunc), 1, 8) := by kernel_rfl
def FP.zero : FP := ⟨Fr.zero, none, 0, none, 0, none, 0⟩
structure FP.own (w : World) (o : Own) (x : FP) : Prop where
  e : Row w o x.ea (bytesV x.r.e.body)
  f : Row w o x.fa (bytesV x.r.f.body)
  v : Row w o x.va (hsC x.r.v)
def rgC (p : Nat) (x : FP) (la : Option Addr) (n c : Nat) : List Value := .pointer (some (blk p)) :: (x.C ++ [.slice la n c])
structure RG (w : World) (o : Own) (p q : Nat) (bs : List UInt8) (k : Int) (x : FP) (L : List Value) : Prop where
  rd : Rd w p bs k
  mem : ∃ la lc, Blk w q 72 (rgC p x la L.length lc) ∧ Go.Mx.Grows 1 1 w o q la L.length lc L ∧ (∀ ad, la = some ad → p < ad.block)
  tp : o p = some p
  tq : o q = some q
  pq : p < q
  ok : x.own w o
  fl : bs.length < 1000000
section
variable {w w' w1 : World} {o o' o1 : Own} {p q b t : Nat} {bs : List UInt8} {k : Int} {x : FP} {L : List Value} {K : Nat → Prop}
theorem FP.own.at (h : x.own w o) : x.at w := ⟨h.e.1, h.f.1, h.v.1⟩
theorem FP.own.step (h : x.own w o) (s : Step K w o w' o') : x.own w' o' := ⟨h.e.step s, h.f.step s, h.v.step s⟩
theorem FP.own.zero (w : World) (o : Own) : FP.zero.own w o := ⟨Row.nil _ _ _, Row.nil _ _ _, Row.nil _ _ _⟩
theorem RG.lt (h : RG w o p q bs k x L) : q < w.heap.size := by obtain ⟨_, _, b, _⟩ := h.mem; exact b.lt
theorem RG.no (h : RG w o p q bs k x L) (s : Step no w o w' o') (X : Ext no w w') : RG w' o' p q bs k x L := by
  obtain ⟨la, lc, b, g, hl⟩ := h.mem
  exact ⟨h.rd.no X, ⟨la, lc, s.blk b h.tq id, g.step s id, hl⟩, by rw [s.own h.rd.lt]; exact h.tp, by rw [s.own b.lt]; exact h.tq, h.pq, h.ok.step s, h.fl⟩
theorem RG.read (h : RG w o p q bs k x L) (ok : Tags w o) (X : Ext (fun b => b = p) w w') {bs' : List UInt8} {k' : Int} (hr : Rd w' p bs' k') (hl : bs'.length ≤ bs.length) :
    Step (fun j => j = p) w o w' (grow w o) ∧ RG w' (grow w o) p q bs' k' x L := by
  obtain ⟨la, lc, b, g, hla⟩ := h.mem
  have s : Step (fun j => j = p) w o w' (grow w o) := Step.of_ext X ok fun b hb _ => by subst hb; exact h.tp
  have hqp : q ≠ p := by have := h.pq; omega
  exact ⟨s, hr, ⟨la, lc, s.blk b h.tq hqp, g.step s hqp, hla⟩, by rw [s.own h.rd.lt]; exact h.tp, by rw [s.own b.lt]; exact h.tq, h.pq, h.ok.step s, by have := h.fl; omega⟩
theorem RG.put (h : RG w o p q bs k x L) (ok : Tags w o) (X : Ext (fun b => b = q) w w') {x' : FP} {la : Option Addr} {lc : Nat} (b : Blk w q 72 (rgC p x la L.length lc)) (b' : Blk w' q 72 (rgC p x' la L.length lc)) (hx : x'.own w' (grow w o)) :
    Step (fun j => j = q) w o w' (grow w o) ∧ RG w' (grow w o) p q bs k x' L := by
  obtain ⟨la0, lc0, b0, g, hla⟩ := h.mem
  have hc := (b0.celli (a := (blk q).add 21) 21 rfl (show (rgC p x la0 L.length lc0)[21]? = some (.slice la0 L.length lc0) from rfl)).symm.trans (b.celli (a := (blk q).add 21) 21 rfl (show (rgC p x la L.length lc)[21]? = some (.slice la L.length lc) from rfl))
  cases hc
  have s : Step (fun j => j = q) w o w' (grow w o) := Step.of_ext X ok fun b hb _ => by subst hb; exact h.tq
  have hgq : ∀ ad, la = some ad → ad.block ≠ q := g.ne b (by decide)
  exact ⟨s, h.rd.up X fun b hb => by subst hb; exact h.pq, ⟨la, lc, b', g.keep X hgq fun b hb => grow_lt hb, hla⟩, by rw [s.own h.rd.lt]; exact h.tp, by rw [s.own b.lt]; exact h.tq, h.pq, hx, h.fl⟩
theorem RG.far (h : RG w o p q bs k x L) {m : Nat → Prop} (s : Step K w o w' o') (X : Ext m w w') (hm : ∀ b, m b → q < b) (hk : ¬ K q) : RG w' o' p q bs k x L := by
  obtain ⟨la, lc, b, g, hl⟩ := h.mem
  exact ⟨h.rd.up X fun b hb => by have := hm b hb; have := h.pq; omega, ⟨la, lc, s.blk b h.tq hk, g.step s hk, hl⟩, by rw [s.own h.rd.lt]; exact h.tp, by rw [s.own b.lt]; exact h.tq, h.pq, h.ok.step s, h.fl⟩
theorem RG.later (h : RG w o p q bs k x L) (ok : Tags w o) (hL : L.length < 100) {v : Value} {qb : Nat} (hv : v.oneCell' = true) (hb : Blk w qb 1 [v]) {la : Option Addr} {n lc : Nat} (hc : w.cell? ((blk q).add 21) = some (.slice la n lc)) :
    ∃ a' c' w1, (Builtin.append_ #[70, 70] 70 #[.slice la n lc, .slice (some (blk qb)) 1 1]).run Try.prog w = .ok (.slice a' (L.length + 1) c') w1 ∧ Ext (fun b => ∃ ad, la = some ad ∧ b = ad.block) w w1 ∧ Q01 w1 (((blk q).add 21).add 0) ∧
      (∀ w', w' = w1.setCell (((blk q).add 21).add 0) (.slice a' (L.length + 1) c') → ∃ o', Step (fun j => j = q) w o w' o' ∧ RG w' o' p q bs k x (L ++ [v])) := by
  obtain ⟨la0, lc0, b, g, hla⟩ := h.mem
  have hc' := hc.symm.trans (b.celli (a := (blk q).add 21) 21 rfl (show (rgC p x la0 L.length lc0)[21]? = some (.slice la0 L.length lc0) from rfl))
  cases hc'
  obtain ⟨i, hi, hz, hs, hby⟩ := info_of inf1
  obtain ⟨a', c', w1, o1, r1, s1, g1, e1, e2⟩ := g.push (P := Try.prog) (ty := 70) Try.underlying70 hi hz hs hby (by rfl) (by decide) ok b.lt (xa := some (blk qb)) (m := 1) (xc := 1) (news := [v]) (by rfl) (RowAt.of_blk hb) (fun u hu => by rw [List.mem_singleton.1 hu]; exact hv) (by omega) (by omega)
  have hgq : ∀ ad, la = some ad → ad.block ≠ q := g.ne b (by decide)
  have hbk : w1.heap[q]? = w.heap[q]? := e1 q b.lt fun ad ha e => hgq ad ha e.symm
  have b1 : Blk w1 q 72 (rgC p x la L.length lc) := by unfold Blk at b ⊢; rw [hbk]; exact b
  have X1 : Ext (fun b => ∃ ad, la = some ad ∧ b = ad.block) w w1 := ⟨s1.ext.os, s1.ext.tape, s1.ext.output, s1.ext.size, fun b hb hn => e1 b hb fun ad ha hb' => hn ⟨ad, ha, hb'⟩⟩
  refine ⟨a', c', w1, r1, X1, b1.cani 21 rfl rfl, fun w' e => ?_⟩
  have X2 : Ext (fun b => b = q) w1 w' := (Ext.refl (fun b => b = q) w1).x_set (q := q) (i := 21) rfl (.inl rfl) e
  have tq1 : o1 q = some q := by rw [s1.own b.lt]; exact h.tq
  have s2 : Step (fun j => j = q) w1 o1 w' (grow w1 o1) := Step.of_ext X2 s1.ok fun b hb _ => by subst hb; exact tq1
  have b2 := b1.seti 21 rfl e
  have hgq1 : ∀ ad, a' = some ad → ad.block ≠ q := fun ad ha => by
    rcases e2 ad ha with ⟨b0, hb0, e⟩ | e
    · rw [e]; exact hgq b0 hb0
    · rw [e]; have := b.lt; omega
  refine ⟨_, s1.trans s2, ?_, ⟨a', c', ?_, ?_, fun ad ha => ?_⟩, ?_, ?_, h.pq, (h.ok.step s1).step s2, h.fl⟩
  · exact (h.rd.up X1 fun b ⟨ad, ha, hb⟩ => by rw [hb]; exact hla ad ha).up X2 fun b hb => by subst hb; exact h.pq
  · rw [List.length_append]; exact b2
  · rw [List.length_append]; exact g1.keep X2 hgq1 fun b hb => grow_lt hb
  · rcases e2 ad ha with ⟨b0, hb0, e⟩ | e
    · rw [e]; exact hla b0 hb0
    · rw [e]; exact h.rd.lt
  · rw [s2.own (Nat.lt_of_lt_of_le h.rd.lt X1.size), s1.own h.rd.lt]; exact h.tp
  · rw [s2.own (Nat.lt_of_lt_of_le b.lt X1.size)]; exact tq1
theorem RG.ptr (h : RG w o p q bs k x L) : w.cell? ((blk q).add 0) = some (.pointer (some (blk p))) := by
  obtain ⟨la, lc, b, _⟩ := h.mem
  exact b.celli 0 rfl rfl
theorem RG.laterC (h : RG w o p q bs k x L) : ∃ la lc, w.cell? ((blk q).add 21) = some (.slice la L.length lc) ∧ RowAt w la L := by
  obtain ⟨la, lc, b, g, _⟩ := h.mem
  exact ⟨la, lc, b.celli 21 rfl rfl, g.row⟩
/-! ### the parts that are looked at in the end -/
def toV (q : Nat) : Nat → Value
  | 0 => .pointer (some (((blk q).add 1).add 1))
  | 1 => .pointer (some (((blk q).add 1).add 9))
  | _ => .pointer (some (blk q))
def toF : Nat → Nat
  | 0 => 97
  | 1 => 97
  | _ => 92
def toT : Nat → Nat
  | 0 => 118
  | 1 => 118
  | _ => 67
def Tk (w : World) (o : Own) (q : Nat) (v : Value) (c : Nat × List UInt8) : Prop :=
  ∃ (b t : Nat) (xa : Option Addr) (xc : Nat), v = .func (.func (toF c.1)) #[] #[.pointer (some (blk b)), .pointer (some (blk t))] ∧ Blk w b 25 [.slice xa c.2.length xc] ∧ o b = some b ∧ Row w o xa (bytesV c.2) ∧ c.2.length ≤ xc ∧ c.2.length < 1000000 ∧ Blk w t (toT c.1) [toV q c.1] ∧ o t = none
theorem free_of {tt : TypeId} {cs : List Value} (hb : Blk w b tt cs) (ho : o b = none) (s : Step K w o w' o') : Blk w' b tt cs ∧ o' b = none := by
  have e : w'.heap[b]? = w.heap[b]? := s.at hb.lt fun k hk => by rw [ho] at hk; cases hk
  exact ⟨by unfold Blk at hb ⊢; rw [e]; exact hb, by rw [s.own hb.lt]; exact ho⟩
theorem Tk.step {v : Value} {c : Nat × List UInt8} (h : Tk w o q v c) (s : Step K w o w' o') (hk : ∀ b cs, Blk w b 25 cs → ¬ K b) : Tk w' o' q v c := by
  obtain ⟨b, t, xa, xc, e, hb, tb, hr, hc, hl, ht, tt⟩ := h
  obtain ⟨ht', tt'⟩ := free_of ht tt s
  exact ⟨b, t, xa, xc, e, s.blk hb tb (hk _ _ hb), by rw [s.own hb.lt]; exact tb, hr.step s, hc, hl, ht', tt'⟩
def Fr.put (f : Fr) (c : Nat × List UInt8) : Fr × Int :=
  match c.1 with
  | 0 => ({ f with e := (readE c.2).1 }, (readE c.2).2)
  | 1 => ({ f with f := (readE c.2).1 }, (readE c.2).2)
  | _ => ({ f with v := (readV c.2).1 }, (readV c.2).2)
end
abbrev kindP (k : Int) : PanicEntry := { v := .iface 33 (.int .i64 k), recovered := false }
theorem Q1C (k : Int) (w : World) : Calls Try.prog 61 #[.int .i64 k] w fun e w' => (k = 0 ∧ e = .returned (.tuple #[]) ∧ w' = w) ∨ (k ≠ 0 ∧ e = .panicked [kindP k] ∧ w' = w) := by
  refine (frmMust.ok k (Φ := fun ch w' => k ≠ 0 ∧ ch = [kindP k] ∧ w' = w) (R := fun v w' => k = 0 ∧ v = .tuple #[] ∧ w' = w) ?_).mono fun e w' h => ?_
  · unfold frmMust.M
    by_cases hk : k = 0
    · subst hk; exact ⟨rfl, rfl, rfl⟩
    · rw [show (k != 0) = true by simpa using hk, cond_true]
      exact ⟨hk, rfl, rfl⟩
  · rcases h with ⟨v, he, hk, hv, hw⟩ | ⟨ch, he, hk, hc, hw⟩
    · exact .inl ⟨hk, by rw [he, hv], hw⟩
    · exact .inr ⟨hk, by rw [he, hc], hw⟩
open W (OwnB Rd numR countR doneR)
section
variable {w w' w1 : World} {o o' o1 : Own} {p q b t : Nat} {bs : List UInt8} {k : Int} {x : FP} {L : List Value} {K : Nat → Prop}
def LkR (w : World) (o : Own) (p q : Nat) (bs : List UInt8) (k : Int) (x : FP) (L : List Value) (r : Fr × Int) (e : Ending) (w' : World) : Prop :=
  ∃ o' x', Step (fun j => j = q) w o w' o' ∧ RG w' o' p q bs k x' L ∧ (∃ la lc, w.cell? ((blk q).add 21) = some (.slice la L.length lc) ∧ w'.cell? ((blk q).add 21) = some (.slice la L.length lc)) ∧ ((r.2 = 0 ∧ e = .returned (.tuple #[]) ∧ x'.r = r.1) ∨ (r.2 ≠ 0 ∧ e = .panicked [kindP r.2]))
theorem lkR_of {r : Fr × Int} {e : Ending} (h : (∃ v, e = .returned v ∧ (v = .tuple #[] ∧ LkR w o p q bs k x L r (.returned (.tuple #[])) w')) ∨ ∃ ch, e = .panicked ch ∧ (ch = [kindP r.2] ∧ LkR w o p q bs k x L r (.panicked [kindP r.2]) w')) : LkR w o p q bs k x L r e w' := by
  rcases h with ⟨v, he, hv, h⟩ | ⟨ch, he, hc, h⟩
  · rw [he, hv]; exact h
  · rw [he, hc]; exact h
theorem look0 (A : RG w o p q bs k x L) (ok : Tags w o) {c : List UInt8} {b t : Nat} {xa : Option Addr} {xc : Nat} (hb : Blk w b 25 [.slice xa c.length xc]) (hr : Row w o xa (bytesV c)) (hc : c.length ≤ xc) (hl : c.length < 1000000) (ht : Blk w t (toT 0) [toV q 0]) (tt : o t = none) :
    Calls Try.prog 97 #[.pointer (some (blk b)), .pointer (some (blk t))] w (LkR w o p q bs k x L (x.r.put (0, c))) := by
  refine (frmEnt.ok (blk b) (blk t) (Φ := fun ch w' => ch = [kindP (x.r.put (0, c)).2] ∧ LkR w o p q bs k x L (x.r.put (0, c)) (.panicked [kindP (x.r.put (0, c)).2]) w') (R := fun v w' => v = .tuple #[] ∧ LkR w o p q bs k x L (x.r.put (0, c)) (.returned (.tuple #[])) w') ?_).mono fun e w' h => lkR_of h
  unfold frmEnt.M
  refine ⟨_, _, _, hb.celli 0 rfl rfl, ?_⟩
  refine (Read_spec hr.1 hc hl).mono fun e w14 ⟨ea, ec, he, hrow, hfr, X14⟩ => .inl ⟨_, _, _, _, _, _, _, _, _, _, _, he, Q00 fun w16 e16 => ?_⟩
  have s14 := Step.of_no X14 ok
  have A14 := A.no s14 X14
  have b16 : Blk w16 w14.heap.size 27 [.int .i64 0, .int .i64 0, .int .u64 0, .int .i64 0, .int .i64 0, .int .i64 0, .slice none 0 0, .int .u64 0] := by subst e16; exact Blk.new _ _ _
  have X16 : Ext no w14 w16 := by subst e16; exact (Ext.refl _ _).alloc _
  obtain ⟨z, hz⟩ : ∃ z, w14.heap.size = z := ⟨_, rfl⟩
  rw [hz] at b16 ⊢
  have s16 := (Step.of_no X16 s14.ok).tag (p := z) (j := z) (by omega) b16.lt
  have A16 := A14.no s16 X16
  have hqz : q < z := by have := A14.lt; omega
  refine Q0S (k := 0) b16 (by show 0 + 0 + 8 ≤ 8; decide) fun w17 X17 b17 => ?_
  have s17 : Step (fun j => j = z) w16 _ w17 _ := Step.of_ext X17 s16.ok fun b hb _ => by subst hb; exact Q0V
  have A17 := A16.far s17 X17 (fun b hb => by omega) (fun e => by omega)
  have b17' : Blk w17 z 27 (entC (readE c).1 ea ec) := b17
  obtain ⟨la, lc, bq0, _, _⟩ := id A.mem
  have bq14 := s14.blk bq0 A.tq id
  have bq16 := s16.blk bq14 A14.tq id
  have bq := s17.blk bq16 A16.tq (fun e => by omega)
  have hs : Step (fun j => j = q) w o w17 _ := ((s14.none.trans s16.none).trans' s17 fun j hj => .inr (by rw [hj, ← hz]; exact X14.size))
  refine (Q1C (readE c).2 w17).mono fun e w19 h => ?_
  rcases h with ⟨hk, he, hw⟩ | ⟨hk, he, hw⟩
  · subst hw
    obtain ⟨ht14, tt14⟩ := free_of ht tt s14
    obtain ⟨ht16, tt16⟩ := free_of ht14 tt14 s16
    obtain ⟨ht17, tt17⟩ := free_of ht16 tt16 s17
    refine .inl ⟨he, _, ht17.celli 0 rfl rfl, _, _, _, _, _, _, _, _, _, _, ⟨b17'.celli 0 rfl rfl, b17'.celli 1 rfl rfl, b17'.celli 2 rfl rfl, b17'.celli 3 rfl rfl, b17'.celli 4 rfl rfl, b17'.celli 5 rfl rfl, b17'.celli 6 rfl rfl, b17'.celli 7 rfl rfl, trivial⟩, ?_⟩
    show putsK w19 ((blk q).add 2) [.int .i64 _, .int .i64 _, .int .u64 _, .int .i64 _, .int .i64 _, .int .i64 _, .slice _ _ _, .int .u64 _] 0 _
    refine Q0S (k := 2) bq (by show 2 + 0 + 8 ≤ 22; decide) fun w38 X38 b38 => ⟨rfl, ?_⟩
    have hrow0 : Row w14 (grow w o) ea (bytesV (readE c).1.body) := Row.fresh hrow fun ad ha => hfr ad ha
    have s38 : Step (fun j => j = q) w19 _ w38 _ := Step.of_ext X38 s17.ok fun b hb _ => by subst hb; exact A17.tq
    have b38' : Blk w38 q 72 (rgC p { x with r := { x.r with e := (readE c).1 }, ea := ea, ec := ec } la L.length lc) := b38
    obtain ⟨s38', A38⟩ := A17.put s17.ok X38 (x' := { x with r := { x.r with e := (readE c).1 }, ea := ea, ec := ec }) bq b38' ⟨((hrow0.step s16).step s17).step s38, A17.ok.f.step s38, A17.ok.v.step s38⟩
    exact ⟨_, _, hs.trans s38', A38, ⟨la, lc, bq0.celli 21 rfl rfl, b38'.celli 21 rfl rfl⟩, .inl ⟨hk, rfl, rfl⟩⟩
  · subst hw
    exact .inr ⟨_, he, rfl, _, x, hs, A17, ⟨la, lc, bq0.celli 21 rfl rfl, bq.celli 21 rfl rfl⟩, .inr ⟨hk, rfl⟩⟩
theorem look1 (A : RG w o p q bs k x L) (ok : Tags w o) {c : List UInt8} {b t : Nat} {xa : Option Addr} {xc : Nat} (hb : Blk w b 25 [.slice xa c.length xc]) (hr : Row w o xa (bytesV c)) (hc : c.length ≤ xc) (hl : c.length < 1000000) (ht : Blk w t (toT 1) [toV q 1]) (tt : o t = none) :
    Calls Try.prog 97 #[.pointer (some (blk b)), .pointer (some (blk t))] w (LkR w o p q bs k x L (x.r.put (1, c))) := by
  refine (frmEnt.ok (blk b) (blk t) (Φ := fun ch w' => ch = [kindP (x.r.put (1, c)).2] ∧ LkR w o p q bs k x L (x.r.put (1, c)) (.panicked [kindP (x.r.put (1, c)).2]) w') (R := fun v w' => v = .tuple #[] ∧ LkR w o p q bs k x L (x.r.put (1, c)) (.returned (.tuple #[])) w') ?_).mono fun e w' h => lkR_of h
  unfold frmEnt.M
  refine ⟨_, _, _, hb.celli 0 rfl rfl, ?_⟩
  refine (Read_spec hr.1 hc hl).mono fun e w14 ⟨ea, ec, he, hrow, hfr, X14⟩ => .inl ⟨_, _, _, _, _, _, _, _, _, _, _, he, Q00 fun w16 e16 => ?_⟩
  have s14 := Step.of_no X14 ok
  have A14 := A.no s14 X14
  have b16 : Blk w16 w14.heap.size 27 [.int .i64 0, .int .i64 0, .int .u64 0, .int .i64 0, .int .i64 0, .int .i64 0, .slice none 0 0, .int .u64 0] := by subst e16; exact Blk.new _ _ _
  have X16 : Ext no w14 w16 := by subst e16; exact (Ext.refl _ _).alloc _
  obtain ⟨z, hz⟩ : ∃ z, w14.heap.size = z := ⟨_, rfl⟩
  rw [hz] at b16 ⊢
  have s16 := (Step.of_no X16 s14.ok).tag (p := z) (j := z) (by omega) b16.lt
  have A16 := A14.no s16 X16
  have hqz : q < z := by have := A14.lt; omega
  refine Q0S (k := 0) b16 (by show 0 + 0 + 8 ≤ 8; decide) fun w17 X17 b17 => ?_
  have s17 : Step (fun j => j = z) w16 _ w17 _ := Step.of_ext X17 s16.ok fun b hb _ => by subst hb; exact Q0V
  have A17 := A16.far s17 X17 (fun b hb => by omega) (fun e => by omega)
  have b17' : Blk w17 z 27 (entC (readE c).1 ea ec) := b17
  obtain ⟨la, lc, bq0, _, _⟩ := id A.mem
  have bq14 := s14.blk bq0 A.tq id
  have bq16 := s16.blk bq14 A14.tq id
  have bq := s17.blk bq16 A16.tq (fun e => by omega)
  have hs : Step (fun j => j = q) w o w17 _ := ((s14.none.trans s16.none).trans' s17 fun j hj => .inr (by rw [hj, ← hz]; exact X14.size))
  refine (Q1C (readE c).2 w17).mono fun e w19 h => ?_
  rcases h with ⟨hk, he, hw⟩ | ⟨hk, he, hw⟩
  · subst hw
    obtain ⟨ht14, tt14⟩ := free_of ht tt s14
    obtain ⟨ht16, tt16⟩ := free_of ht14 tt14 s16
    obtain ⟨ht17, tt17⟩ := free_of ht16 tt16 s17
    refine .inl ⟨he, _, ht17.celli 0 rfl rfl, _, _, _, _, _, _, _, _, _, _, ⟨b17'.celli 0 rfl rfl, b17'.celli 1 rfl rfl, b17'.celli 2 rfl rfl, b17'.celli 3 rfl rfl, b17'.celli 4 rfl rfl, b17'.celli 5 rfl rfl, b17'.celli 6 rfl rfl, b17'.celli 7 rfl rfl, trivial⟩, ?_⟩
    show putsK w19 ((blk q).add 10) [.int .i64 _, .int .i64 _, .int .u64 _, .int .i64 _, .int .i64 _, .int .i64 _, .slice _ _ _, .int .u64 _] 0 _
    refine Q0S (k := 10) bq (by show 10 + 0 + 8 ≤ 22; decide) fun w38 X38 b38 => ⟨rfl, ?_⟩
    have hrow0 : Row w14 (grow w o) ea (bytesV (readE c).1.body) := Row.fresh hrow fun ad ha => hfr ad ha
    have s38 : Step (fun j => j = q) w19 _ w38 _ := Step.of_ext X38 s17.ok fun b hb _ => by subst hb; exact A17.tq
    have b38' : Blk w38 q 72 (rgC p { x with r := { x.r with f := (readE c).1 }, fa := ea, fc := ec } la L.length lc) := b38
    obtain ⟨s38', A38⟩ := A17.put s17.ok X38 (x' := { x with r := { x.r with f := (readE c).1 }, fa := ea, fc := ec }) bq b38' ⟨A17.ok.e.step s38, ((hrow0.step s16).step s17).step s38, A17.ok.v.step s38⟩
    exact ⟨_, _, hs.trans s38', A38, ⟨la, lc, bq0.celli 21 rfl rfl, b38'.celli 21 rfl rfl⟩, .inl ⟨hk, rfl, rfl⟩⟩
  · subst hw
    exact .inr ⟨_, he, rfl, _, x, hs, A17, ⟨la, lc, bq0.celli 21 rfl rfl, bq.celli 21 rfl rfl⟩, .inr ⟨hk, rfl⟩⟩
theorem look2 (A : RG w o p q bs k x L) (ok : Tags w o) {c : List UInt8} {b t : Nat} {xa : Option Addr} {xc : Nat} (hb : Blk w b 25 [.slice xa c.length xc]) (hr : Row w o xa (bytesV c)) (hc : c.length ≤ xc) (hl : c.length < 1000000) (ht : Blk w t (toT 2) [toV q 2]) (tt : o t = none) :
    Calls Try.prog 92 #[.pointer (some (blk b)), .pointer (some (blk t))] w (LkR w o p q bs k x L (x.r.put (2, c))) := by
  refine (frmVec.ok (blk b) (blk t) (Φ := fun ch w' => ch = [kindP (x.r.put (2, c)).2] ∧ LkR w o p q bs k x L (x.r.put (2, c)) (.panicked [kindP (x.r.put (2, c)).2]) w') (R := fun v w' => v = .tuple #[] ∧ LkR w o p q bs k x L (x.r.put (2, c)) (.returned (.tuple #[])) w') ?_).mono fun e w' h => lkR_of h
  unfold frmVec.M
  refine ⟨_, _, _, hb.celli 0 rfl rfl, ?_⟩
  refine (Q3z hr.1 hc hl).mono fun e w14 ⟨ra, rc, he, hO, X14⟩ => .inl ⟨_, _, _, _, he, ?_⟩
  have s14 := Step.of_no X14 ok
  have A14 := A.no s14 X14
  obtain ⟨la, lc, bq0, _, _⟩ := id A.mem
  have bq := s14.blk bq0 A.tq id
  refine (Q1C (readV c).2 w14).mono fun e w19 h => ?_
  rcases h with ⟨hk, he, hw⟩ | ⟨hk, he, hw⟩
  · subst hw
    obtain ⟨ht14, tt14⟩ := free_of ht tt s14
    refine .inl ⟨he, _, ht14.celli 0 rfl rfl, ?_⟩
    show Q01 w19 ((blk q).add 19) ∧ thenW (w19.setCell ((blk q).add 19) _) _
    refine ⟨bq.cani 19 rfl rfl, Q00 fun w38 e38 => ⟨rfl, ?_⟩⟩
    have X38 : Ext (fun b => b = q) w19 w38 := (Ext.refl (fun b => b = q) w19).x_set (q := q) (i := 19) rfl (.inl rfl) e38
    have b38 := bq.seti 19 rfl e38
    have hrow0 : Row w19 (grow w o) ra (hsC (readV c).1) := Row.fresh hO.row fun ad ha => (hO.fr ad ha).1
    have s38 : Step (fun j => j = q) w19 _ w38 _ := Step.of_ext X38 s14.ok fun b hb _ => by subst hb; exact A14.tq
    obtain ⟨s38', A38⟩ := A14.put s14.ok X38 (x' := { x with r := { x.r with v := (readV c).1 }, va := ra, vc := rc }) bq b38 ⟨A14.ok.e.step s38, A14.ok.f.step s38, hrow0.step s38⟩
    exact ⟨_, _, s14.none.trans s38', A38, ⟨la, lc, bq0.celli 21 rfl rfl, b38.celli 21 rfl rfl⟩, .inl ⟨hk, rfl, rfl⟩⟩
  · subst hw
    exact .inr ⟨_, he, rfl, _, x, s14.none, A14, ⟨la, lc, bq0.celli 21 rfl rfl, bq.celli 21 rfl rfl⟩, .inr ⟨hk, rfl⟩⟩
theorem Q3U (A : RG w o p q bs k x L) (ok : Tags w o) {c : Nat × List UInt8} {v : Value} (T : Tk w o q v c) :
    ∃ kk ff gg, v = .func (.func kk) ff gg ∧ enters Try.prog kk = true ∧ Calls Try.prog kk (ff.toList ++ ([] : List Value) ++ gg.toList).toArray w (LkR w o p q bs k x L (x.r.put c)) := by
  obtain ⟨b, t, xa, xc, e, hb, tb, hr, hc, hl, ht, tt⟩ := T
  obtain ⟨i, c⟩ := c
  match i with
  | 0 => exact ⟨_, _, _, e, by kernel_rfl, look0 A ok hb hr hc hl ht tt⟩
  | 1 => exact ⟨_, _, _, e, by kernel_rfl, look1 A ok hb hr hc hl ht tt⟩
  | n + 2 => exact ⟨_, _, _, e, by kernel_rfl, look2 A ok hb hr hc hl ht tt⟩
end
open W (OwnB Rd numR countR doneR)
section
variable {w w' w1 : World} {o o' o1 : Own} {p q b t : Nat} {bs : List UInt8} {k : Int} {x : FP} {L : List Value} {K : Nat → Prop}
abbrev PQ (p q : Nat) : Nat → Prop := fun j => j = p ∨ j = q
def Tks (w : World) (o : Own) (q : Nat) (L : List Value) (l : List (Nat × List UInt8)) : Prop := L.length = l.length ∧ ∀ (i : Nat) (v : Value) (c : Nat × List UInt8), L[i]? = some v → l[i]? = some c → Tk w o q v c
theorem Tks.nil (w : World) (o : Own) (q : Nat) : Tks w o q [] [] := ⟨rfl, fun i v c h => by simp at h⟩
theorem Tks.step {l : List (Nat × List UInt8)} (h : Tks w o q L l) (s : Step K w o w' o') (hk : ∀ b cs, Blk w b 25 cs → ¬ K b) : Tks w' o' q L l := ⟨h.1, fun i v c h1 h2 => (h.2 i v c h1 h2).step s hk⟩
theorem Tks.push {l : List (Nat × List UInt8)} (h : Tks w o q L l) {v : Value} {c : Nat × List UInt8} (hv : Tk w o q v c) : Tks w o q (L ++ [v]) (l ++ [c]) := by
  refine ⟨by simp [h.1], fun i u d h1 h2 => ?_⟩
  by_cases hi : i < L.length
  · rw [List.getElem?_append_left hi] at h1
    rw [List.getElem?_append_left (by rw [← h.1]; exact hi)] at h2
    exact h.2 i u d h1 h2
  · rw [List.getElem?_append_right (by omega)] at h1
    rw [List.getElem?_append_right (by rw [← h.1]; omega), ← h.1] at h2
    cases hj : i - L.length with
    | zero => rw [hj] at h1 h2; simp at h1 h2; subst h1; subst h2; exact hv
    | succ n => rw [hj] at h1; simp at h1
theorem RG.notB (A : RG w o p q bs k x L) : ∀ b cs, Blk w b 25 cs → ¬ PQ p q b := fun b cs hb h => by
  rcases h with h | h
  · subst h
    obtain ⟨a, c, h1, _⟩ := A.rd
    have : some (Obj.cells cs.toArray 25) = some (Obj.cells _ 100) := hb.symm.trans h1
    cases this
  · subst h
    obtain ⟨la, lc, h1, _⟩ := A.mem
    have : some (Obj.cells cs.toArray 25) = some (Obj.cells _ 72) := hb.symm.trans h1
    cases this
def PtR (w : World) (o : Own) (p q : Nat) (s : RS) (f : Fr) (l : List (Nat × List UInt8)) (e : Ending) (w' : World) : Prop :=
  e = .returned (.tuple #[]) ∧ ∃ o' x' L', Step (PQ p q) w o w' o' ∧ RG w' o' p q s.1 s.2 x' L' ∧ Tks w' o' q L' l ∧ x'.r = f
theorem Q2q (A : RG w o p q bs k x L) (ok : Tags w o) (hL : L.length < 50) {i t : Nat} (ht : Blk w t (toT i) [toV q i]) (tt : o t = none) {Φ : World → Prop}
    (hΦ : ∀ w' o' v, Step (PQ p q) w o w' o' → RG w' o' p q (bytesR 4000 (bs, k)).2.1 (bytesR 4000 (bs, k)).2.2 x (L ++ [v]) → Tk w' o' q v (i, (bytesR 4000 (bs, k)).1) → Φ w') :
    Calls Try.prog 55 #[.pointer (some (blk p)), .int .i64 4000] w fun ee9 ww10 => ∃ (bytes8a : Option Addr) (bytes8n bytes8c : Nat), ee9 = .returned (.slice bytes8a bytes8n bytes8c) ∧
      ∀ (ww11 : World) (q12 : Nat), Ext no ww10 ww11 → Blk ww11 q12 25 [.slice none 0 0] → ww10.heap.size ≤ q12 → q12 < ww11.heap.size →
      Q01 ww11 ((blk q12).add 0) ∧
      thenW (ww11.setCell ((blk q12).add 0) (.slice bytes8a bytes8n bytes8c)) fun ww13 => Blk ww13 t (toT i) [toV q i] ∧
      ∃ (later15a : Option Addr) (later15n later15c : Nat), ww13.cell? ((blk q).add 21) = some (.slice later15a later15n later15c) ∧
      ∀ (ww16 : World) (q17 : Nat), Ext no ww13 ww16 → Blk ww16 q17 1 [.func (.func (toF i)) #[] #[.pointer (some (blk q12)), .pointer (some (blk t))]] → ww13.heap.size ≤ q17 → q17 < ww16.heap.size →
      Blk ww16 t (toT i) [toV q i] ∧ ww16.cell? ((blk q).add 21) = some (.slice later15a later15n later15c) ∧
      ∃ (a18a : Option Addr) (a18n a18c : Nat) (ww19 : World), (Builtin.append_ #[70, 70] 70 #[.slice later15a later15n later15c, .slice (some (blk q17)) 1 1]).run Try.prog ww16 = .ok (.slice a18a a18n a18c) ww19 ∧ Blk ww19 t (toT i) [toV q i] ∧
      Q01 ww19 (((blk q).add 21).add 0) ∧
      thenW (ww19.setCell (((blk q).add 21).add 0) (.slice a18a a18n a18c)) Φ := by
  refine (Q1z A.rd A.fl (m := 4000) (by decide)).mono fun e w10 ⟨xa, xc, he, hO, hr, X10⟩ => ⟨_, _, _, he, fun w11 q12 X11 b11 hq12 hq12' => ?_⟩
  have hl := Q19 4000 (bs, k)
  obtain ⟨s10, A10⟩ := A.read ok X10 hr hl.1
  have hrow : Row w10 (grow w o) xa (bytesV (bytesR 4000 (bs, k)).1) := Row.fresh hO.row fun ad ha => (hO.fr ad ha).1
  have s11 := (Step.of_no X11 s10.ok).tag (p := q12) (j := q12) hq12 hq12'
  have z10 := X10.size
  have z11 := X11.size
  have hqlt := A.lt
  have A11 := A10.far s11 X11 (fun b hb => hb.elim) id
  refine ⟨b11.cani 0 rfl rfl, Q00 fun w13 e13 => ?_⟩
  have X13 : Ext (fun b => b = q12) w11 w13 := (Ext.refl (fun b => b = q12) w11).x_set (q := q12) (i := 0) rfl (.inl rfl) e13
  have s13 : Step (fun j => j = q12) w11 _ w13 _ := Step.of_ext X13 s11.ok fun b hb _ => by subst hb; exact Q0V
  have A13 := A11.far s13 X13 (fun b hb => by omega) (fun e => by omega)
  have b13 : Blk w13 q12 25 [.slice xa (bytesR 4000 (bs, k)).1.length xc] := b11.seti 0 rfl e13
  have t13 := (s13.own b11.lt).trans (show _ = some q12 from Q0V)
  obtain ⟨la, lc, bq, gq, _⟩ := id A13.mem
  obtain ⟨ht10, tt10⟩ := free_of ht tt s10
  obtain ⟨ht11, tt11⟩ := free_of ht10 tt10 s11
  obtain ⟨ht13, tt13⟩ := free_of ht11 tt11 s13
  refine ⟨ht13, la, _, lc, bq.celli 21 rfl rfl, fun w16 q17 X16 b16 hq17 hq17' => ?_⟩
  have s16 := Step.of_no X16 s13.ok
  have A16 := A13.no s16 X16
  have bq16 := s16.blk bq A13.tq id
  have gq16 := gq.step s16 id
  have hc16 : w16.cell? ((blk q).add 21) = some (.slice la L.length lc) := bq16.celli 21 rfl rfl
  obtain ⟨ht16, tt16⟩ := free_of ht13 tt13 s16
  obtain ⟨a', c', w19, hr19, hX19, hcan, hfin⟩ := A16.later s16.ok (by omega) rfl b16 hc16
  have hti : toT i ≠ 1 := by
    match i with
    | 0 => decide
    | 1 => decide
    | n + 2 => exact (by decide : (67 : Nat) ≠ 1)
  have ht19 : Blk w19 t (toT i) [toV q i] := ht16.ext hX19 fun ⟨ad, ha, e⟩ => gq16.ne ht16 hti ad ha e.symm
  refine ⟨ht16, hc16, a', _, c', w19, hr19, ht19, hcan, Q00 fun w20 e20 => ?_⟩
  obtain ⟨o20, s20, A20⟩ := hfin w20 e20
  obtain ⟨ht20, tt20⟩ := free_of ht16 tt16 s20
  have hS : Step (PQ p q) w o w20 o20 := ((((s10.mono fun j hj _ => (.inl hj : PQ p q j)).trans s11.none).trans' s13 fun j hj => .inr (by rw [hj]; omega)).trans s16.none).trans (s20.mono fun j hj _ => .inr hj)
  have b16' := s16.blk b13 t13 id
  have t16 := (s16.own b13.lt).trans t13
  refine hΦ w20 o20 _ hS A20 ⟨q12, t, xa, xc, rfl, s20.blk b16' t16 (fun e => by omega), by rw [s20.own b16'.lt]; exact t16, (((hrow.step s11).step s13).step s16).step s20, hO.le, by have := A.fl; have h2 : (bytesR 4000 (bs, k)).1.length ≤ bs.length := hl.2; show (bytesR 4000 (bs, k)).1.length < 1000000; omega, ht20, tt20⟩
theorem Q29 (A : RG w o p q bs k x L) (ok : Tags w o) (hL : L.length < 50) {l : List (Nat × List UInt8)} (T : Tks w o q L l) {i : Nat} {to : Addr} (hi : i < 2) (hto : toV q i = .pointer (some to)) :
    Calls Try.prog 91 #[.pointer (some (blk q)), .pointer (some to)] w (PtR w o p q (bytesR 4000 (bs, k)).2 x.r (l ++ [(i, (bytesR 4000 (bs, k)).1)])) := by
  refine (Q0k.go _ _ (R := fun v w' => v = .tuple #[] ∧ PtR w o p q (bytesR 4000 (bs, k)).2 x.r (l ++ [(i, (bytesR 4000 (bs, k)).1)]) (.returned (.tuple #[])) w') ?_).mono fun e w' ⟨v, he, hv, h⟩ => by rw [he, hv]; exact h
  unfold Q0k.N
  intro w3 q4 X3 b3 hq4 hq4'
  have s3 := Step.of_no X3 ok
  have A3 := A.no s3 X3
  have T3 := T.step s3 fun _ _ _ => id
  have ht : Blk w3 q4 (toT i) [toV q i] := by
    rw [hto]
    match i, hi with
    | 0, _ => exact b3
    | 1, _ => exact b3
  have hF : toF i = 97 := match i, hi with | 0, _ => rfl | 1, _ => rfl
  refine ⟨_, rfl, _, A3.ptr, ?_⟩
  have key := Q2q A3 s3.ok hL ht (grow_ge hq4) (Φ := fun w' => (.tuple #[] : Value) = .tuple #[] ∧ PtR w o p q (bytesR 4000 (bs, k)).2 x.r (l ++ [(i, (bytesR 4000 (bs, k)).1)]) (.returned (.tuple #[])) w') fun w' o' v s R tk => ⟨rfl, rfl, o', x, L ++ [v], s3.none.trans s, R, (T3.step s A3.notB).push tk, rfl⟩
  rw [hF] at key
  refine key.mono fun e w10 ⟨a, n, c, he, h⟩ => ⟨a, n, c, he, fun w11 q12 X b h1 h2 => ?_⟩
  obtain ⟨c1, h⟩ := h w11 q12 X b h1 h2
  obtain ⟨_, la, ln, lc, hc, h⟩ := h
  refine ⟨c1, la, ln, lc, hc, fun w16 q17 X b h1 h2 => ?_⟩
  obtain ⟨_, _, a', n', c', w19, hr, _, hcan, h⟩ := h w16 q17 X b h1 h2
  exact ⟨a', n', c', w19, hr, hcan, h⟩
theorem RG.set (A : RG w o p q bs k x L) (ok : Tags w o) {x' : FP} {ad : Addr} {i : Nat} {v : Value} (ha : ad = ⟨q, i, none⟩) (hc : ∀ la lc, (rgC p x la L.length lc).set i v = rgC p x' la L.length lc) (hi : i < 22) (hx : x'.r.e = x.r.e ∧ x'.ea = x.ea ∧ x'.r.f = x.r.f ∧ x'.fa = x.fa ∧ x'.r.v = x.r.v ∧ x'.va = x.va) :
    Q01 w ad ∧ ∀ w', w' = w.setCell ad v → Step (fun j => j = q) w o w' (grow w o) ∧ RG w' (grow w o) p q bs k x' L := by
  obtain ⟨la, lc, bq, _, _⟩ := id A.mem
  have hl : (rgC p x la L.length lc).length = 22 := rfl
  refine ⟨bq.cani i ha (List.getElem?_eq_getElem (by omega)), fun w' e => ?_⟩
  have X : Ext (fun b => b = q) w w' := (Ext.refl (fun b => b = q) w).x_set (q := q) (i := i) ha (.inl rfl) e
  have b' := bq.seti i ha e
  rw [hc] at b'
  have s : Step (fun j => j = q) w o w' (grow w o) := Step.of_ext X ok fun b hb _ => by subst hb; exact A.tq
  obtain ⟨h1, h2, h3, h4, h5, h6⟩ := hx
  exact A.put ok X bq b' ⟨by rw [h1, h2]; exact A.ok.e.step s, by rw [h3, h4]; exact A.ok.f.step s, by rw [h5, h6]; exact A.ok.v.step s⟩
theorem Q1O (A : RG w o p q bs k x L) (ok : Tags w o) (hL : L.length < 50) {l : List (Nat × List UInt8)} (T : Tks w o q L l) :
    Calls Try.prog 78 #[.pointer (some (blk q))] w (PtR w o p q (bytesR 4000 (countR 7 (bs, k)).2).2 { x.r with who := (countR 7 (bs, k)).1 } (l ++ [(2, (bytesR 4000 (countR 7 (bs, k)).2).1)])) := by
  refine (Q0c.go _ (R := fun v w' => v = .tuple #[] ∧ PtR w o p q (bytesR 4000 (countR 7 (bs, k)).2).2 { x.r with who := (countR 7 (bs, k)).1 } (l ++ [(2, (bytesR 4000 (countR 7 (bs, k)).2).1)]) (.returned (.tuple #[])) w') ?_).mono fun e w' ⟨v, he, hv, h⟩ => by rw [he, hv]; exact h
  unfold Q0c.N
  intro w2 q3 X2 b2 hq3 hq3'
  have s2 := Step.of_no X2 ok
  have A2 := A.no s2 X2
  have T2 := T.step s2 fun _ _ _ => id
  have tq3 : grow w o q3 = none := grow_ge hq3
  have c2 : w2.cell? (blk q3) = some (.pointer (some (blk q))) := b2.celli 0 rfl rfl
  refine ⟨_, c2, _, c2, _, rfl, _, A2.ptr, fun w4 X4 => ?_⟩
  have s4 := Step.of_no X4 s2.ok
  have A4 := A2.no s4 X4
  have T4 := T2.step s4 fun _ _ _ => id
  obtain ⟨b4, t4⟩ := free_of b2 tq3 s4
  refine (W.Count_spec A4.rd A4.fl (m := 7) (by decide)).mono fun e w14 ⟨he, hr, X14⟩ => ⟨_, he, ?_⟩
  obtain ⟨s14, A14⟩ := A4.read s4.ok X14 hr (W.countR_len 7 (bs, k))
  have T14 := T4.step s14 fun b cs hb h => A4.notB b cs hb (.inl h)
  obtain ⟨b14, t14⟩ := free_of b4 t4 s14
  refine ⟨b14.celli 0 rfl rfl, _, rfl, ?_⟩
  obtain ⟨can17, set17⟩ := A14.set s14.ok (x' := { x with r := { x.r with who := (countR 7 (bs, k)).1 } }) (ad := (((blk q).add 1).add 17).add 0) (i := 18) (v := .int .i64 (countR 7 (bs, k)).1) rfl (fun _ _ => rfl) (by decide) ⟨rfl, rfl, rfl, rfl, rfl, rfl⟩
  refine ⟨can17, Q00 fun w17 e17 => ?_⟩
  obtain ⟨s17, A17⟩ := set17 w17 e17
  have T17 := T14.step s17 fun b cs hb h => A14.notB b cs hb (.inr h)
  obtain ⟨b17, t17⟩ := free_of b14 t14 s17
  have c17 : w17.cell? (blk q3) = some (.pointer (some (blk q))) := b17.celli 0 rfl rfl
  refine ⟨_, c17, _, rfl, _, A17.ptr, ?_⟩
  have S17 : Step (PQ p q) w o w17 _ := ((s2.none.trans s4.none).trans (s14.mono fun j hj _ => (.inl hj : PQ p q j))).trans (s17.mono fun j hj _ => .inr hj)
  have key := Q2q A17 s17.ok hL (i := 2) b17 t17 (Φ := fun w' => (.tuple #[] : Value) = .tuple #[] ∧ PtR w o p q (bytesR 4000 (countR 7 (bs, k)).2).2 { x.r with who := (countR 7 (bs, k)).1 } (l ++ [(2, (bytesR 4000 (countR 7 (bs, k)).2).1)]) (.returned (.tuple #[])) w') fun w' o' v s R tk => ⟨rfl, rfl, o', _, L ++ [v], S17.trans s, R, (T17.step s A17.notB).push tk, rfl⟩
  refine key.mono fun e w25 ⟨a, n, c, he, h⟩ => ⟨a, n, c, he, fun w26 q27 X b h1 h2 => ?_⟩
  obtain ⟨c1, h⟩ := h w26 q27 X b h1 h2
  refine ⟨c1, Q00 fun w28 e28 => ?_⟩
  subst e28
  obtain ⟨b28, la, ln, lc, hc, h⟩ := h
  have c28 : World.cell? _ (blk q3) = some (.pointer (some (blk q))) := b28.celli 0 rfl rfl
  refine ⟨_, c28, _, c28, _, rfl, la, ln, lc, hc, fun w37 q38 X b h1 h2 => ?_⟩
  obtain ⟨b37, hc37, a', n', c', w43, hr, b43, hcan, h⟩ := h w37 q38 X b h1 h2
  have c37 : World.cell? _ (blk q3) = some (.pointer (some (blk q))) := b37.celli 0 rfl rfl
  exact ⟨hc37, c37, c37, a', n', c', w43, hr, b43.celli 0 rfl rfl, _, rfl, hcan, h⟩
theorem Q2V (A : RG w o p q bs k x L) (ok : Tags w o) (hL : L.length < 50) {l : List (Nat × List UInt8)} (T : Tks w o q L l) :
    Calls Try.prog 77 #[.pointer (some (blk q))] w (PtR w o p q (bytesR 4000 (bs, k)).2 x.r (l ++ [(0, (bytesR 4000 (bs, k)).1)])) := by
  refine (Q0q.go _ (R := fun v w' => v = .tuple #[] ∧ PtR w o p q (bytesR 4000 (bs, k)).2 x.r (l ++ [(0, (bytesR 4000 (bs, k)).1)]) (.returned (.tuple #[])) w') ?_).mono fun e w' ⟨v, he, hv, h⟩ => by rw [he, hv]; exact h
  unfold Q0q.N
  exact ⟨_, rfl, (Q29 A ok hL T (i := 0) (by decide) rfl).mono fun e w' h => ⟨h.1, rfl, rfl, h.2⟩⟩
theorem Q3A (A : RG w o p q bs k x L) (ok : Tags w o) (hL : L.length < 49) {l : List (Nat × List UInt8)} (T : Tks w o q L l) :
    Calls Try.prog 80 #[.pointer (some (blk q))] w (PtR w o p q (bytesR 4000 (bytesR 4000 (bs, k)).2).2 x.r (l ++ [(0, (bytesR 4000 (bs, k)).1)] ++ [(1, (bytesR 4000 (bytesR 4000 (bs, k)).2).1)])) := by
  refine (Q0m.go _ (R := fun v w' => v = .tuple #[] ∧ PtR w o p q (bytesR 4000 (bytesR 4000 (bs, k)).2).2 x.r (l ++ [(0, (bytesR 4000 (bs, k)).1)] ++ [(1, (bytesR 4000 (bytesR 4000 (bs, k)).2).1)]) (.returned (.tuple #[])) w') ?_).mono fun e w' ⟨v, he, hv, h⟩ => by rw [he, hv]; exact h
  unfold Q0m.N
  refine (Q2V A ok (by omega) T).mono fun e w' ⟨he, o', x', L', s, A', T', hx⟩ => ⟨he, _, rfl, ?_⟩
  have hl' := T'.1
  have hl := T.1
  rw [List.length_append] at hl'
  refine (Q29 A' s.ok (by simp at hl'; omega) T' (i := 1) (by decide) rfl).mono fun e w2 ⟨he, o2, x2, L2, s2, A2, T2, hx2⟩ => ⟨he, rfl, rfl, o2, x2, L2, s.trans s2, A2, T2, hx2.trans hx⟩
theorem Q3c (A : RG w o p q bs k x L) (ok : Tags w o) (hL : L.length < 49) {l : List (Nat × List UInt8)} (T : Tks w o q L l) :
    Calls Try.prog 79 #[.pointer (some (blk q))] w (PtR w o p q (numR (bytesR 4000 (countR 7 (bs, k)).2).2).2 { x.r with who := (countR 7 (bs, k)).1, sg := (numR (bytesR 4000 (countR 7 (bs, k)).2).2).1 } (l ++ [(2, (bytesR 4000 (countR 7 (bs, k)).2).1)])) := by
  refine (Q0l.go _ (R := fun v w' => v = .tuple #[] ∧ PtR w o p q (numR (bytesR 4000 (countR 7 (bs, k)).2).2).2 { x.r with who := (countR 7 (bs, k)).1, sg := (numR (bytesR 4000 (countR 7 (bs, k)).2).2).1 } (l ++ [(2, (bytesR 4000 (countR 7 (bs, k)).2).1)]) (.returned (.tuple #[])) w') ?_).mono fun e w' ⟨v, he, hv, h⟩ => by rw [he, hv]; exact h
  unfold Q0l.N
  refine (Q1O A ok (by omega) T).mono fun e w3 ⟨he, o3, x3, L3, s3, A3, T3, hx⟩ => ⟨he, _, rfl, _, A3.ptr, ?_⟩
  refine (W.RNum_spec A3.rd A3.fl).mono fun e w9 ⟨he, hr, X9⟩ => ⟨_, he, ?_⟩
  obtain ⟨s9, A9⟩ := A3.read s3.ok X9 hr (W.numR_len _)
  have T9 := T3.step s9 fun b cs hb h => A3.notB b cs hb (.inl h)
  obtain ⟨can, set⟩ := A9.set s9.ok (x' := { x3 with r := { x3.r with sg := (numR (bytesR 4000 (countR 7 (bs, k)).2).2).1 } }) (ad := (((blk q).add 1).add 19).add 0) (i := 20) (v := .int .u64 (numR (bytesR 4000 (countR 7 (bs, k)).2).2).1) rfl (fun _ _ => rfl) (by decide) ⟨rfl, rfl, rfl, rfl, rfl, rfl⟩
  refine ⟨can, Q00 fun w10 e10 => ?_⟩
  obtain ⟨s10, A10⟩ := set w10 e10
  refine ⟨rfl, rfl, _, _, L3, (s3.trans (s9.mono fun j hj _ => (.inl hj : PQ p q j))).trans (s10.mono fun j hj _ => .inr hj), A10, T9.step s10 fun b cs hb h => A9.notB b cs hb (.inr h), ?_⟩
  dsimp only
  rw [hx]
end
open W (OwnB Rd numR countR doneR)
def kdS (n : Nat) (s : RS) : RS :=
  if n = 1 then (bytesR 4000 s).2 else if n = 2 then (bytesR 4000 (countR 7 s).2).2 else if n = 3 then (numR (bytesR 4000 (countR 7 s).2).2).2 else if n = 4 then (bytesR 4000 (bytesR 4000 s).2).2 else s
def kdF (n : Nat) (f : Fr) (s : RS) : Fr :=
  if n = 2 then { f with who := (countR 7 s).1 } else if n = 3 then { f with who := (countR 7 s).1, sg := (numR (bytesR 4000 (countR 7 s).2).2).1 } else f
def kdL (n : Nat) (s : RS) : List (Nat × List UInt8) :=
  if n = 1 then [(0, (bytesR 4000 s).1)] else if n = 2 then [(2, (bytesR 4000 (countR 7 s).2).1)] else if n = 3 then [(2, (bytesR 4000 (countR 7 s).2).1)] else if n = 4 then [(0, (bytesR 4000 s).1), (1, (bytesR 4000 (bytesR 4000 s).2).1)] else []
def looks : List (Nat × List UInt8) → Fr → Fr × Int
  | [], f => (f, 0)
  | c :: r, f => if (f.put c).2 = 0 then looks r (f.put c).1 else (Fr.zero, (f.put c).2)
def frStart (b : List UInt8) : Fr := kdF (countR 4 (b, 0)).1 { Fr.zero with kd := (countR 4 (b, 0)).1 } (countR 4 (b, 0)).2
def frLooks (b : List UInt8) : Fr × Int := looks (kdL (countR 4 (b, 0)).1 (countR 4 (b, 0)).2) (frStart b)
def frDone (b : List UInt8) : Int := doneR (kdS (countR 4 (b, 0)).1 (countR 4 (b, 0)).2)
def readW (b : List UInt8) : Fr × Int :=
  if frDone b ≠ 0 then (Fr.zero, frDone b) else if (frLooks b).2 ≠ 0 then (Fr.zero, (frLooks b).2) else if frOK (frLooks b).1 = true then ((frLooks b).1, 0) else (Fr.zero, 4)
section
variable {w w' w1 : World} {o o' o1 : Own} {p q b t : Nat} {bs : List UInt8} {k : Int} {x : FP} {L : List Value} {K : Nat → Prop}
theorem Q4b (A : RG w o p q bs k x []) (ok : Tags w o) (n : Nat) :
    Calls Try.prog 60 #[.pointer (some (blk q)), .int .i64 n] w fun e w' => w' = w ∧ ∃ kk ff gg, e = .returned (.func (.func kk) ff gg) ∧ enters Try.prog kk = true ∧ Calls Try.prog kk (ff.toList ++ ([] : List Value) ++ gg.toList).toArray w (PtR w o p q (kdS n (bs, k)) (kdF n x.r (bs, k)) (kdL n (bs, k))) := by
  refine (Q0o.go _ _ (R := fun v w' => w' = w ∧ ∃ kk ff gg, v = .func (.func kk) ff gg ∧ enters Try.prog kk = true ∧ Calls Try.prog kk (ff.toList ++ ([] : List Value) ++ gg.toList).toArray w (PtR w o p q (kdS n (bs, k)) (kdF n x.r (bs, k)) (kdL n (bs, k)))) ?_).mono fun e w' ⟨v, he, hw, kk, ff, gg, hv, h⟩ => ⟨hw, kk, ff, gg, by rw [he, hv], h⟩
  unfold Q0o.N
  have T0 := Tks.nil w o q
  refine ⟨fun h => ⟨rfl, _, _, _, rfl, by kernel_rfl, ?_⟩, fun h1 => ⟨fun h => ⟨rfl, _, _, _, rfl, by kernel_rfl, ?_⟩, fun h2 => ⟨fun h => ⟨rfl, _, _, _, rfl, by kernel_rfl, ?_⟩, fun h3 => ⟨fun h => ⟨rfl, _, _, _, rfl, by kernel_rfl, ?_⟩, fun h4 => ⟨rfl, _, _, _, rfl, by kernel_rfl, ?_⟩⟩⟩⟩⟩
  · obtain rfl : n = 1 := by omega
    exact Q2V A ok (by decide) T0
  · obtain rfl : n = 2 := by omega
    exact Q1O A ok (by decide) T0
  · obtain rfl : n = 3 := by omega
    exact Q3c A ok (by decide) T0
  · obtain rfl : n = 4 := by omega
    exact Q3A A ok (by decide) T0
  · have e1 : kdS n (bs, k) = (bs, k) := by unfold kdS; rw [if_neg (by omega), if_neg (by omega), if_neg (by omega), if_neg (by omega)]
    have e2 : kdF n x.r (bs, k) = x.r := by unfold kdF; rw [if_neg (by omega), if_neg (by omega)]
    have e3 : kdL n (bs, k) = [] := by unfold kdL; rw [if_neg (by omega), if_neg (by omega), if_neg (by omega), if_neg (by omega)]
    rw [e1, e2, e3]
    refine (Q0i.go (R := fun v w' => v = .tuple #[] ∧ PtR w o p q (bs, k) x.r [] (.returned (.tuple #[])) w') ?_).mono fun e w' ⟨v, he, hv, h⟩ => by rw [he, hv]; exact h
    unfold Q0i.N
    exact ⟨rfl, rfl, o, x, [], Step.refl _ ok, A, T0, rfl⟩
theorem Q46 (n : Nat) (s : RS) : (kdL n s).length < 50 := by
  unfold kdL
  repeat' split
  all_goals (simp only [List.length_cons, List.length_nil]; decide)
theorem Q4B (b : List UInt8) : (readV b).1.length ≤ 8 := by
  by_cases h : (readV b).2 = 0
  · exact Q2h (Q3J h).1
  · rw [Q3y h]; exact Nat.zero_le _
theorem put_v (f : Fr) (c : Nat × List UInt8) (h : f.v.length ≤ 8) : (f.put c).1.v.length ≤ 8 := by
  obtain ⟨i, c⟩ := c
  match i with
  | 0 => exact h
  | 1 => exact h
  | n + 2 => exact Q4B c
theorem looks_v : ∀ (l : List (Nat × List UInt8)) (f : Fr), f.v.length ≤ 8 → (looks l f).1.v.length ≤ 8
  | [], f, h => h
  | c :: r, f, h => by
    unfold looks
    split
    · exact looks_v r _ (put_v f c h)
    · exact Nat.zero_le _
theorem start_v (b : List UInt8) : (frStart b).v.length ≤ 8 := by
  unfold frStart kdF
  repeat' split
  all_goals exact Nat.zero_le _
def WhR (w : World) (o : Own) (p q : Nat) (r : Fr × Int) (e : Ending) (w' : World) : Prop :=
  ∃ o', Step (PQ p q) w o w' o' ∧ ((r.2 = 0 ∧ ∃ x' : FP, e = .returned x'.V ∧ x'.r = r.1 ∧ x'.own w' o') ∨ (r.2 ≠ 0 ∧ e = .panicked [kindP r.2]))
theorem Q3x {b : List UInt8} (A : RG w o p q b 0 FP.zero []) (ok : Tags w o) : Calls Try.prog 34 #[.pointer (some (blk q))] w (WhR w o p q (readW b)) := by
  refine (Q1T.ok _ (Φ := fun ch w' => (readW b).2 ≠ 0 ∧ ch = [kindP (readW b).2] ∧ ∃ o', Step (PQ p q) w o w' o') (R := fun v w' => (readW b).2 = 0 ∧ ∃ o' x', Step (PQ p q) w o w' o' ∧ v = FP.V x' ∧ x'.r = (readW b).1 ∧ x'.own w' o') ?_).mono fun e w' h => ?_
  rotate_left
  · rcases h with ⟨v, he, hz, o', x', s, hv, hx, hr⟩ | ⟨ch, he, hz, hc, o', s⟩
    · exact ⟨o', s, .inl ⟨hz, x', by rw [he, hv], hx, hr⟩⟩
    · exact ⟨o', s, .inr ⟨hz, by rw [he, hc]⟩⟩
  unfold Q1T.M
  refine Q00 fun w2 e2 => ?_
  have X2 : Ext no w w2 := by subst e2; exact (Ext.refl _ _).alloc _
  have b2 : Blk w2 w.heap.size 38 FP.zero.C := by subst e2; exact Blk.new _ _ _
  obtain ⟨z, hz⟩ : ∃ z, w.heap.size = z := ⟨_, rfl⟩
  rw [hz] at b2 ⊢
  have s2 := (Step.of_no X2 ok).tag (p := z) (j := z) (by omega) b2.lt
  have A2 := A.far s2 X2 (fun b hb => hb.elim) id
  have hqz : q < z := by have := A.lt; omega
  have t2 : tag (grow w o) z z z = some z := Q0V
  refine ⟨_, A2.ptr, ?_⟩
  refine (W.Count_spec A2.rd A2.fl (m := 4) (by decide)).mono fun e w7 ⟨he, hr, X7⟩ => .inl ⟨_, he, ?_⟩
  obtain ⟨s7, A7⟩ := A2.read s2.ok X7 hr (W.countR_len 4 (b, 0))
  obtain ⟨can, set⟩ := A7.set s7.ok (x' := { FP.zero with r := { Fr.zero with kd := (countR 4 (b, 0)).1 } }) (ad := (((blk q).add 1).add 0).add 0) (i := 1) (v := .int .i64 (countR 4 (b, 0)).1) rfl (fun _ _ => rfl) (by decide) ⟨rfl, rfl, rfl, rfl, rfl, rfl⟩
  refine ⟨can, Q00 fun w10 e10 => ?_⟩
  obtain ⟨s10, A10⟩ := set w10 e10
  obtain ⟨la0, lc0, bq10, _, _⟩ := id A10.mem
  refine ⟨_, bq10.celli 1 rfl rfl, ?_⟩
  refine (Q4b A10 s10.ok (countR 4 (b, 0)).1).mono fun e w15 ⟨hw, kk, ff, gg, he, hen, hcall⟩ => .inl ⟨kk, ff, gg, he, ?_⟩
  subst hw
  rw [hen, cond_true]
  refine hcall.mono fun e w18 ⟨he, o18, x18, L, s18, A18, T18, hx18⟩ => .inl ⟨he, ?_⟩
  have hx18 : x18.r = frStart b := hx18
  have A18 : RG w18 o18 p q (kdS (countR 4 (b, 0)).1 (countR 4 (b, 0)).2).1 (kdS (countR 4 (b, 0)).1 (countR 4 (b, 0)).2).2 x18 L := A18
  have T18 : Tks w18 o18 q L (kdL (countR 4 (b, 0)).1 (countR 4 (b, 0)).2) := T18
  have hLl : L.length < 50 := by rw [T18.1]; exact Q46 _ _
  have S18 : Step (PQ p q) w o w18 o18 := (((s2.none.trans (s7.mono fun j hj _ => (.inl hj : PQ p q j))).trans (s10.mono fun j hj _ => .inr hj)).trans s18)
  have bz7 := s7.blk b2 t2 (fun e => by have := A.pq; omega)
  have tz7 := (s7.own b2.lt).trans t2
  have bz10 := s10.blk bz7 tz7 (fun e => by omega)
  have tz10 := (s10.own bz7.lt).trans tz7
  have hzPQ : ¬ PQ p q z := fun e => by have := A.pq; rcases e with e | e <;> omega
  have bz18 := s18.blk bz10 tz10 hzPQ
  have tz18 := (s18.own bz10.lt).trans tz10
  refine ⟨_, A18.ptr, ?_⟩
  refine (W.Done_spec A18.rd).mono fun e w24 ⟨he, hw⟩ => .inl ⟨_, he, ?_⟩
  subst hw
  refine (Q1C _ w24).mono fun e w27 h => ?_
  rcases h with ⟨hk, he, hw⟩ | ⟨hk, he, hw⟩
  rotate_left
  · subst hw
    have hd : frDone b ≠ 0 := hk
    have hr : readW b = (Fr.zero, frDone b) := by unfold readW; rw [if_pos hd]
    rw [hr]
    exact .inr ⟨_, he, hd, rfl, _, S18⟩
  subst hw
  have hd : frDone b = 0 := hk
  obtain ⟨la, lc, hcl, _⟩ := A18.laterC
  refine .inl ⟨he, la, _, lc, hcl, ?_⟩
  refine ⟨fun m vs w1 => ∃ (t : Nat) (o1 : Own) (x1 : FP), vs = [.int .i64 t] ∧ m + t = L.length ∧ Step (PQ p q) w o w1 o1 ∧ RG w1 o1 p q (kdS (countR 4 (b, 0)).1 (countR 4 (b, 0)).2).1 (kdS (countR 4 (b, 0)).1 (countR 4 (b, 0)).2).2 x1 L ∧ Tks w1 o1 q L (kdL (countR 4 (b, 0)).1 (countR 4 (b, 0)).2) ∧
    w1.cell? ((blk q).add 21) = some (.slice la L.length lc) ∧ Blk w1 z 38 FP.zero.C ∧ o1 z = some z ∧ frLooks b = looks ((kdL (countR 4 (b, 0)).1 (countR 4 (b, 0)).2).drop t) x1.r, L.length, ⟨0, o18, x18, rfl, rfl, S18, A18, T18, hcl, bz18, tz18, by rw [hx18]; rfl⟩, ?_⟩
  rintro m w34 i ⟨t, o34, x34, hv, hm, S34, A34, T34, hc34, bz34, tz34, hlk⟩
  cases hv
  by_cases ht : t < L.length
  · rw [show decide ((t : Int) < (L.length : Int)) = true by simpa using ht, cond_true]
    obtain ⟨la', lc', hc', hrow⟩ := A34.laterC
    have := hc34.symm.trans hc'
    cases this
    have hg : L[t]? = some L[t] := List.getElem?_eq_getElem ht
    have hlen := T34.1
    have hgl : (kdL (countR 4 (b, 0)).1 (countR 4 (b, 0)).2)[t]? = some ((kdL (countR 4 (b, 0)).1 (countR 4 (b, 0)).2)[t]'(by omega)) := List.getElem?_eq_getElem (by omega)
    obtain ⟨ad, had, hcell⟩ := hrow t _ hg
    subst had
    have hTk := T34.2 t _ _ hg hgl
    obtain ⟨kk, ff, gg, hv, hen, hcall⟩ := Q3U A34 S34.ok hTk
    refine ⟨by omega, by omega, kk, ff, gg, by rw [Int.toNat_natCast, Nat.mul_one, hcell, hv], ?_⟩
    rw [hen, cond_true]
    have hdrop : (kdL (countR 4 (b, 0)).1 (countR 4 (b, 0)).2).drop t = (kdL (countR 4 (b, 0)).1 (countR 4 (b, 0)).2)[t]'(by omega) :: (kdL (countR 4 (b, 0)).1 (countR 4 (b, 0)).2).drop (t + 1) := List.drop_eq_getElem_cons (by omega)
    rw [hdrop] at hlk
    generalize (kdL (countR 4 (b, 0)).1 (countR 4 (b, 0)).2)[t]'(by omega) = c at *
    refine hcall.mono fun e w38 ⟨o38, x38, s38, A38, ⟨la2, lc2, hca, hcb⟩, h⟩ => ?_
    have hz38 : ¬ (fun j => j = q) z := fun e => by
      have e : z = q := e
      omega
    rcases h with ⟨hk, he, hx⟩ | ⟨hk, he⟩
    · refine .inl ⟨he, m - 1, by omega, t + 1, o38, x38, ?_, by omega, S34.trans (s38.mono fun j hj _ => .inr hj), A38, T34.step s38 fun b cs hb h => A34.notB b cs hb (.inr h), ?_, s38.blk bz34 tz34 hz38, by rw [s38.own bz34.lt]; exact tz34, ?_⟩
      · rw [w64 (by omega) (by omega)]; rfl
      · rw [hc34] at hca; cases hca; exact hcb
      · rw [hlk]
        show (if (x34.r.put c).2 = 0 then _ else _) = _
        rw [if_pos hk, hx]
    · have hl : frLooks b = (Fr.zero, (x34.r.put c).2) := by
        rw [hlk]
        show (if (x34.r.put c).2 = 0 then _ else _) = _
        rw [if_neg hk]
      have hr : readW b = (Fr.zero, (x34.r.put c).2) := by unfold readW; rw [if_neg (by rw [hd]; exact fun h => h rfl), hl, if_pos hk]
      rw [hr]
      exact .inr ⟨_, he, hk, rfl, o38, S34.trans (s38.mono fun j hj _ => .inr hj)⟩
  · rw [show decide ((t : Int) < (L.length : Int)) = false by simp; omega, cond_false]
    have hlen := T34.1
    have hlk : frLooks b = (x34.r, 0) := by rw [hlk, List.drop_eq_nil_of_le (by omega)]; rfl
    obtain ⟨la3, lc3, bq34, _, _⟩ := id A34.mem
    have cells : ∀ {w' : World}, Blk w' q 72 (rgC p x34 la3 L.length lc3) → cellsAt w' ((blk q).add 1) x34.C 0 := fun {w'} bb => ⟨bb.celli 1 rfl rfl, bb.celli 2 rfl rfl, bb.celli 3 rfl rfl, bb.celli 4 rfl rfl, bb.celli 5 rfl rfl, bb.celli 6 rfl rfl, bb.celli 7 rfl rfl, bb.celli 8 rfl rfl, bb.celli 9 rfl rfl, bb.celli 10 rfl rfl, bb.celli 11 rfl rfl, bb.celli 12 rfl rfl, bb.celli 13 rfl rfl, bb.celli 14 rfl rfl, bb.celli 15 rfl rfl, bb.celli 16 rfl rfl, bb.celli 17 rfl rfl, bb.celli 18 rfl rfl, bb.celli 19 rfl rfl, bb.celli 20 rfl rfl, trivial⟩
    refine ⟨_, _, _, _, _, _, _, _, _, _, _, _, _, _, _, _, _, _, _, _, _, _, _, _, _, _, cells bq34, ?_⟩
    have hvl : x34.r.v.length < 1000000 := by
      have h1 := looks_v (kdL (countR 4 (b, 0)).1 (countR 4 (b, 0)).2) (frStart b) (start_v b)
      have h2 : (frLooks b).1.v.length ≤ 8 := h1
      rw [hlk] at h2
      have h2 : x34.r.v.length ≤ 8 := h2
      omega
    have hrd : ¬ frDone b ≠ 0 := by rw [hd]; exact fun h => h rfl
    refine (Q25 A34.ok.at hvl).mono fun e w64 ⟨he, X64⟩ => .inl ⟨_, he, ?_⟩
    have s64 := Step.of_no X64 S34.ok
    have A64 := A34.no s64 X64
    by_cases hok : frOK x34.r = true
    · rw [hok, Bool.not_true, cond_false]
      have bq64 := s64.blk bq34 A34.tq id
      have bz64 := s64.blk bz34 tz34 id
      have tz64 := (s64.own bz34.lt).trans tz34
      refine ⟨_, _, _, _, _, _, _, _, _, _, _, _, _, _, _, _, _, _, _, _, _, _, _, _, _, _, cells bq64, ?_⟩
      refine Q0S (k := 0) bz64 (by show 0 + 0 + 20 ≤ 20; decide) fun w87 X87 b87 => ?_
      have b87' : Blk w87 z 38 x34.C := Q1c b87 rfl
      have s87 : Step (fun j => j = z) w64 _ w87 _ := Step.of_ext X87 s64.ok fun b hb _ => by subst hb; exact tz64
      have hr : readW b = (x34.r, 0) := by unfold readW; rw [if_neg hrd, hlk, if_neg (fun h => h rfl), if_pos hok]
      rw [hr]
      exact ⟨_, _, _, _, _, _, _, _, _, _, _, _, _, _, _, _, _, _, _, _, _, _, _, _, _, _, ⟨b87'.celli 0 rfl rfl, b87'.celli 1 rfl rfl, b87'.celli 2 rfl rfl, b87'.celli 3 rfl rfl, b87'.celli 4 rfl rfl, b87'.celli 5 rfl rfl, b87'.celli 6 rfl rfl, b87'.celli 7 rfl rfl, b87'.celli 8 rfl rfl, b87'.celli 9 rfl rfl, b87'.celli 10 rfl rfl, b87'.celli 11 rfl rfl, b87'.celli 12 rfl rfl, b87'.celli 13 rfl rfl, b87'.celli 14 rfl rfl, b87'.celli 15 rfl rfl, b87'.celli 16 rfl rfl, b87'.celli 17 rfl rfl, b87'.celli 18 rfl rfl, b87'.celli 19 rfl rfl, trivial⟩,
        rfl, _, x34, (S34.trans s64.none).trans' s87 fun j hj => .inr (by rw [hj]; omega), rfl, rfl, (A34.ok.step s64).step s87⟩
    · have hok : frOK x34.r = false := by simpa using hok
      rw [hok, Bool.not_false, cond_true]
      have hr : readW b = (Fr.zero, 4) := by unfold readW; rw [if_neg hrd, hlk, if_neg (fun h => h rfl), hok]; rfl
      rw [hr]
      exact ⟨by decide, rfl, _, S34.trans s64.none⟩
end
open W (OwnB Rd numR countR doneR)
theorem Q4v (v : Value) (w : World) : (binOp .neq 20 (.iface 33 v) .nilIface).run Try.prog w = .ok (.bool true) w := by
  have h : ∀ d, (Op.equalIn (d + 1) 20 (.iface 33 v) .nilIface).run Try.prog w = .ok false w := fun d => by simp [Op.equalIn, run_underlying' Try.underlying20]
  have h2 : (Op.equal 20 (.iface 33 v) .nilIface).run Try.prog w = .ok false w := h _
  have e : binOp .neq 20 (.iface 33 v) .nilIface = (do pure (.bool (!(← Op.equal 20 (.iface 33 v) .nilIface)))) := rfl
  rw [e]
  simp [h2]
theorem Q2e (v : Value) (w : World) : (Instr.typeAssert (.iface 33 v) 20 33 false).run Try.prog w = .ok v w := by
  simp [Instr.typeAssert, run_underlying' Try.underlying33]
section
variable {w w' w1 : World} {o o' o1 : Own} {p q z y b t : Nat} {bs : List UInt8} {k : Int} {x : FP} {L : List Value} {K : Nat → Prop}
theorem cellsFr {t : TypeId} (bb : Blk w z t x.C) : cellsAt w (blk z) x.C 0 := ⟨bb.celli 0 rfl rfl, bb.celli 1 rfl rfl, bb.celli 2 rfl rfl, bb.celli 3 rfl rfl, bb.celli 4 rfl rfl, bb.celli 5 rfl rfl, bb.celli 6 rfl rfl, bb.celli 7 rfl rfl, bb.celli 8 rfl rfl, bb.celli 9 rfl rfl, bb.celli 10 rfl rfl, bb.celli 11 rfl rfl, bb.celli 12 rfl rfl, bb.celli 13 rfl rfl, bb.celli 14 rfl rfl, bb.celli 15 rfl rfl, bb.celli 16 rfl rfl, bb.celli 17 rfl rfl, bb.celli 18 rfl rfl, bb.celli 19 rfl rfl, trivial⟩
theorem Q35 (bz : Blk w z 38 x.C) (by_ : Blk w y 33 [.int .i64 k]) (hzy : z ≠ y) (j : Int) :
    CallsD Try.prog 32 #[.pointer (some (blk z)), .pointer (some (blk y))] (.panicking [kindP j]) w fun e u' w' => ∃ v, e = .returned v ∧ settle u' = .returning ∧ Ext (fun b => b = z ∨ b = y) w w' ∧ Blk w' z 38 FP.zero.C ∧ Blk w' y 33 [.int .i64 j] := by
  refine (frmBack.ok (blk z) (blk y) j (R := fun v u' w' => settle u' = .returning ∧ Ext (fun b => b = z ∨ b = y) w w' ∧ Blk w' z 38 FP.zero.C ∧ Blk w' y 33 [.int .i64 j]) ?_).mono fun e u' w' ⟨v, he, h⟩ => ⟨v, he, h⟩
  unfold frmBack.M
  refine ⟨true, Q4v _ _, ?_⟩
  rw [cond_true]
  refine Q00 fun w4 e4 => ?_
  have X4 : Ext (fun b => b = z ∨ b = y) w w4 := (Ext.refl _ w).x_drew e4
  have bz4 := bz.x_drew e4
  have by4 := by_.x_drew e4
  refine ⟨j, Q2e _ _, ?_⟩
  show putsK w4 ((blk z).add 0) FP.zero.C 0 _
  refine Q0S (k := 0) bz4 (by show 0 + 0 + 20 ≤ 20; decide) fun w25 X25 b25 => ⟨Q2e _ _, ?_⟩
  have b25' : Blk w25 z 38 FP.zero.C := Q1c b25 rfl
  have by25 := by4.ext X25 (fun e => hzy e.symm)
  refine ⟨by25.cani 0 rfl rfl, Q00 fun w26 e26 => ⟨rfl, ?_, ?_, by25.seti 0 rfl e26⟩⟩
  · exact (X4.trans (X25.mono fun b hb _ => .inl hb)).x_set (q := y) (i := 0) rfl (.inl (.inr rfl)) e26
  · have X26 : Ext (fun b => b = y) w25 w26 := (Ext.refl (fun b => b = y) w25).x_set (q := y) (i := 0) rfl (.inl rfl) e26
    exact b25'.ext X26 hzy
theorem Q39 (w : World) : CallsD Try.prog 32 #[.pointer (some (blk z)), .pointer (some (blk y))] .returning w fun e u' w' => ∃ v, e = .returned v ∧ settle u' = .returning ∧ w' = w := by
  refine (frmDone.ok (blk z) (blk y) (R := fun v u' w' => settle u' = .returning ∧ w' = w) ?_).mono fun e u' w' ⟨v, he, h⟩ => ⟨v, he, h⟩
  unfold frmDone.M
  exact ⟨rfl, rfl⟩
def readFr (b : List UInt8) : Fr × Int := if b.length > 4000 then (Fr.zero, 3) else readW b
theorem Q3e {a : Option Addr} {c : Nat} {b : List UInt8} (h : RowAt w a (bytesV b)) (hc : b.length ≤ c) :
    Calls Try.prog 13 #[.slice a b.length c] w fun e w' => ∃ x' : FP, e = .returned (.tuple #[x'.V, .int .i64 (readFr b).2]) ∧ x'.r = (readFr b).1 ∧ x'.at w' ∧ Ext no w w' := by
  refine (frmRead.ok a b.length c (R := fun v w' => ∃ x' : FP, v = .tuple #[x'.V, .int .i64 (readFr b).2] ∧ x'.r = (readFr b).1 ∧ x'.at w' ∧ Ext no w w') ?_).mono fun e w' ⟨v, he, x', hv, h⟩ => ⟨x', by rw [he, hv], h⟩
  unfold frmRead.M
  have tg0 : Tags w fun _ => none := fun b j _ h => by cases h
  have fin : ∀ {w1 : World} {o1 : Own}, Step no w (fun _ => none) w1 o1 → Ext no w w1 := fun {w1 o1} s => s.ext.mono fun b ⟨_, h, _⟩ _ => by cases h
  refine Q00 fun w2 e2 => Q00 fun w3 e3 => ?_
  obtain ⟨z, hz⟩ : ∃ z, w.heap.size = z := ⟨_, rfl⟩
  obtain ⟨y, hy⟩ : ∃ y, w2.heap.size = y := ⟨_, rfl⟩
  have X2 : Ext no w w2 := by subst e2; exact (Ext.refl _ _).alloc _
  have b2 : Blk w2 w.heap.size 38 FP.zero.C := by subst e2; exact Blk.new _ _ _
  have X3 : Ext no w2 w3 := by subst e3; exact (Ext.refl _ _).alloc _
  have b3 : Blk w3 w2.heap.size 33 [.int .i64 0] := by subst e3; exact Blk.new _ _ _
  rw [hz] at b2
  rw [hy] at b3
  rw [hz, hy]
  have s2 := (Step.of_no X2 tg0).tag (p := z) (j := z) (by omega) b2.lt
  have s3 := (Step.of_no X3 s2.ok).tag (p := y) (j := y) (by omega) b3.lt
  have hzy : z ≠ y := by have := b2.lt; omega
  have bz3 : Blk w3 z 38 FP.zero.C := b2.ext X3 id
  have tz3 : tag (grow w2 (tag (grow w fun _ => none) z z)) y y z = some z := by rw [tag_ne hzy, grow_lt b2.lt]; exact Q0V
  have ty3 : tag (grow w2 (tag (grow w fun _ => none) z z)) y y y = some y := Q0V
  have S3 := s2.trans s3
  generalize tag (grow w2 (tag (grow w fun _ => none) z z)) y y = o3 at *
  by_cases hl : b.length > 4000
  · rw [show decide ((b.length : Int) > 4000) = true from decide_eq_true (by omega), cond_true]
    have hr : readFr b = (Fr.zero, 3) := by unfold readFr; rw [if_pos hl]
    refine ⟨_, _, _, _, _, _, _, _, _, _, _, _, _, _, _, _, _, _, _, _, _, _, _, _, _, _, cellsFr bz3, ?_⟩
    show putsK w3 ((blk z).add 0) FP.zero.C 0 _
    refine Q0S (k := 0) bz3 (by show 0 + 0 + 20 ≤ 20; decide) fun w24 X24 b24 => ?_
    have b24' : Blk w24 z 38 FP.zero.C := Q1c b24 rfl
    have by24 := b3.ext X24 (fun e => hzy e.symm)
    refine ⟨by24.cani 0 rfl rfl, Q00 fun w25 e25 => ?_⟩
    have X25 : Ext (fun b => b = y) w24 w25 := (Ext.refl (fun b => b = y) w24).x_set (q := y) (i := 0) rfl (.inl rfl) e25
    have b25 := b24'.ext X25 hzy
    refine ⟨_, _, _, _, _, _, _, _, _, _, _, _, _, _, _, _, _, _, _, _, _, _, _, _, _, _, cellsFr b25, 3, (by24.seti 0 rfl e25).celli 0 rfl rfl, FP.zero, by rw [hr]; rfl, by rw [hr]; rfl, ⟨RowAt.nil _ _, RowAt.nil _ _, RowAt.nil _ _⟩, ?_⟩
    have Y3 := fin S3
    exact (Y3.then X24 fun b hb => .inr (by omega)).then X25 fun b hb => .inr (by have := X2.size; omega)
  · rw [show decide ((b.length : Int) > 4000) = false from decide_eq_false (by omega), cond_false]
    have hr : readFr b = readW b := by unfold readFr; rw [if_neg hl]
    refine (W.Read_spec (h.no (fin S3)) hc).mono fun e w55 ⟨p, he, hR, hp, X55⟩ => .inl ⟨_, he, Q00 fun w57 e57 => ?_⟩
    have s55 := (Step.of_no X55 S3.ok).tag (p := p) (j := p) hp hR.lt
    have X57 : Ext no w55 w57 := by subst e57; exact (Ext.refl _ _).alloc _
    have b57 : Blk w57 w55.heap.size 72 (rgC p FP.zero none 0 0) := by subst e57; exact Blk.new _ _ _
    obtain ⟨q, hq⟩ : ∃ q, w55.heap.size = q := ⟨_, rfl⟩
    rw [hq] at b57 ⊢
    have s57 := (Step.of_no X57 s55.ok).tag (p := q) (j := q) (by omega) b57.lt
    have hpq : p < q := by have := hR.lt; omega
    have hyp : y < p := by have := b3.lt; omega
    have hzp : z < p := by have := bz3.lt; omega
    have tp57 : tag (grow w55 (tag (grow w3 o3) p p)) q q p = some p := by rw [tag_ne (by omega), grow_lt hR.lt]; exact Q0V
    have A57 : RG w57 (tag (grow w55 (tag (grow w3 o3) p p)) q q) p q b 0 FP.zero [] :=
      ⟨hR.no X57, ⟨none, 0, b57, Go.Mx.Grows.nil _ _ _ _ _, fun ad ha => by cases ha⟩, tp57, Q0V, hpq, FP.own.zero _ _, by omega⟩
    have S57 := (S3.trans s55).trans s57
    have bz57 := (bz3.ext X55 id).ext X57 id
    have by57 := (b3.ext X55 id).ext X57 id
    have l3 := bz3.lt
    have l3' := b3.lt
    have l55 : z < w55.heap.size := Nat.lt_of_lt_of_le l3 X55.size
    have l55' : y < w55.heap.size := Nat.lt_of_lt_of_le l3' X55.size
    have tz57 : tag (grow w55 (tag (grow w3 o3) p p)) q q z = some z := by rw [tag_ne (by omega), grow_lt l55, tag_ne (by omega), grow_lt l3]; exact tz3
    have ty57 : tag (grow w55 (tag (grow w3 o3) p p)) q q y = some y := by rw [tag_ne (by omega), grow_lt l55', tag_ne (by omega), grow_lt l3']; exact ty3
    generalize tag (grow w55 (tag (grow w3 o3) p p)) q q = o57 at *
    refine (Q3x A57 S57.ok).mono fun e w79 ⟨o79, s79, hor⟩ => ?_
    have hz79 : ¬ PQ p q z := fun e => by rcases e with e | e <;> omega
    have hy79 : ¬ PQ p q y := fun e => by rcases e with e | e <;> omega
    have bz79 := s79.blk bz57 tz57 hz79
    have by79 := s79.blk by57 ty57 hy79
    have tz79 := (s79.own bz57.lt).trans tz57
    have ty79 := (s79.own by57.lt).trans ty57
    have S79 : Step no w (fun _ => none) w79 o79 := S57.trans' s79 fun j hj => .inr (by rcases hj with e | e <;> omega)
    have Y79 := fin S79
    rcases hor with ⟨hk, x', he, hx, hown⟩ | ⟨hk, he⟩
    · refine .inl ⟨_, _, _, _, _, _, _, _, _, _, _, _, _, _, _, _, _, _, _, _, _, _, _, _, _, _, he, ?_⟩
      show putsK w79 ((blk z).add 0) x'.C 0 _
      refine Q0S (k := 0) bz79 (by show 0 + 0 + 20 ≤ 20; decide) fun w81 X81 b81 => ?_
      have b81' : Blk w81 z 38 x'.C := Q1c b81 rfl
      have by81 := by79.ext X81 (fun e => hzy e.symm)
      refine ⟨by81.cani 0 rfl rfl, Q00 fun w82 e82 => ?_⟩
      have X82 : Ext (fun b => b = y) w81 w82 := (Ext.refl (fun b => b = y) w81).x_set (q := y) (i := 0) rfl (.inl rfl) e82
      have b82 := b81'.ext X82 hzy
      have s81 : Step (fun j => j = z) w79 o79 w81 _ := Step.of_ext X81 S79.ok fun b hb _ => by subst hb; exact tz79
      have s82 : Step (fun j => j = y) w81 _ w82 _ := Step.of_ext X82 s81.ok fun b hb _ => by subst hb; rw [s81.own by79.lt]; exact ty79
      have hat := ((hown.step s81).step s82).at
      refine (Q39 (z := z) (y := y) w82).mono fun e u' w49 ⟨v, he, hs, hw⟩ => ⟨v, he, hs, ?_⟩
      subst hw
      refine ⟨_, _, _, _, _, _, _, _, _, _, _, _, _, _, _, _, _, _, _, _, _, _, _, _, _, _, cellsFr b82, 0, (by81.seti 0 rfl e82).celli 0 rfl rfl, x', by rw [hr, hk]; rfl, by rw [hr]; exact hx, hat, ?_⟩
      exact (Y79.then X81 fun b hb => .inr (by omega)).then X82 fun b hb => .inr (by have := X2.size; omega)
    · refine .inr ⟨_, he, ?_⟩
      refine (Q35 bz79 by79 hzy (readW b).2).mono fun e u' w49 ⟨v, he, hs, X49, b49, by49⟩ => ⟨v, he, hs, ?_⟩
      have hfz : (readW b).1 = Fr.zero := by
        unfold readW at hk ⊢
        split
        · rfl
        · split
          · rfl
          · split
            · rename_i h1 h2 h3
              rw [if_neg h1, if_neg h2, if_pos h3] at hk
              exact absurd rfl hk
            · rfl
      refine ⟨_, _, _, _, _, _, _, _, _, _, _, _, _, _, _, _, _, _, _, _, _, _, _, _, _, _, cellsFr b49, _, by49.celli 0 rfl rfl, FP.zero, by rw [hr]; rfl, by rw [hr, hfz]; rfl, ⟨RowAt.nil _ _, RowAt.nil _ _, RowAt.nil _ _⟩, ?_⟩
      exact Y79.then X49 fun b hb => .inr (by have := X2.size; rcases hb with hb | hb <;> omega)
end
open W (OwnB Rd numR countR doneR)
def encE (e : Ent) : List UInt8 := numL (bytesL e).length ++ bytesL e
def encV (v : List Hd) : List UInt8 := numL (vecL v).length ++ vecL v
def frP (x : Fr) : List UInt8 :=
  if x.kd = 1 then encE x.e else if x.kd = 4 then encE x.e ++ encE x.f else if x.kd = 3 then numL x.who.toNat ++ encV x.v ++ numL x.sg.toNat else numL x.who.toNat ++ encV x.v
def frL (x : Fr) : List UInt8 := numL x.kd.toNat ++ frP x
def frK (x : Fr) : List UInt8 × Int := if frOK x = false then ([], 1) else if (frL x).length > 4000 then ([], 3) else (frL x, 0)
structure Fr.fit (x : Fr) : Prop where
  e : x.e.fit
  f : x.f.fit
  v : ∀ h ∈ x.v, 0 ≤ h.2.2 ∧ h.2.2 < 18446744073709551616
  sg : 0 ≤ x.sg ∧ x.sg < 18446744073709551616
theorem ent_len {e : Ent} (h : Q0z e = true) : (bytesL e).length ≤ 1180 := by
  have := ((Q13 e).1 h).2.2.2.2.2.2.2.2.2.1
  have := Q4j e
  omega
theorem Q4n {e : Ent} (h : Q0z e = true) : (encE e).length ≤ 1190 := by
  have := ent_len h
  have := W.numL_le (bytesL e).length
  unfold encE; rw [List.length_append]; omega
theorem vec_len {v : List Hd} (h : rightV v = true) : (vecL v).length ≤ 250 := by
  have := Q2h h
  have h1 := W.numL_le v.length
  have h2 := hdsL_le v
  unfold vecL; rw [List.length_append]; omega
theorem frOK_kd {x : Fr} (h : frOK x = true) : x.kd = 1 ∨ x.kd = 2 ∨ x.kd = 3 ∨ x.kd = 4 := by
  unfold frOK at h
  by_cases h1 : x.kd = 1
  · exact .inl h1
  by_cases h2 : x.kd = 2
  · exact .inr (.inl h2)
  by_cases h3 : x.kd = 3
  · exact .inr (.inr (.inl h3))
  by_cases h4 : x.kd = 4
  · exact .inr (.inr (.inr h4))
  rw [if_neg h1, if_neg h2, if_neg h3, if_neg h4] at h; cases h
theorem frOK_e {x : Fr} (h : frOK x = true) (hk : x.kd = 1 ∨ x.kd = 4) : Q0z x.e = true := by
  unfold frOK at h
  rcases hk with hk | hk
  · rw [if_pos hk, Bool.and_eq_true] at h; exact h.1
  · rw [if_neg (by omega), if_neg (by omega), if_neg (by omega), if_pos hk, Bool.and_eq_true] at h; exact h.1
theorem frOK_f {x : Fr} (h : frOK x = true) (hk : x.kd = 4) : Q0z x.f = true := by
  unfold frOK at h
  rw [if_neg (by omega), if_neg (by omega), if_neg (by omega), if_pos hk, Bool.and_eq_true, Bool.and_eq_true] at h; exact h.2.1
theorem frOK_v {x : Fr} (h : frOK x = true) (hk : x.kd = 2 ∨ x.kd = 3) : 0 ≤ x.who ∧ x.who < 8 ∧ rightV x.v = true := by
  unfold frOK at h
  rcases hk with hk | hk
  · rw [if_neg (by omega), if_pos hk] at h
    simp only [Bool.and_eq_true, decide_eq_true_eq] at h
    exact ⟨h.2.2.1, h.2.2.2.1, h.2.2.2.2.1⟩
  · rw [if_neg (by omega), if_neg (by omega), if_pos hk] at h
    simp only [Bool.and_eq_true, decide_eq_true_eq] at h
    exact ⟨h.2.2.1, h.2.2.2.1, h.2.2.2.2⟩
theorem vnat {v : List Hd} (hf : ∀ h ∈ v, 0 ≤ h.2.2 ∧ h.2.2 < 18446744073709551616) : rightV v = true → ∀ h ∈ v, natH h := fun hr h hh => Q4i (Q10 hr h hh) (hf h hh)
theorem frOK_1 {x : Fr} (h : frOK x = true) (hk : x.kd = 1) : Q0z x.e = true ∧ x.f = Ent.zero ∧ x.who = 0 ∧ x.v = [] ∧ x.sg = 0 := by
  unfold frOK at h
  rw [if_pos hk] at h
  simp only [Bool.and_eq_true, decide_eq_true_eq] at h
  exact ⟨h.1, h.2.1, h.2.2.1, List.eq_nil_of_length_eq_zero h.2.2.2.1, h.2.2.2.2⟩
theorem frOK_2 {x : Fr} (h : frOK x = true) (hk : x.kd = 2) : x.e = Ent.zero ∧ x.f = Ent.zero ∧ 0 ≤ x.who ∧ x.who < 8 ∧ rightV x.v = true ∧ x.sg = 0 := by
  unfold frOK at h
  rw [if_neg (by omega), if_pos hk] at h
  simp only [Bool.and_eq_true, decide_eq_true_eq] at h
  exact h
theorem frOK_3 {x : Fr} (h : frOK x = true) (hk : x.kd = 3) : x.e = Ent.zero ∧ x.f = Ent.zero ∧ 0 ≤ x.who ∧ x.who < 8 ∧ rightV x.v = true := by
  unfold frOK at h
  rw [if_neg (by omega), if_neg (by omega), if_pos hk] at h
  simp only [Bool.and_eq_true, decide_eq_true_eq] at h
  exact h
theorem frOK_4 {x : Fr} (h : frOK x = true) (hk : x.kd = 4) : Q0z x.e = true ∧ Q0z x.f = true ∧ x.who = 0 ∧ x.v = [] ∧ x.sg = 0 := by
  unfold frOK at h
  rw [if_neg (by omega), if_neg (by omega), if_neg (by omega), if_pos hk] at h
  simp only [Bool.and_eq_true, decide_eq_true_eq] at h
  exact ⟨h.1, h.2.1, h.2.2.1, List.eq_nil_of_length_eq_zero h.2.2.2.1, h.2.2.2.2⟩
theorem Q1J {i : Nat} {c : List UInt8} {f : Fr} (h : (f.put (i, c)).2 = 0) : looks [(i, c)] f = ((f.put (i, c)).1, 0) := by
  unfold looks; rw [if_pos h]; rfl
theorem Q47 {c : Nat × List UInt8} {l : List (Nat × List UInt8)} {f : Fr} (h : (f.put c).2 = 0) : looks (c :: l) f = looks l (f.put c).1 := by
  rw [looks, if_pos h]
theorem Q4m {x : Fr} (hk : frOK x = true) (hf : x.fit) (r : List UInt8) :
    kdS x.kd.toNat (frP x ++ r, 0) = (r, 0) ∧ looks (kdL x.kd.toNat (frP x ++ r, 0)) (kdF x.kd.toNat { Fr.zero with kd := x.kd } (frP x ++ r, 0)) = (x, 0) := by
  have hkd := frOK_kd hk
  obtain ⟨kd, e, f, who, v, sg⟩ := x
  obtain ⟨fe, ff, fv, fs⟩ := hf
  simp only at fe ff fv fs hkd
  rcases hkd with h | h | h | h <;> subst h
  · obtain ⟨h1, h2, h3, h4, h5⟩ := frOK_1 hk rfl
    simp only at h1 h2 h3 h4 h5
    subst h2; subst h3; subst h4; subst h5
    have hl := ent_len h1
    have q := Q0O (x := bytesL e) (m := 4000) (by omega) (by omega) r
    have ep : frP ⟨1, e, Ent.zero, 0, [], 0⟩ ++ r = numL (bytesL e).length ++ (bytesL e ++ r) := by
      show (numL (bytesL e).length ++ bytesL e) ++ r = _
      rw [List.append_assoc]
    rw [ep]
    refine ⟨?_, ?_⟩
    · show (bytesR 4000 _).2 = _
      rw [q]
    · show looks [(0, (bytesR 4000 _).1)] ⟨1, Ent.zero, Ent.zero, 0, [], 0⟩ = _
      rw [q]
      have hr := Q1B h1 fe
      have hp : Fr.put ⟨1, Ent.zero, Ent.zero, 0, [], 0⟩ (0, bytesL e) = (⟨1, e, Ent.zero, 0, [], 0⟩, 0) := by
        show ((⟨1, (readE (bytesL e)).1, Ent.zero, 0, [], 0⟩ : Fr), (readE (bytesL e)).2) = _
        rw [hr]
      rw [Q1J (by show (Fr.put _ (0, bytesL e)).2 = 0; rw [hp]), hp]
  · obtain ⟨h1, h2, h3, h4, h5, h6⟩ := frOK_2 hk rfl
    simp only at h1 h2 h3 h4 h5 h6
    subst h1; subst h2; subst h6
    have hl := vec_len h5
    have q1 := W.countR_write (n := who.toNat) (m := 7) (by omega) (by omega) (numL (vecL v).length ++ (vecL v ++ r))
    have q := Q0O (x := vecL v) (m := 4000) (by omega) (by omega) r
    have ep : frP ⟨2, Ent.zero, Ent.zero, who, v, 0⟩ ++ r = numL who.toNat ++ (numL (vecL v).length ++ (vecL v ++ r)) := by
      show (numL who.toNat ++ (numL (vecL v).length ++ vecL v)) ++ r = _
      simp only [List.append_assoc]
    rw [ep]
    refine ⟨?_, ?_⟩
    · show (bytesR 4000 (countR 7 _).2).2 = _
      rw [q1, q]
    · show looks [(2, (bytesR 4000 (countR 7 _).2).1)] ⟨2, Ent.zero, Ent.zero, ((countR 7 _).1 : Nat), [], 0⟩ = _
      rw [q1, q]
      have hr := Q2a h5 fv
      have hp : Fr.put ⟨2, Ent.zero, Ent.zero, (who.toNat : Nat), [], 0⟩ (2, vecL v) = (⟨2, Ent.zero, Ent.zero, who, v, 0⟩, 0) := by
        show ((⟨2, Ent.zero, Ent.zero, (who.toNat : Nat), (readV (vecL v)).1, 0⟩ : Fr), (readV (vecL v)).2) = _
        rw [hr, Int.toNat_of_nonneg h3]
      rw [Q1J (by show (Fr.put _ (2, vecL v)).2 = 0; rw [hp]), hp]
  · obtain ⟨h1, h2, h3, h4, h5⟩ := frOK_3 hk rfl
    simp only at h1 h2 h3 h4 h5
    subst h1; subst h2
    have hl := vec_len h5
    have q1 := W.countR_write (n := who.toNat) (m := 7) (by omega) (by omega) (numL (vecL v).length ++ (vecL v ++ (numL sg.toNat ++ r)))
    have q := Q0O (x := vecL v) (m := 4000) (by omega) (by omega) (numL sg.toNat ++ r)
    have q3 := W.numR_write (n := sg.toNat) (by omega) r
    have ep : frP ⟨3, Ent.zero, Ent.zero, who, v, sg⟩ ++ r = numL who.toNat ++ (numL (vecL v).length ++ (vecL v ++ (numL sg.toNat ++ r))) := by
      show (numL who.toNat ++ (numL (vecL v).length ++ vecL v) ++ numL sg.toNat) ++ r = _
      simp only [List.append_assoc]
    rw [ep]
    refine ⟨?_, ?_⟩
    · show (numR (bytesR 4000 (countR 7 _).2).2).2 = _
      rw [q1, q, q3]
    · show looks [(2, (bytesR 4000 (countR 7 _).2).1)] ⟨3, Ent.zero, Ent.zero, ((countR 7 _).1 : Nat), [], ((numR (bytesR 4000 (countR 7 _).2).2).1 : Nat)⟩ = _
      rw [q1, q, q3]
      have hr := Q2a h5 fv
      have hp : Fr.put ⟨3, Ent.zero, Ent.zero, (who.toNat : Nat), [], (sg.toNat : Nat)⟩ (2, vecL v) = (⟨3, Ent.zero, Ent.zero, who, v, sg⟩, 0) := by
        show ((⟨3, Ent.zero, Ent.zero, (who.toNat : Nat), (readV (vecL v)).1, (sg.toNat : Nat)⟩ : Fr), (readV (vecL v)).2) = _
        rw [hr, Int.toNat_of_nonneg h3, Int.toNat_of_nonneg fs.1]
      rw [Q1J (by show (Fr.put _ (2, vecL v)).2 = 0; rw [hp]), hp]
  · obtain ⟨h1, h2, h3, h4, h5⟩ := frOK_4 hk rfl
    simp only at h1 h2 h3 h4 h5
    subst h3; subst h4; subst h5
    have hl := ent_len h1
    have hl2 := ent_len h2
    have q := Q0O (x := bytesL e) (m := 4000) (by omega) (by omega) (numL (bytesL f).length ++ (bytesL f ++ r))
    have q2 := Q0O (x := bytesL f) (m := 4000) (by omega) (by omega) r
    have ep : frP ⟨4, e, f, 0, [], 0⟩ ++ r = numL (bytesL e).length ++ (bytesL e ++ (numL (bytesL f).length ++ (bytesL f ++ r))) := by
      show ((numL (bytesL e).length ++ bytesL e) ++ (numL (bytesL f).length ++ bytesL f)) ++ r = _
      simp only [List.append_assoc]
    rw [ep]
    refine ⟨?_, ?_⟩
    · show (bytesR 4000 (bytesR 4000 _).2).2 = _
      rw [q, q2]
    · show looks [(0, (bytesR 4000 _).1), (1, (bytesR 4000 (bytesR 4000 _).2).1)] ⟨4, Ent.zero, Ent.zero, 0, [], 0⟩ = _
      rw [q, q2]
      have hr := Q1B h1 fe
      have hr2 := Q1B h2 ff
      have hp : Fr.put ⟨4, Ent.zero, Ent.zero, 0, [], 0⟩ (0, bytesL e) = (⟨4, e, Ent.zero, 0, [], 0⟩, 0) := by
        show ((⟨4, (readE (bytesL e)).1, Ent.zero, 0, [], 0⟩ : Fr), (readE (bytesL e)).2) = _
        rw [hr]
      have hp2 : Fr.put ⟨4, e, Ent.zero, 0, [], 0⟩ (1, bytesL f) = (⟨4, e, f, 0, [], 0⟩, 0) := by
        show ((⟨4, e, (readE (bytesL f)).1, 0, [], 0⟩ : Fr), (readE (bytesL f)).2) = _
        rw [hr2]
      rw [Q47 (by show (Fr.put _ (0, bytesL e)).2 = 0; rw [hp]), hp, Q1J (by show (Fr.put _ (1, bytesL f)).2 = 0; rw [hp2]), hp2]
theorem Q3Y {x : Fr} (hk : frOK x = true) (hf : x.fit) (r : List UInt8) : readW (frL x ++ r) = if r.length > 0 then (Fr.zero, 4) else (x, 0) := by
  have hkd := frOK_kd hk
  have q : countR 4 (frL x ++ r, 0) = (x.kd.toNat, (frP x ++ r, 0)) := by
    unfold frL
    rw [List.append_assoc]
    exact W.countR_write (by omega) (by omega) _
  obtain ⟨k1, k2⟩ := Q4m hk hf r
  have hd : frDone (frL x ++ r) = doneR (r, 0) := by unfold frDone; rw [q]; simp only; rw [k1]
  have hL : frLooks (frL x ++ r) = (x, 0) := by
    unfold frLooks frStart
    rw [q]
    simp only
    rw [show ((x.kd.toNat : Nat) : Int) = x.kd by omega]
    exact k2
  unfold readW
  rw [hd, hL]
  by_cases h : r.length > 0
  · rw [if_pos h, show doneR (r, 0) = 4 by unfold doneR; rw [if_pos rfl, if_pos h]]; rfl
  · rw [if_neg h, show doneR (r, 0) = 0 by unfold doneR; rw [if_pos rfl, if_neg h], if_neg (fun h => h rfl), if_neg (fun h => h rfl), if_pos hk]
theorem Q4k : Ent.zero.fit := ⟨by decide, by decide, by decide, by decide⟩
theorem Q2U {x : Fr} (hk : frOK x = true) (hf : x.fit) (hl : (frL x).length ≤ 4000) : readFr (frL x) = (x, 0) := by
  unfold readFr
  rw [if_neg (by omega)]
  have := Q3Y hk hf []
  rw [List.append_nil] at this
  rw [this]; rfl
end Go.Proofs.Ytoempemllkebkaa