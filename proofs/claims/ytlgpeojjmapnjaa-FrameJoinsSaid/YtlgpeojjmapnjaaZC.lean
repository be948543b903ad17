/- The vector of bytes; VectorBack. -/
import Derived.Test.YtlgpeojjmapnjaaZB
import Derived.Test.YtlgpeojjmapnjaaZA
import Derived.Recover
import Derived.ArgAppend
set_option linter.unusedVariables false
set_option linter.unusedSimpArgs false
set_option maxRecDepth 20000
namespace Go.Proofs.Ytlgpeojjmapnjaa
open Go Go.Mx Go.Proofs
open W (OwnB Rd GivesW numR countR doneR)
section
variable {w w' : World} {a : Option Addr} {c : Nat} {hs : List Hd}
theorem OwnH.mono {N M : Nat} (h : OwnH N w a c hs) (hM : M ≤ N) : OwnH M w a c hs := ⟨h.own, fun ad ha => ⟨Nat.le_trans hM (h.fr ad ha).1, (h.fr ad ha).2⟩⟩
theorem Q1U (m : Int) (s : List UInt8 × Int) (hm : 0 ≤ m) : ((countR m s).1 : Int) ≤ m := by
  unfold countR
  split
  · split
    · exact hm
    · rename_i h; exact Decidable.byContradiction fun e => h (.inr (by omega))
  · exact hm

theorem Q3R {b : List UInt8} (hr : RowAt w a (bytesV b)) (hc : b.length ≤ c) (hl : b.length < 1000000) :
    Calls Try.prog 93 #[.slice a b.length c] w (fun e w' => ∃ ra rc, e = .returned (.tuple #[.slice ra (readV b).1.length rc, .int .i64 (readV b).2]) ∧ OwnH w.heap.size w' ra rc (readV b).1 ∧ Ext no w w') := by
  refine (vRead.ok _ _ _ (R := fun v w' => ∃ ra rc, v = .tuple #[.slice ra (readV b).1.length rc, .int .i64 (readV b).2] ∧ OwnH w.heap.size w' ra rc (readV b).1 ∧ Ext no w w') ?_).mono fun e w' ⟨v, he, ra, rc, hv, hw⟩ => ⟨ra, rc, by rw [he, hv], hw⟩
  unfold vRead.M
  refine (W.Read_spec hr hc).mono fun e w4 ⟨p, he, hR4, hp, x4⟩ => ⟨_, he, ?_⟩
  have pnew : ∀ {w1 w2 : World}, Ext no w w1 → Ext (fun b => b = p) w1 w2 → Ext no w w2 := fun h k => h.then k fun q hq => .inr (by omega)
  refine (W.Count_spec hR4 hl (m := 8) (by decide)).mono fun e w7 ⟨he, hR7, x7'⟩ => ⟨_, he, ?_⟩
  have x7 := pnew x4 x7'
  have hn8 := Q1U 8 (b, 0) (by decide)
  have hcl := W.countR_len 8 (b, 0)
  have nilH : ∀ N w1, OwnH N w1 none 0 [] := fun N w1 => ⟨Q4r _ _ _, fun ad ha => by cases ha⟩
  refine ⟨fun k vs w1 => ∃ (t : Nat) (va : Option Addr) (vc : Nat) (l : List Hd) (s : List UInt8 × Int), vs = [.slice va l.length vc, .int .i64 t] ∧ k + t = (countR 8 (b, 0)).1 ∧ l.length = t ∧ Rd w1 p s.1 s.2 ∧ s.1.length ≤ b.length ∧ OwnH (p + 1) w1 va vc l ∧ (∀ ad, va = some ad → ad.block ≠ p) ∧ readF k l s = readAll b ∧ Ext no w w1, (countR 8 (b, 0)).1,
    ⟨0, none, 0, [], (countR 8 (b, 0)).2, rfl, rfl, rfl, hR7, hcl, nilH _ _, (fun ad ha => by cases ha), rfl, x7⟩, ?_⟩
  rintro k w12 v0 n0 c0 i ⟨t, va, vc, l, s, hvs, hk, hlt2, hR, hsl, hO, hOp, hF, hx⟩
  simp only [List.cons.injEq, Value.int.injEq, Value.slice.injEq, true_and, and_true] at hvs
  obtain ⟨⟨rfl, rfl, rfl⟩, rfl⟩ := hvs
  cases k with
  | zero =>
    rw [show decide ((t : Int) < ((countR 8 (b, 0)).1 : Int)) = false by simp; omega, cond_false]
    simp only [readF] at hF
    refine (W.Done_spec hR).mono fun e w35 ⟨he, hw⟩ => ⟨_, he, ?_⟩
    subst hw
    unfold readV
    rw [← hF]
    by_cases hd : doneR (s.1, s.2) ≠ 0
    · rw [show (doneR (s.1, s.2) != 0) = true by simpa using hd, cond_true, if_pos hd]
      exact ⟨none, 0, rfl, nilH _ _, hx⟩
    · rw [show (doneR (s.1, s.2) != 0) = false by simpa using hd, cond_false, if_neg hd]
      refine (Q1p hO.row (by have := hn8; omega)).mono fun e w38 ⟨he, x38⟩ => ⟨_, he, ?_⟩
      by_cases hri : rightV l = true
      · rw [hri, Bool.not_true, cond_false, if_pos rfl]
        exact ⟨_, _, rfl, (hO.ext x38 (fun _ _ h => h)).mono (by omega), hx.trans x38⟩
      · rw [show rightV l = false by simpa using hri, Bool.not_false, cond_true, if_neg (by decide)]
        exact ⟨none, 0, rfl, nilH _ _, hx.trans x38⟩
  | succ k =>
    rw [show decide ((t : Int) < ((countR 8 (b, 0)).1 : Int)) = true by simp; omega, cond_true]
    refine Q00 fun w13 h13 => ?_
    have x13' : Ext no w12 w13 := by subst h13; exact (Ext.refl _ _).alloc _
    have hH13 : Blk w13 w12.heap.size 95 (hdC (0, 0, 0)) := by subst h13; exact Blk.new _ _ _
    have x13 := hx.trans x13'
    have hpl0 := W.Rd.lt hR
    have hpH : w12.heap.size ≠ p := by omega
    have hR13 := W.Rd.no hR x13'
    have hO13 := hO.ext x13' (fun _ _ h => h)
    -- three numbers
    refine (W.Count_spec hR13 (Nat.lt_of_le_of_lt hsl hl) (m := 7) (by decide)).mono fun e w16 ⟨he, hR16, x16'⟩ => ⟨_, he, ?_⟩
    have l16 : (countR 7 (s.1, s.2)).2.1.length ≤ s.1.length := W.countR_len 7 (s.1, s.2)
    have x16 := pnew x13 x16'
    have hH16 := hH13.ext x16' hpH
    have hO16 := hO13.ext x16' hOp
    rw [Q0X]
    refine ⟨hH16.cana (i := 0) rfl, Q00 fun w17 h17 => ?_⟩
    have hH17 : Blk w17 w12.heap.size 95 (hdC ((countR 7 (s.1, s.2)).1, 0, 0)) := by subst h17; exact hH16.seta 0 _
    have x17' : Ext (fun b => b = w12.heap.size) w16 w17 := by subst h17; exact (Ext.refl (fun b => b = w12.heap.size) w16).setCell (a := (blk w12.heap.size).add 0) (.inl rfl) _
    have hR17 := W.Rd.up hR16 x17' (fun q hq => by omega)
    have hOH : ∀ ad, v0 = some ad → ¬ ad.block = w12.heap.size := fun ad ha e => by have := (hO.fr ad ha).2; omega
    have hO17 := hO16.ext x17' hOH
    have x17 : Ext no w w17 := x16.then x17' fun q hq => .inr (by have := hx.size; omega)
    refine (W.Count_spec hR17 (Nat.lt_of_le_of_lt (Nat.le_trans l16 hsl) hl) (m := 200) (by decide)).mono fun e w20 ⟨he, hR20, x20'⟩ => ⟨_, he, ?_⟩
    have l20 : (countR 200 (countR 7 (s.1, s.2)).2).2.1.length ≤ (countR 7 (s.1, s.2)).2.1.length := W.countR_len 200 (countR 7 (s.1, s.2)).2
    have x20 := pnew x17 x20'
    have hH20 := hH17.ext x20' hpH
    have hO20 := hO17.ext x20' hOp
    rw [Q0X]
    refine ⟨hH20.cana (i := 1) rfl, Q00 fun w21 h21 => ?_⟩
    have hH21 : Blk w21 w12.heap.size 95 (hdC ((countR 7 (s.1, s.2)).1, (countR 200 (countR 7 (s.1, s.2)).2).1, 0)) := by subst h21; exact hH20.seta 1 _
    have x21' : Ext (fun b => b = w12.heap.size) w20 w21 := by subst h21; exact (Ext.refl (fun b => b = w12.heap.size) w20).setCell (a := (blk w12.heap.size).add 1) (.inl (by rw [add_blk])) _
    have hR21 := W.Rd.up hR20 x21' (fun q hq => by omega)
    have hO21 := hO20.ext x21' hOH
    have x21 : Ext no w w21 := x20.then x21' fun q hq => .inr (by have := hx.size; omega)
    refine (W.RNum_spec hR21 (Nat.lt_of_le_of_lt (Nat.le_trans l20 (Nat.le_trans l16 hsl)) hl)).mono fun e w24 ⟨he, hR24, x24'⟩ => ⟨_, he, ?_⟩
    have l24 : (numR (countR 200 (countR 7 (s.1, s.2)).2).2).2.1.length ≤ (countR 200 (countR 7 (s.1, s.2)).2).2.1.length := W.numR_len (countR 200 (countR 7 (s.1, s.2)).2).2
    have x24 := pnew x21 x24'
    have hH24 := hH21.ext x24' hpH
    have hO24 := hO21.ext x24' hOp
    rw [Q0X]
    refine ⟨hH24.cana (i := 2) rfl, Q00 fun w25 h25 => ?_⟩
    have hH25 : Blk w25 w12.heap.size 95 (hdC ((countR 7 (s.1, s.2)).1, (countR 200 (countR 7 (s.1, s.2)).2).1, (numR (countR 200 (countR 7 (s.1, s.2)).2).2).1)) := by subst h25; exact hH24.seta 2 _
    have x25' : Ext (fun b => b = w12.heap.size) w24 w25 := by subst h25; exact (Ext.refl (fun b => b = w12.heap.size) w24).setCell (a := (blk w12.heap.size).add 2) (.inl (by rw [add_blk])) _
    have hR25 := W.Rd.up hR24 x25' (fun q hq => by omega)
    have hO25 := hO24.ext x25' hOH
    have x25 : Ext no w w25 := x24.then x25' fun q hq => .inr (by have := hx.size; omega)
    refine ⟨_, _, _, ⟨hH25.cella (i := 0) rfl, hH25.cella (i := 1) rfl, hH25.cella (i := 2) rfl, trivial⟩, Q00 fun w29 h29 => ?_⟩
    have x29' : Ext no w25 w29 := by subst h29; exact (Ext.refl _ _).alloc _
    have hb29 : Blk w29 w25.heap.size 95 (hdC ((countR 7 (s.1, s.2)).1, (countR 200 (countR 7 (s.1, s.2)).2).1, (numR (countR 200 (countR 7 (s.1, s.2)).2).2).1)) := by subst h29; exact Blk.new _ _ _
    have x29 := x25.trans x29'
    have hO29 := hO25.ext x29' (fun _ _ h => h)
    obtain ⟨a', c', w31, hrun, hO31, x31', hblk⟩ := hO29.push (ty := 36) Try.underlying36 (by have := W.Rd.lt hR25; have := x29'.size; omega) (by omega) (RowAt.of_blk hb29)
    have hlast : w25.heap.size + 1 = w29.heap.size := by subst h29; simp
    have hpl : p < w25.heap.size := W.Rd.lt hR25
    have hR29 := W.Rd.no hR25 x29'
    -- the append turns the row of the heads, or makes another
    have hR31 : Rd w31 p (numR (countR 200 (countR 7 (s.1, s.2)).2).2).2.1 (numR (countR 200 (countR 7 (s.1, s.2)).2).2).2.2  := W.Rd.up hR29 x31' fun q hq => by have := hq.1; omega
    refine ⟨a', _, c', w31, hrun, k, by omega, t + 1, a', c', _, (numR (countR 200 (countR 7 (s.1, s.2)).2).2).2, ?_, by omega, ?_, hR31, by omega, hO31, fun ad ha => ?_, hF, x29.then x31' fun q hq => .inr (by have := hq.1; omega)⟩
    · rw [w64 (by omega) (by omega), List.length_append]; rfl
    · rw [List.length_append]; simp; omega
    · rcases hblk ad ha with ⟨b0, hb0, e0⟩ | h
      · rw [e0]; exact hOp b0 hb0
      · omega

theorem eqf_step {P : Program} {w : World} {d : Nat} {xs ys : Array Value} {f : Field} {fs : List Field} {a b : Value} {r : Bool} (n : f.name ≠ "_") (qa : (part f.type xs f.offset).run P w = .ok a w) (qb : (part f.type ys f.offset).run P w = .ok b w) (he : (Op.equalIn d f.type a b).run P w = .ok r w) :
    (Op.eqFields d xs ys (f :: fs)).run P w = if r then (Op.eqFields d xs ys fs).run P w else .ok false w := by
  simp only [Op.eqFields, n, ne_eq, not_false_eq_true, if_true, Sem.run_bind, qa, qb, he, Result.andThen_ok]
  cases r <;> simp
theorem sameB_spec {a b : Option Addr} {c d : Nat} {x y : List UInt8} (ha : RowAt w a (bytesV x)) (hb : RowAt w b (bytesV y)) (hx : x.length < 1000000) :
    Calls Try.prog 14 #[.slice a x.length c, .slice b y.length d] w (GivesV (.bool (decide (x = y))) fun w' => Ext no w w') := by
  refine (wSame.ok _ _ _ _ _ _ (R := fun v w' => v = .bool (decide (x = y)) ∧ Ext no w w') ?_).mono fun e w' ⟨v, he, hv, hw⟩ => ⟨by rw [he, hv], hw⟩
  unfold wSame.M
  by_cases hl : x.length = y.length
  · have hl' : ((x.length : Int) != (y.length : Int)) = false := by simp [hl]
    rw [hl', cond_false]
    refine ⟨fun k vs w1 => ∃ i : Nat, vs = [.int .i64 i] ∧ k = x.length - i ∧ i ≤ x.length ∧ x.take i = y.take i ∧ Ext no w w1, x.length, ⟨0, rfl, rfl, Nat.zero_le _, rfl, Ext.refl _ _⟩, ?_⟩
    rintro k w1 i3 ⟨i, hi, rfl, hle, ht, hw⟩
    simp only [List.cons.injEq, Value.int.injEq, true_and, and_true] at hi
    subst hi
    by_cases hlt : i < x.length
    · have hd : decide ((i : Int) < (x.length : Int)) = true := by simp [hlt]
      rw [hd, cond_true]
      refine Q00 fun w7 h7 => ?_
      have hw7 : Ext no w w7 := hw.trans (by subst h7; exact (Ext.refl _ _).drew)
      have hi2 : i < y.length := hl ▸ hlt
      have hax := ha.ext hw7 (fun _ _ h => h)
      have hby := hb.ext hw7 (fun _ _ h => h)
      obtain ⟨ad, rfl⟩ := hax.addr (by intro e; rw [bytesV, List.map_eq_nil_iff] at e; subst e; simp at hlt)
      obtain ⟨bd, rfl⟩ := hby.addr (by intro e; rw [bytesV, List.map_eq_nil_iff] at e; subst e; simp at hi2)
      refine ⟨by omega, by omega, x[i].toNat, ?_, by omega, by omega, y[i].toNat, ?_, ?_⟩
      · rw [show Int.toNat (i : Int) * 1 = i by omega]; exact hax.at_ (Q0P hlt)
      · rw [show Int.toNat (i : Int) * 1 = i by omega]; exact hby.at_ (Q0P hi2)
      · by_cases he : x[i] = y[i]
        · have h1 : ((x[i].toNat : Int) != (y[i].toNat : Int)) = false := by simp [he]
          rw [h1, cond_false]
          refine ⟨x.length - (i + 1), by omega, i + 1, by rw [w64 (by omega) (by omega)]; rfl, rfl, by omega, ?_, hw7⟩
          rw [List.take_add_one, List.take_add_one, ht]; simp [hlt, hi2, he]
        · have h1 : ((x[i].toNat : Int) != (y[i].toNat : Int)) = true := by
            simp only [bne_iff_ne, ne_eq, Int.natCast_inj, UInt8.toNat_inj]; exact he
          rw [h1, cond_true]
          exact ⟨by rw [decide_eq_false]; rintro rfl; exact he rfl, hw7⟩
    · have hd : decide ((i : Int) < (x.length : Int)) = false := by simp; omega
      rw [hd, cond_false]
      obtain rfl : i = x.length := by omega
      refine ⟨?_, hw⟩
      have : x = y := by
        rw [List.take_length] at ht
        rw [hl, List.take_length] at ht
        exact ht
      simp [this]
  · have hl' : ((x.length : Int) != (y.length : Int)) = true := by simp; omega
    rw [hl', cond_true]
    exact ⟨by rw [decide_eq_false]; rintro rfl; exact hl rfl, Ext.refl _ _⟩
end

/-! ### the plain law: what is written is read, and what is read is what was written -/
theorem numR_write {n : Nat} (h : n < 18446744073709551616) (r : List UInt8) : numR (numL n ++ r, 0) = (n, (r, 0)) := by
  unfold numR; rw [if_pos rfl, rd_num h]
theorem countR_write {n : Nat} {m : Int} (h : n < 18446744073709551616) (hm : (n : Int) ≤ m) (r : List UInt8) : countR m (numL n ++ r, 0) = (n, (r, 0)) := by
  unfold countR
  rw [numR_write h, if_pos rfl, if_neg (by show ¬ (m < 0 ∨ (n : Int) > m); omega)]
theorem Q2B {s : List UInt8 × Int} (h : s.2 ≠ 0) : (numR s).2.2 ≠ 0 := by
  unfold numR; rw [if_neg h]; exact h
theorem Q1I {s : List UInt8 × Int} (h : (numR s).2.2 = 0) : s.2 = 0 ∧ s.1 = numL (numR s).1 ++ (numR s).2.1 := by
  have h0 : s.2 = 0 := Decidable.byContradiction fun e => Q2B e h
  refine ⟨h0, ?_⟩
  unfold numR at h ⊢
  rw [if_pos h0] at h ⊢
  cases hr : rdNum s.1 with
  | none => rw [hr] at h; exact absurd h (by decide)
  | some q => obtain ⟨n, r⟩ := q; exact (rd_back hr).1
theorem Q1c {m : Int} {s : List UInt8 × Int} (h : (countR m s).2.2 = 0) : s.2 = 0 ∧ s.1 = numL (countR m s).1 ++ (countR m s).2.1 := by
  unfold countR at h ⊢
  by_cases h1 : (numR s).2.2 = 0
  · rw [if_pos h1] at h ⊢
    by_cases h2 : m < 0 ∨ ((numR s).1 : Int) > m
    · rw [if_pos h2] at h; exact absurd h (by decide)
    · rw [if_neg h2]; exact Q1I h1
  · rw [if_neg h1] at h; exact absurd h h1
theorem Q2i : ∀ (hs l : List Hd), (∀ h ∈ hs, rhead h = true ∧ 0 ≤ h.2.2 ∧ h.2.2 < 18446744073709551616) → readF hs.length l (hs.flatMap hdL, 0) = (l ++ hs, ([], 0))
  | [], l, _ => by simp [readF]
  | h :: r, l, hh => by
    obtain ⟨h1, h2, h3⟩ := hh h List.mem_cons_self
    simp only [rhead, Bool.and_eq_true, decide_eq_true_eq] at h1
    obtain ⟨a1, a2, a3, a4, _⟩ := h1
    simp only [List.length_cons, readF, List.flatMap_cons, hdL, List.append_assoc]
    rw [countR_write (by omega) (by omega), countR_write (by omega) (by omega), numR_write (by omega)]
    have he : (((h.1.toNat : Nat) : Int), ((h.2.1.toNat : Nat) : Int), ((h.2.2.toNat : Nat) : Int)) = h := by
      obtain ⟨x, y, z⟩ := h
      simp only at *
      rw [Int.toNat_of_nonneg (by omega), Int.toNat_of_nonneg (by omega), Int.toNat_of_nonneg (by omega)]
    simp only []
    rw [he, Q2i r (l ++ [h]) fun q hq => hh q (List.mem_cons_of_mem _ hq)]
    simp
theorem Q2k : ∀ (n : Nat) (l : List Hd) (s : List UInt8 × Int), (readF n l s).2.2 = 0 → s.2 = 0 ∧ ∃ hs : List Hd, (readF n l s).1 = l ++ hs ∧ hs.length = n ∧ s.1 = hs.flatMap hdL ++ (readF n l s).2.1 ∧ ∀ h ∈ hs, natH h
  | 0, l, s, h => ⟨h, [], by simp [readF], rfl, rfl, by simp⟩
  | n + 1, l, s, h => by
    simp only [readF] at h ⊢
    obtain ⟨k3, hs, e1, e2, e3, e4⟩ := Q2k n _ _ h
    obtain ⟨k2, f2⟩ := Q1I k3
    obtain ⟨k1, f1⟩ := Q1c k2
    obtain ⟨k0, f0⟩ := Q1c k1
    have l1 := Q1U 7 s (by decide)
    have l2 := Q1U 200 (countR 7 s).2 (by decide)
    have l3 := W.numR_lt (countR 200 (countR 7 s).2).2
    refine ⟨k0, _ :: hs, by rw [e1, List.append_assoc]; rfl, by rw [List.length_cons, e2], ?_, fun q hq => ?_⟩
    · rw [f0, f1, f2, e3]
      simp [hdL]
    · rcases List.mem_cons.1 hq with rfl | hq
      · refine ⟨?_, ?_, ?_, ?_, ?_, ?_⟩ <;> first | omega | (dsimp only; omega)
      · exact e4 q hq
theorem Q1Y {hs : List Hd} (h : rightV hs = true) : hs.length ≤ 8 := by
  by_cases h0 : hs.length = 0
  · omega
  have key : ∀ i (hi : i < hs.length), (i : Int) ≤ hs[i].1 := by
    intro i
    induction i with
    | zero =>
      intro hi
      have := Q12 h hs[0] (List.getElem_mem hi)
      simp only [rhead, Bool.and_eq_true, decide_eq_true_eq] at this
      have := this.1
      omega
    | succ i ih =>
      intro hi
      have h1 := ih (by omega)
      have h2 := Q3T hs h (i := i) (j := i + 1) (by omega) (List.getElem?_eq_getElem (by omega)) (List.getElem?_eq_getElem hi)
      omega
  have h1 := key (hs.length - 1) (by omega)
  have := Q12 h hs[hs.length - 1] (List.getElem_mem (by omega))
  simp only [rhead, Bool.and_eq_true, decide_eq_true_eq] at this
  have := this.2.1
  omega
theorem Q24 {hs : List Hd} (h : rightV hs = true) (hf : ∀ h ∈ hs, 0 ≤ h.2.2 ∧ h.2.2 < 18446744073709551616) : readV (vecL hs) = (hs, 0) := by
  have hl := Q1Y h
  have hra : readAll (vecL hs) = (hs, ([], 0)) := by
    unfold readAll vecL
    rw [countR_write (by omega) (by omega)]
    show readF hs.length [] (hs.flatMap hdL, 0) = _
    rw [Q2i hs [] fun q hq => ⟨Q12 h q hq, hf q hq⟩]
    simp
  unfold readV
  rw [hra]
  simp [doneR, h]
theorem Q3P {b : List UInt8} (h : (readV b).2 = 0) : rightV (readV b).1 = true ∧ vecL (readV b).1 = b ∧ ∀ q ∈ (readV b).1, natH q := by
  unfold readV at h ⊢
  by_cases hd : doneR (readAll b).2 ≠ 0
  · rw [if_pos hd] at h; exact absurd h hd
  rw [if_neg hd] at h ⊢
  by_cases hr : rightV (readAll b).1 = true
  · rw [if_pos hr]
    have hd := Decidable.not_not.1 hd
    have hk : (readAll b).2.2 = 0 ∧ (readAll b).2.1 = [] := by
      unfold doneR at hd
      by_cases h0 : (readAll b).2.2 = 0
      · rw [if_pos h0] at hd
        refine ⟨h0, ?_⟩
        by_cases h1 : (readAll b).2.1.length > 0
        · rw [if_pos h1] at hd; exact absurd hd (by decide)
        · exact List.eq_nil_of_length_eq_zero (by omega)
      · rw [if_neg h0] at hd; exact absurd hd h0
    obtain ⟨k0, hs, e1, e2, e3, e4⟩ := Q2k (countR 8 (b, 0)).1 [] (countR 8 (b, 0)).2 hk.1
    obtain ⟨_, f0⟩ := Q1c k0
    rw [List.nil_append] at e1
    have e1' : (readAll b).1 = hs := e1
    refine ⟨hr, ?_, fun q hq => e4 q (by rw [← e1']; exact hq)⟩
    rw [e1', vecL, e2]
    have e3' : (countR 8 (b, 0)).2.1 = hs.flatMap hdL ++ (readAll b).2.1 := e3
    rw [hk.2, List.append_nil] at e3'
    rw [← e3']
    exact f0.symm
  · rw [if_neg hr] at h; exact absurd h (by decide)
theorem Q3C {b : List UInt8} (h : (readV b).2 ≠ 0) : (readV b).1 = [] := by
  unfold readV at h ⊢
  by_cases hd : doneR (readAll b).2 ≠ 0
  · rw [if_pos hd]
  · rw [if_neg hd] at h ⊢
    by_cases hr : rightV (readAll b).1 = true
    · rw [if_pos hr] at h; exact absurd rfl h
    · rw [if_neg hr]
open W (OwnB Rd GivesW numR countR doneR)
def rNum.M (n1 : Int) (R : RW) (w : World) : Prop :=
 bif decide (n1 < 128) then (
 thenW (w.alloc (.cells #[.int .u8 (IntKind.u8.wrap n1)] 5)) fun aa =>
 R (.slice (some (blk w.heap.size)) 1 1) aa) else (
 128 ≠ (0 : Int) ∧ thenW (w.alloc (.cells #[.int .u8 (IntKind.u8.wrap ((IntKind.u8.wrap (Int.tmod n1 128)) + 128))] 5)) fun a7 =>
 128 ≠ (0 : Int) ∧ Calls Try.prog 39 #[.int .u64 (IntKind.u64.wrap (Int.tdiv n1 128))] a7 fun a8 a9 => ∃ (a0 : Option Addr) (a1 a2 : Nat), a8 = .returned (.slice a0 a1 a2) ∧
 ∃ (a5 : Option Addr) (a4 a6 : Nat) (a3 : World), (Builtin.append_ #[25, 25] 25 #[.slice (some (blk w.heap.size)) 1 1, .slice a0 a1 a2]).run Try.prog a9 = .ok (.slice a5 a4 a6) a3 ∧
 R (.slice a5 a4 a6) a3)

theorem rNum.eq (n1 : Int) (R : RW) (w : World) : mfunc Try.prog [] 39 [.int .u64 n1] R w = rNum.M n1 R w := by kernel_rfl
theorem rNum.ok (n1 : Int) {R : RW} {w : World} (h : rNum.M n1 R w) : Calls Try.prog 39 #[.int .u64 n1] w fun e w' => ∃ v, e = .returned v ∧ R v w' :=
  Q09 follows (H := []) (args := [.int .u64 n1]) (by rw [rNum.eq]; exact h)

theorem Q1j : ∀ (k m : Nat), m < 128 ^ k → 0 < k → numF (k + 1) m = numF k m
  | k + 1, m, h, _ => by
    by_cases h1 : m < 128
    · rw [numF, if_pos h1, numF, if_pos h1]
    · rw [numF, if_neg h1]
      conv => rhs; rw [numF, if_neg h1]
      have hk : 0 < k := Nat.pos_of_ne_zero fun e => by subst e; simp at h; omega
      rw [Q1j k (m / 128) (by rw [Nat.pow_succ] at h; omega) hk]
theorem Q27 {n : Nat} (h : n < 18446744073709551616) (h1 : ¬ n < 128) : numL n = UInt8.ofNat (n % 128 + 128) :: numL (n / 128) := by
  unfold numL
  rw [numF, if_neg h1, Q1j 9 (n / 128) (by omega) (by decide)]
section
variable {w w' : World} {a : Option Addr} {c : Nat} {hs : List Hd}
theorem rNum_spec : ∀ (n : Nat) (w : World), n < 18446744073709551616 → Calls Try.prog 39 #[.int .u64 n] w (fun e w' => ∃ a' c', e = .returned (.slice a' (numL n).length c') ∧ OwnB w.heap.size w' a' c' (numL n) ∧ Ext no w w') := by
  intro n
  induction n using Nat.strongRecOn with
  | _ n ih =>
    intro w hn
    refine (rNum.ok _ (R := fun v w' => ∃ a' c', v = (.slice a' (numL n).length c') ∧ OwnB w.heap.size w' a' c' (numL n) ∧ Ext no w w') ?_).mono fun e w' ⟨v, he, a', c', hv, hw⟩ => ⟨a', c', by rw [he, hv], hw⟩
    unfold rNum.M
    have one : ∀ (w2 : World) (x : UInt8), w2 = w.alloc (.cells #[.int .u8 (x.toNat : Int)] 5) → OwnB w.heap.size w2 (some (blk w.heap.size)) 1 [x] ∧ Ext no w w2 := fun w2 x h2 => by
      have hb : Blk w2 w.heap.size 5 (bytesV [x]) := by subst h2; exact Blk.new _ _ _
      exact ⟨⟨Q1e hb rfl (by simp [maxLen]), fun ad ha => by cases ha; exact ⟨Nat.le_refl _, hb.lt⟩⟩, by subst h2; exact (Ext.refl _ _).alloc _⟩
    by_cases h1 : n < 128
    · rw [show decide ((n : Int) < 128) = true by simp; omega, cond_true]
      have hv : IntKind.u8.wrap (n : Int) = ((UInt8.ofNat n).toNat : Int) := by rw [wu8 (by omega) (by omega), Q0S (by omega)]
      have hL : numL n = [UInt8.ofNat n] := by unfold numL; rw [numF, if_pos h1]
      rw [hv, hL]
      refine Q00 fun w2 h2 => ?_
      obtain ⟨q1, q2⟩ := one w2 _ h2
      exact ⟨_, 1, rfl, q1, q2⟩
    · rw [show decide ((n : Int) < 128) = false by simp; omega, cond_false]
      have hm : Int.tmod (n : Int) 128 = ((n % 128 : Nat) : Int) := by rw [Int.tmod_eq_emod_of_nonneg (by omega)]; omega
      have hd : Int.tdiv (n : Int) 128 = ((n / 128 : Nat) : Int) := by rw [Int.tdiv_eq_ediv_of_nonneg (by omega)]; omega
      have hv : IntKind.u8.wrap ((IntKind.u8.wrap (Int.tmod (n : Int) 128)) + 128) = ((UInt8.ofNat (n % 128 + 128)).toNat : Int) := by
        rw [hm, wu8 (n := ((n % 128 : Nat) : Int)) (by omega) (by omega), wu8 (by omega) (by omega), Q0S (by omega)]; omega
      rw [hv, hd, wu64 (by omega) (by omega), Q27 hn h1]
      refine ⟨by decide, Q00 fun w3 h3 => ⟨by decide, ?_⟩⟩
      obtain ⟨q1, q2⟩ := one w3 _ h3
      refine (ih (n / 128) (by omega) w3 (by omega)).mono fun e w6 ⟨a6, c6, he, ho6, x6⟩ => ⟨a6, _, c6, he, ?_⟩
      obtain ⟨a', c', w8, hr, ho8, x8⟩ := (W.OwnB.no q1 x6).append (t := 25) (ty := 25) Try.underlying25 (Nat.le_trans q2.size x6.size) (xc := c6) (W.OwnB.row ho6) (by have := numL_le (n / 128); simp; omega)
      exact ⟨a', _, c', w8, hr, a', c', rfl, ho8, (q2.trans x6).then x8 fun b hb => .inr hb⟩

end
set_option maxHeartbeats 4000000
open W (OwnB Rd RdR GivesW numR countR doneR zig unzig intR)
def Q0B.M (aj au av ax ay ao : Int) (aq : Option Addr) (an ar : Nat) (az : Int) (aw : Bool) (R : RW) (w : World) : Prop :=
 thenW (w.alloc (.cells #[.int .i64 aj, .int .i64 au, .int .u64 av, .int .i64 ax, .int .i64 ay, .int .i64 ao, .slice aq an ar, .int .u64 az] 27)) fun ap =>
 bif aw then (
 ∃ (a1 a8 ac ag ah a9 : Int) (ab : Option Addr) (a5 a3 : Nat) (ai : Int), cellsAt ap (blk w.heap.size) [.int .i64 a1, .int .i64 a8, .int .u64 ac, .int .i64 ag, .int .i64 ah, .int .i64 a9, .slice ab a5 a3, .int .u64 ai] 0 ∧
 Calls Try.prog 61 #[.agg #[.int .i64 a1, .int .i64 a8, .int .u64 ac, .int .i64 ag, .int .i64 ah, .int .i64 a9, .slice ab a5 a3, .int .u64 ai]] ap fun b1 b2 => ∃ (ad : Bool), b1 = .returned (.bool ad) ∧
 R (.bool ad) b2) else (
 ∃ (a0 aa ae af ak a4 : Int) (a7 : Option Addr) (a6 a2 : Nat) (am : Int), cellsAt ap (blk w.heap.size) [.int .i64 a0, .int .i64 aa, .int .u64 ae, .int .i64 af, .int .i64 ak, .int .i64 a4, .slice a7 a6 a2, .int .u64 am] 0 ∧
 Calls Try.prog 55 #[.agg #[.int .i64 a0, .int .i64 aa, .int .u64 ae, .int .i64 af, .int .i64 ak, .int .i64 a4, .slice a7 a6 a2, .int .u64 am], .agg #[.int .i64 0, .int .i64 0, .int .u64 0, .int .i64 0, .int .i64 0, .int .i64 0, .slice none 0 0, .int .u64 0]] ap fun b0 b3 => ∃ (al : Bool), b0 = .returned (.bool al) ∧
 R (.bool al) b3)

theorem Q0B.ok (a0 a3 a6 a8 a9 a1 : Int) (a5 : Option Addr) (a4 a2 : Nat) (aa : Int) (a7 : Bool) {R : RW} {w : World} (h : Q0B.M a0 a3 a6 a8 a9 a1 a5 a4 a2 aa a7 R w) : Calls Try.prog 35 #[.agg #[.int .i64 a0, .int .i64 a3, .int .u64 a6, .int .i64 a8, .int .i64 a9, .int .i64 a1, .slice a5 a4 a2, .int .u64 aa], .bool a7] w fun e w' => ∃ v, e = .returned v ∧ R v w' :=
  Q09 follows (H := []) (args := [.agg #[.int .i64 a0, .int .i64 a3, .int .u64 a6, .int .i64 a8, .int .i64 a9, .int .i64 a1, .slice a5 a4 a2, .int .u64 aa], .bool a7]) (cast (by kernel_rfl) h)

def Q0B.N (a0 a3 a7 a9 aa a1 : Int) (a5 : Option Addr) (a4 a2 : Nat) (ab : Int) (a8 : Bool) (R : RW) (w : World) : Prop :=
 (a8 = true →
 ∀ (ad : World), Ext no w ad →
 R (.bool (Q08.F a0 a3 a7 a9 aa a1 a5 a4 a2 ab)) ad) ∧
 (a8 = false →
 ∀ (ac : World), Ext no w ac →
 Calls Try.prog 55 #[.agg #[.int .i64 a0, .int .i64 a3, .int .u64 a7, .int .i64 a9, .int .i64 aa, .int .i64 a1, .slice a5 a4 a2, .int .u64 ab], .agg #[.int .i64 0, .int .i64 0, .int .u64 0, .int .i64 0, .int .i64 0, .int .i64 0, .slice none 0 0, .int .u64 0]] ac fun af ae => ∃ (a6 : Bool), af = .returned (.bool a6) ∧
 R (.bool a6) ae)

theorem Q0B.up (a0 a5 a6 a7 a8 a2 : Int) (a3 : Option Addr) (a1 a4 : Nat) (a9 : Int) (ab : Bool) {R : RW} {w : World} (h : Q0B.N a0 a5 a6 a7 a8 a2 a3 a1 a4 a9 ab R w) : Q0B.M a0 a5 a6 a7 a8 a2 a3 a1 a4 a9 ab R w := by
  unfold Q0B.M
  unfold Q0B.N at h
  refine Q00 fun af ah => ?_
  have aa := Blk.of_new ah
  have ak := ((Ext.refl no w)).size
  have ad := (Ext.refl no w).x_alloc ah
  refine bif_of (fun ae => ?_) (fun ae => ?_)
  ·have h := h.1 ae
   refine ⟨a0, a5, a6, a7, a8, a2, a3, a1, a4, a9, ⟨aa.celli 0 rfl rfl, aa.celli 1 rfl rfl, aa.celli 2 rfl rfl, aa.celli 3 rfl rfl, aa.celli 4 rfl rfl, aa.celli 5 rfl rfl, aa.celli 6 rfl rfl, aa.celli 7 rfl rfl, trivial⟩, ?_⟩
   refine (Q08.pure a0 a5 a6 a7 a8 a2 a3 a1 a4 a9).mono fun ee ww12 ⟨he, hxx⟩ => ⟨(Q08.F a0 a5 a6 a7 a8 a2 a3 a1 a4 a9), he, ?_⟩
   have ag := ad.trans hxx
   have h := h ww12 ag
   exact h
  have h := h.2 ae
  refine ⟨a0, a5, a6, a7, a8, a2, a3, a1, a4, a9, ⟨aa.celli 0 rfl rfl, aa.celli 1 rfl rfl, aa.celli 2 rfl rfl, aa.celli 3 rfl rfl, aa.celli 4 rfl rfl, aa.celli 5 rfl rfl, aa.celli 6 rfl rfl, aa.celli 7 rfl rfl, trivial⟩, ?_⟩
  have h := h af ad
  refine h.mono fun aj ai h => ?_
  obtain ⟨ac, he, h⟩ := h
  refine ⟨ac, he, ?_⟩
  exact h

theorem Q0B.go (a0 a3 a6 a8 a9 a1 : Int) (a5 : Option Addr) (a4 a2 : Nat) (aa : Int) (a7 : Bool) {R : RW} {w : World} (h : Q0B.N a0 a3 a6 a8 a9 a1 a5 a4 a2 aa a7 R w) : Calls Try.prog 35 #[.agg #[.int .i64 a0, .int .i64 a3, .int .u64 a6, .int .i64 a8, .int .i64 a9, .int .i64 a1, .slice a5 a4 a2, .int .u64 aa], .bool a7] w fun e w' => ∃ v, e = .returned v ∧ R v w' := Q0B.ok a0 a3 a6 a8 a9 a1 a5 a4 a2 aa a7 (Q0B.up a0 a3 a6 a8 a9 a1 a5 a4 a2 aa a7 h)
theorem Q0B.run (a0 a3 a6 a8 a9 a1 : Int) (a5 : Option Addr) (a4 a2 : Nat) (aa : Int) (a7 : Bool) {V : Value} {Q : World → Prop} {w : World} (h : Q0B.N a0 a3 a6 a8 a9 a1 a5 a4 a2 aa a7 (fun v w' => v = V ∧ Q w') w) : Calls Try.prog 35 #[.agg #[.int .i64 a0, .int .i64 a3, .int .u64 a6, .int .i64 a8, .int .i64 a9, .int .i64 a1, .slice a5 a4 a2, .int .u64 aa], .bool a7] w (Ret V Q) := (Q0B.go a0 a3 a6 a8 a9 a1 a5 a4 a2 aa a7 h).mono fun e w' ⟨v, he, hv, hq⟩ => ⟨by rw [he, hv], hq⟩

def Q0t.M (cv b4 c1 c8 cu ct c3 : Int) (bf : Option Addr) (bw ba : Nat) (cs aq b0 be c9 c6 b5 : Int) (b3 : Option Addr) (b1 b2 : Nat) (c4 cw : Int) (cz : Option Addr) (d7 da : Nat) (cx : Int) (R : RW) (w : World) : Prop :=
 thenW (w.alloc (.cells #[.int .i64 cv, .int .i64 b4, .int .i64 c1, .int .u64 c8, .int .i64 cu, .int .i64 ct, .int .i64 c3, .slice bf bw ba, .int .u64 cs, .int .i64 aq, .int .i64 b0, .int .u64 be, .int .i64 c9, .int .i64 c6, .int .i64 b5, .slice b3 b1 b2, .int .u64 c4, .int .i64 cw, .slice cz d7 da, .int .u64 cx] 38)) fun aa =>
 ∃ (bi : Int), aa.cell? ((blk w.heap.size).add 0) = some (.int .i64 bi) ∧
 bif decide (bi < 1) then (
 R (.bool false) aa) else (
 ∃ (bh : Int), aa.cell? ((blk w.heap.size).add 0) = some (.int .i64 bh) ∧
 bif decide (bh > 4) then (
 R (.bool false) aa) else (
 ∃ (a2 a3 ab ar ap a6 : Int) (a5 : Option Addr) (a7 a4 : Nat) (ao : Int), cellsAt aa ((blk w.heap.size).add 1) [.int .i64 a2, .int .i64 a3, .int .u64 ab, .int .i64 ar, .int .i64 ap, .int .i64 a6, .slice a5 a7 a4, .int .u64 ao] 0 ∧
 ∃ (bn : Int), aa.cell? ((blk w.heap.size).add 0) = some (.int .i64 bn) ∧
 bif bn == 1 then (
 Calls Try.prog 35 #[.agg #[.int .i64 a2, .int .i64 a3, .int .u64 ab, .int .i64 ar, .int .i64 ap, .int .i64 a6, .slice a5 a7 a4, .int .u64 ao], .bool true] aa fun dm c5 => ∃ (bl : Bool), dm = .returned (.bool bl) ∧
 bif !bl then (
 R (.bool false) c5) else (
 ∃ (a8 af ax bc bd ag : Int) (ah : Option Addr) (ai ad : Nat) (b7 : Int), cellsAt c5 ((blk w.heap.size).add 9) [.int .i64 a8, .int .i64 af, .int .u64 ax, .int .i64 bc, .int .i64 bd, .int .i64 ag, .slice ah ai ad, .int .u64 b7] 0 ∧
 ∃ (bz : Int), c5.cell? ((blk w.heap.size).add 0) = some (.int .i64 bz) ∧
 Calls Try.prog 35 #[.agg #[.int .i64 a8, .int .i64 af, .int .u64 ax, .int .i64 bc, .int .i64 bd, .int .i64 ag, .slice ah ai ad, .int .u64 b7], .bool (bz == 4)] c5 fun dn a1 => ∃ (bp : Bool), dn = .returned (.bool bp) ∧
 bif !bp then (
 R (.bool false) a1) else (
 ∃ (bj : Int), a1.cell? ((blk w.heap.size).add 0) = some (.int .i64 bj) ∧
 bif bj != 2 then (
 ∃ (bb : Int), a1.cell? ((blk w.heap.size).add 0) = some (.int .i64 bb) ∧
 bif bb != 3 then (
 ∃ (cb : Int), a1.cell? ((blk w.heap.size).add 17) = some (.int .i64 cb) ∧
 bif cb == 0 then (
 ∃ (df : Option Addr) (d3 de : Nat), a1.cell? ((blk w.heap.size).add 18) = some (.slice df d3 de) ∧
 bif (d3 : Int) == 0 then (
 ∃ (cp : Int), a1.cell? ((blk w.heap.size).add 19) = some (.int .u64 cp) ∧
 R (.bool (cp == 0)) a1) else (
 R (.bool false) a1)) else (
 R (.bool false) a1)) else (
 ∃ (cj : Int), a1.cell? ((blk w.heap.size).add 17) = some (.int .i64 cj) ∧
 bif decide (cj ≥ 0) then (
 ∃ (cl : Int), a1.cell? ((blk w.heap.size).add 17) = some (.int .i64 cl) ∧
 bif decide (cl < 8) then (
 ∃ (d5 : Option Addr) (d4 d8 : Nat), a1.cell? ((blk w.heap.size).add 18) = some (.slice d5 d4 d8) ∧
 Calls Try.prog 36 #[.slice d5 d4 d8] a1 fun dj bv => ∃ (au : Bool), dj = .returned (.bool au) ∧
 bif au then (
 ∃ (bq : Int), bv.cell? ((blk w.heap.size).add 0) = some (.int .i64 bq) ∧
 bif bq == 3 then (
 R (.bool true) bv) else (
 ∃ (cg : Int), bv.cell? ((blk w.heap.size).add 19) = some (.int .u64 cg) ∧
 R (.bool (cg == 0)) bv)) else (
 R (.bool false) bv)) else (
 R (.bool false) a1)) else (
 R (.bool false) a1))) else (
 ∃ (cf : Int), a1.cell? ((blk w.heap.size).add 17) = some (.int .i64 cf) ∧
 bif decide (cf ≥ 0) then (
 ∃ (ce : Int), a1.cell? ((blk w.heap.size).add 17) = some (.int .i64 ce) ∧
 bif decide (ce < 8) then (
 ∃ (d1 : Option Addr) (d0 d9 : Nat), a1.cell? ((blk w.heap.size).add 18) = some (.slice d1 d0 d9) ∧
 Calls Try.prog 36 #[.slice d1 d0 d9] a1 fun dg c2 => ∃ (av : Bool), dg = .returned (.bool av) ∧
 bif av then (
 ∃ (bm : Int), c2.cell? ((blk w.heap.size).add 0) = some (.int .i64 bm) ∧
 bif bm == 3 then (
 R (.bool true) c2) else (
 ∃ (ch : Int), c2.cell? ((blk w.heap.size).add 19) = some (.int .u64 ch) ∧
 R (.bool (ch == 0)) c2)) else (
 R (.bool false) c2)) else (
 R (.bool false) a1)) else (
 R (.bool false) a1))))) else (
 ∃ (bo : Int), aa.cell? ((blk w.heap.size).add 0) = some (.int .i64 bo) ∧
 Calls Try.prog 35 #[.agg #[.int .i64 a2, .int .i64 a3, .int .u64 ab, .int .i64 ar, .int .i64 ap, .int .i64 a6, .slice a5 a7 a4, .int .u64 ao], .bool (bo == 4)] aa fun di c7 => ∃ (c0 : Bool), di = .returned (.bool c0) ∧
 bif !c0 then (
 R (.bool false) c7) else (
 ∃ (a9 am ay bs b6 ak : Int) (ac : Option Addr) (an ae : Nat) (bt : Int), cellsAt c7 ((blk w.heap.size).add 9) [.int .i64 a9, .int .i64 am, .int .u64 ay, .int .i64 bs, .int .i64 b6, .int .i64 ak, .slice ac an ae, .int .u64 bt] 0 ∧
 ∃ (b9 : Int), c7.cell? ((blk w.heap.size).add 0) = some (.int .i64 b9) ∧
 Calls Try.prog 35 #[.agg #[.int .i64 a9, .int .i64 am, .int .u64 ay, .int .i64 bs, .int .i64 b6, .int .i64 ak, .slice ac an ae, .int .u64 bt], .bool (b9 == 4)] c7 fun dk a0 => ∃ (br : Bool), dk = .returned (.bool br) ∧
 bif !br then (
 R (.bool false) a0) else (
 ∃ (bu : Int), a0.cell? ((blk w.heap.size).add 0) = some (.int .i64 bu) ∧
 bif bu != 2 then (
 ∃ (bg : Int), a0.cell? ((blk w.heap.size).add 0) = some (.int .i64 bg) ∧
 bif bg != 3 then (
 ∃ (cr : Int), a0.cell? ((blk w.heap.size).add 17) = some (.int .i64 cr) ∧
 bif cr == 0 then (
 ∃ (dh : Option Addr) (d6 dl : Nat), a0.cell? ((blk w.heap.size).add 18) = some (.slice dh d6 dl) ∧
 bif (d6 : Int) == 0 then (
 ∃ (cd : Int), a0.cell? ((blk w.heap.size).add 19) = some (.int .u64 cd) ∧
 R (.bool (cd == 0)) a0) else (
 R (.bool false) a0)) else (
 R (.bool false) a0)) else (
 ∃ (cc : Int), a0.cell? ((blk w.heap.size).add 17) = some (.int .i64 cc) ∧
 bif decide (cc ≥ 0) then (
 ∃ (cq : Int), a0.cell? ((blk w.heap.size).add 17) = some (.int .i64 cq) ∧
 bif decide (cq < 8) then (
 ∃ (d2 : Option Addr) (db dc : Nat), a0.cell? ((blk w.heap.size).add 18) = some (.slice d2 db dc) ∧
 Calls Try.prog 36 #[.slice d2 db dc] a0 fun dd bk => ∃ (az : Bool), dd = .returned (.bool az) ∧
 bif az then (
 ∃ (b8 : Int), bk.cell? ((blk w.heap.size).add 0) = some (.int .i64 b8) ∧
 bif b8 == 3 then (
 R (.bool true) bk) else (
 ∃ (cm : Int), bk.cell? ((blk w.heap.size).add 19) = some (.int .u64 cm) ∧
 R (.bool (cm == 0)) bk)) else (
 R (.bool false) bk)) else (
 R (.bool false) a0)) else (
 R (.bool false) a0))) else (
 ∃ (co : Int), a0.cell? ((blk w.heap.size).add 17) = some (.int .i64 co) ∧
 bif decide (co ≥ 0) then (
 ∃ (ck : Int), a0.cell? ((blk w.heap.size).add 17) = some (.int .i64 ck) ∧
 bif decide (ck < 8) then (
 ∃ (ca : Option Addr) (cn ci : Nat), a0.cell? ((blk w.heap.size).add 18) = some (.slice ca cn ci) ∧
 Calls Try.prog 36 #[.slice ca cn ci] a0 fun cy aj => ∃ (al : Bool), cy = .returned (.bool al) ∧
 bif al then (
 ∃ (aw : Int), aj.cell? ((blk w.heap.size).add 0) = some (.int .i64 aw) ∧
 bif aw == 3 then (
 R (.bool true) aj) else (
 ∃ (bx : Int), aj.cell? ((blk w.heap.size).add 19) = some (.int .u64 bx) ∧
 R (.bool (bx == 0)) aj)) else (
 R (.bool false) aj)) else (
 R (.bool false) a0)) else (
 R (.bool false) a0)))))))

theorem Q0t.ok (ak a1 ab af ai am ac : Int) (a8 : Option Addr) (aa a9 : Nat) (aj a0 a3 a7 ag ad a4 : Int) (a5 : Option Addr) (a6 a2 : Nat) (ae ah : Int) (ap : Option Addr) (an ao : Nat) (al : Int) {R : RW} {w : World} (h : Q0t.M ak a1 ab af ai am ac a8 aa a9 aj a0 a3 a7 ag ad a4 a5 a6 a2 ae ah ap an ao al R w) : Calls Try.prog 15 #[.agg #[.int .i64 ak, .int .i64 a1, .int .i64 ab, .int .u64 af, .int .i64 ai, .int .i64 am, .int .i64 ac, .slice a8 aa a9, .int .u64 aj, .int .i64 a0, .int .i64 a3, .int .u64 a7, .int .i64 ag, .int .i64 ad, .int .i64 a4, .slice a5 a6 a2, .int .u64 ae, .int .i64 ah, .slice ap an ao, .int .u64 al]] w fun e w' => ∃ v, e = .returned v ∧ R v w' :=
  Q09 follows (H := []) (args := [.agg #[.int .i64 ak, .int .i64 a1, .int .i64 ab, .int .u64 af, .int .i64 ai, .int .i64 am, .int .i64 ac, .slice a8 aa a9, .int .u64 aj, .int .i64 a0, .int .i64 a3, .int .u64 a7, .int .i64 ag, .int .i64 ad, .int .i64 a4, .slice a5 a6 a2, .int .u64 ae, .int .i64 ah, .slice ap an ao, .int .u64 al]]) (cast (by kernel_rfl) h)

def Q0t.N (a0 a5 ai ar av ay aj : Int) (af : Option Addr) (ah ag : Nat) (aw a4 a8 ae au ap a9 : Int) (aa : Option Addr) (ab a6 : Nat) (aq a1 : Int) (b2 : Option Addr) (a7 b1 : Nat) (am : Int) (R : RW) (w : World) : Prop :=
 (a0 < 1 →
 ∀ (a2 : World), Ext no w a2 →
 R (.bool false) a2) ∧
 ((1 : Int) ≤ a0 →
 (a0 > 4 →
 ∀ (a2 : World), Ext no w a2 →
 R (.bool false) a2) ∧
 (a0 ≤ 4 →
 (a0 = 1 →
 ∀ (a2 : World) (bc : Nat), Ext no w a2 → Priv w a2 [bc] →
 Calls Try.prog 35 #[.agg #[.int .i64 a5, .int .i64 ai, .int .u64 ar, .int .i64 av, .int .i64 ay, .int .i64 aj, .slice af ah ag, .int .u64 aw], .bool true] a2 fun b7 b0 => ∃ (ao : Bool), b7 = .returned (.bool ao) ∧
 Keep [bc] a2 b0 ∧
 (ao = false →
 R (.bool false) b0) ∧
 (ao = true →
 Calls Try.prog 35 #[.agg #[.int .i64 a4, .int .i64 a8, .int .u64 ae, .int .i64 au, .int .i64 ap, .int .i64 a9, .slice aa ab a6, .int .u64 aq], .bool (a0 == 4)] b0 fun ba ax => ∃ (al : Bool), ba = .returned (.bool al) ∧
 Keep [bc] b0 ax ∧
 (al = false →
 R (.bool false) ax) ∧
 (al = true →
 (a1 = 0 →
 ((a7 : Int) = 0 →
 R (.bool (am == 0)) ax) ∧
 ((a7 : Int) ≠ 0 →
 R (.bool false) ax)) ∧
 (a1 ≠ 0 →
 R (.bool false) ax)))) ∧
 (a0 ≠ 1 →
 ∀ (a2 : World) (b5 : Nat), Ext no w a2 → Priv w a2 [b5] →
 Calls Try.prog 35 #[.agg #[.int .i64 a5, .int .i64 ai, .int .u64 ar, .int .i64 av, .int .i64 ay, .int .i64 aj, .slice af ah ag, .int .u64 aw], .bool (a0 == 4)] a2 fun b8 az => ∃ (an : Bool), b8 = .returned (.bool an) ∧
 Keep [b5] a2 az ∧
 (an = false →
 R (.bool false) az) ∧
 (an = true →
 Calls Try.prog 35 #[.agg #[.int .i64 a4, .int .i64 a8, .int .u64 ae, .int .i64 au, .int .i64 ap, .int .i64 a9, .slice aa ab a6, .int .u64 aq], .bool (a0 == 4)] az fun b6 a3 => ∃ (ak : Bool), b6 = .returned (.bool ak) ∧
 Keep [b5] az a3 ∧
 (ak = false →
 R (.bool false) a3) ∧
 (ak = true →
 (a0 ≠ 2 →
 (a0 ≠ 3 →
 (a1 = 0 →
 ((a7 : Int) = 0 →
 R (.bool (am == 0)) a3) ∧
 ((a7 : Int) ≠ 0 →
 R (.bool false) a3)) ∧
 (a1 ≠ 0 →
 R (.bool false) a3)) ∧
 (a0 = 3 →
 (a1 ≥ 0 →
 (a1 < 8 →
 Calls Try.prog 36 #[.slice b2 a7 b1] a3 fun b9 b3 => ∃ (ad : Bool), b9 = .returned (.bool ad) ∧
 Keep [b5] a3 b3 ∧
 (ad = true →
 R (.bool true) b3) ∧
 (ad = false →
 R (.bool false) b3)) ∧
 ((8 : Int) ≤ a1 →
 R (.bool false) a3)) ∧
 (a1 < 0 →
 R (.bool false) a3))) ∧
 (a0 = 2 →
 (a1 ≥ 0 →
 (a1 < 8 →
 Calls Try.prog 36 #[.slice b2 a7 b1] a3 fun bb b4 => ∃ (ac : Bool), bb = .returned (.bool ac) ∧
 Keep [b5] a3 b4 ∧
 (ac = true →
 R (.bool (am == 0)) b4) ∧
 (ac = false →
 R (.bool false) b4)) ∧
 ((8 : Int) ≤ a1 →
 R (.bool false) a3)) ∧
 (a1 < 0 →
 R (.bool false) a3)))))))

theorem Q0t.up (a1 aa ai an ao aq aj : Int) (ae : Option Addr) (ag af : Nat) (ap a2 a5 a9 ad ab a6 : Int) (a7 : Option Addr) (a8 a4 : Nat) (ac a3 : Int) (am : Option Addr) (ak al : Nat) (ah : Int) {R : RW} {w : World} (h : Q0t.N a1 aa ai an ao aq aj ae ag af ap a2 a5 a9 ad ab a6 a7 a8 a4 ac a3 am ak al ah R w) : Q0t.M a1 aa ai an ao aq aj ae ag af ap a2 a5 a9 ad ab a6 a7 a8 a4 ac a3 am ak al ah R w := by
  unfold Q0t.M
  unfold Q0t.N at h
  refine Q00 fun av bl => ?_
  have a0 := Blk.of_new bl
  have bk := ((Ext.refl no w)).size
  have aw := (Ext.refl no w).x_alloc bl
  refine ⟨a1, a0.celli 0 rfl rfl, ?_⟩
  refine bif_of (fun be => ?_) (fun be => ?_)
  ·have h := h.1 (of_decide_eq_true be)
   have h := h av aw
   exact h
  have h := h.2 (Int.not_lt.1 (of_decide_eq_false be))
  refine ⟨a1, a0.celli 0 rfl rfl, ?_⟩
  refine bif_of (fun b8 => ?_) (fun b8 => ?_)
  ·have h := h.1 (of_decide_eq_true b8)
   have h := h av aw
   exact h
  have h := h.2 (Int.not_lt.1 (of_decide_eq_false b8))
  refine ⟨aa, ai, an, ao, aq, aj, ae, ag, af, ap, ⟨a0.celli 1 rfl rfl, a0.celli 2 rfl rfl, a0.celli 3 rfl rfl, a0.celli 4 rfl rfl, a0.celli 5 rfl rfl, a0.celli 6 rfl rfl, a0.celli 7 rfl rfl, a0.celli 8 rfl rfl, trivial⟩, ?_⟩
  refine ⟨a1, a0.celli 0 rfl rfl, ?_⟩
  refine bif_of (fun b1 => ?_) (fun b1 => ?_)
  ·have h := h.1 (beq_t b1)
   have h := h av (w.heap.size) aw (Priv.cons bk a0.lt Priv.nil)
   refine h.mono fun bo bv h => ?_
   obtain ⟨b0, he, hk, h⟩ := h
   refine ⟨b0, he, ?_⟩
   have a0 := hk.blk a0 (by simp)
   refine bif_of (fun bf => ?_) (fun bf => ?_)
   ·have h := h.1 (not_t bf)
    exact h
   have h := h.2 (not_f bf)
   refine ⟨a2, a5, a9, ad, ab, a6, a7, a8, a4, ac, ⟨a0.celli 9 rfl rfl, a0.celli 10 rfl rfl, a0.celli 11 rfl rfl, a0.celli 12 rfl rfl, a0.celli 13 rfl rfl, a0.celli 14 rfl rfl, a0.celli 15 rfl rfl, a0.celli 16 rfl rfl, trivial⟩, ?_⟩
   refine ⟨a1, a0.celli 0 rfl rfl, ?_⟩
   refine h.mono fun bs bp h => ?_
   obtain ⟨ay, he, hk, h⟩ := h
   refine ⟨ay, he, ?_⟩
   have a0 := hk.blk a0 (by simp)
   refine bif_of (fun bc => ?_) (fun bc => ?_)
   ·have h := h.1 (not_t bc)
    exact h
   have h := h.2 (not_f bc)
   refine ⟨a1, a0.celli 0 rfl rfl, ?_⟩
   refine bif_tt (cong1 (r := true) (fun z => z != 2) (beq_t b1) (by decide)) ?_
   refine ⟨a1, a0.celli 0 rfl rfl, ?_⟩
   refine bif_tt (cong1 (r := true) (fun z => z != 3) (beq_t b1) (by decide)) ?_
   refine ⟨a3, a0.celli 17 rfl rfl, ?_⟩
   refine bif_fo (fun b7 => ?_) (fun b7 => ?_)
   ·have h := h.2 (beq_f b7)
    exact h
   have h := h.1 (beq_t b7)
   refine ⟨am, ak, al, a0.celli 18 rfl rfl, ?_⟩
   refine bif_fo (fun bd => ?_) (fun bd => ?_)
   ·have h := h.2 (beq_f bd)
    exact h
   have h := h.1 (beq_t bd)
   refine ⟨ah, a0.celli 19 rfl rfl, ?_⟩
   exact h
  have h := h.2 (beq_f b1)
  refine ⟨a1, a0.celli 0 rfl rfl, ?_⟩
  have h := h av (w.heap.size) aw (Priv.cons bk a0.lt Priv.nil)
  refine h.mono fun bq bn h => ?_
  obtain ⟨az, he, hk, h⟩ := h
  refine ⟨az, he, ?_⟩
  have a0 := hk.blk a0 (by simp)
  refine bif_of (fun bg => ?_) (fun bg => ?_)
  ·have h := h.1 (not_t bg)
   exact h
  have h := h.2 (not_f bg)
  refine ⟨a2, a5, a9, ad, ab, a6, a7, a8, a4, ac, ⟨a0.celli 9 rfl rfl, a0.celli 10 rfl rfl, a0.celli 11 rfl rfl, a0.celli 12 rfl rfl, a0.celli 13 rfl rfl, a0.celli 14 rfl rfl, a0.celli 15 rfl rfl, a0.celli 16 rfl rfl, trivial⟩, ?_⟩
  refine ⟨a1, a0.celli 0 rfl rfl, ?_⟩
  refine h.mono fun bm bu h => ?_
  obtain ⟨ax, he, hk, h⟩ := h
  refine ⟨ax, he, ?_⟩
  have a0 := hk.blk a0 (by simp)
  refine bif_of (fun b5 => ?_) (fun b5 => ?_)
  ·have h := h.1 (not_t b5)
   exact h
  have h := h.2 (not_f b5)
  refine ⟨a1, a0.celli 0 rfl rfl, ?_⟩
  refine bif_fo (fun b2 => ?_) (fun b2 => ?_)
  ·have h := h.2 (bne_f b2)
   refine ⟨a3, a0.celli 17 rfl rfl, ?_⟩
   refine bif_fo (fun bi => ?_) (fun bi => ?_)
   ·have h := h.2 (Int.not_le.1 (of_decide_eq_false bi))
    exact h
   have h := h.1 (of_decide_eq_true bi)
   refine ⟨a3, a0.celli 17 rfl rfl, ?_⟩
   refine bif_fo (fun ba => ?_) (fun ba => ?_)
   ·have h := h.2 (Int.not_lt.1 (of_decide_eq_false ba))
    exact h
   have h := h.1 (of_decide_eq_true ba)
   refine ⟨am, ak, al, a0.celli 18 rfl rfl, ?_⟩
   refine h.mono fun bt bx h => ?_
   obtain ⟨ar, he, hk, h⟩ := h
   refine ⟨ar, he, ?_⟩
   have a0 := hk.blk a0 (by simp)
   refine bif_fo (fun bj => ?_) (fun bj => ?_)
   ·have h := h.2 bj
    exact h
   have h := h.1 bj
   refine ⟨a1, a0.celli 0 rfl rfl, ?_⟩
   refine bif_ff (cong1 (r := false) (fun z => z == 3) (bne_f b2) (by decide)) ?_
   refine ⟨ah, a0.celli 19 rfl rfl, ?_⟩
   exact h
  have h := h.1 (bne_t b2)
  refine ⟨a1, a0.celli 0 rfl rfl, ?_⟩
  refine bif_of (fun b3 => ?_) (fun b3 => ?_)
  ·have h := h.1 (bne_t b3)
   refine ⟨a3, a0.celli 17 rfl rfl, ?_⟩
   refine bif_fo (fun bh => ?_) (fun bh => ?_)
   ·have h := h.2 (beq_f bh)
    exact h
   have h := h.1 (beq_t bh)
   refine ⟨am, ak, al, a0.celli 18 rfl rfl, ?_⟩
   refine bif_fo (fun b6 => ?_) (fun b6 => ?_)
   ·have h := h.2 (beq_f b6)
    exact h
   have h := h.1 (beq_t b6)
   refine ⟨ah, a0.celli 19 rfl rfl, ?_⟩
   exact h
  have h := h.2 (bne_f b3)
  refine ⟨a3, a0.celli 17 rfl rfl, ?_⟩
  refine bif_fo (fun bb => ?_) (fun bb => ?_)
  ·have h := h.2 (Int.not_le.1 (of_decide_eq_false bb))
   exact h
  have h := h.1 (of_decide_eq_true bb)
  refine ⟨a3, a0.celli 17 rfl rfl, ?_⟩
  refine bif_fo (fun b4 => ?_) (fun b4 => ?_)
  ·have h := h.2 (Int.not_lt.1 (of_decide_eq_false b4))
   exact h
  have h := h.1 (of_decide_eq_true b4)
  refine ⟨am, ak, al, a0.celli 18 rfl rfl, ?_⟩
  refine h.mono fun br bw h => ?_
  obtain ⟨au, he, hk, h⟩ := h
  refine ⟨au, he, ?_⟩
  have a0 := hk.blk a0 (by simp)
  refine bif_fo (fun b9 => ?_) (fun b9 => ?_)
  ·have h := h.2 b9
   exact h
  have h := h.1 b9
  refine ⟨a1, a0.celli 0 rfl rfl, ?_⟩
  refine bif_tt (cong1 (r := true) (fun z => z == 3) (bne_f b3) (by decide)) ?_
  exact h

theorem Q0t.go (ak a1 ab af ai am ac : Int) (a8 : Option Addr) (aa a9 : Nat) (aj a0 a3 a7 ag ad a4 : Int) (a5 : Option Addr) (a6 a2 : Nat) (ae ah : Int) (ap : Option Addr) (an ao : Nat) (al : Int) {R : RW} {w : World} (h : Q0t.N ak a1 ab af ai am ac a8 aa a9 aj a0 a3 a7 ag ad a4 a5 a6 a2 ae ah ap an ao al R w) : Calls Try.prog 15 #[.agg #[.int .i64 ak, .int .i64 a1, .int .i64 ab, .int .u64 af, .int .i64 ai, .int .i64 am, .int .i64 ac, .slice a8 aa a9, .int .u64 aj, .int .i64 a0, .int .i64 a3, .int .u64 a7, .int .i64 ag, .int .i64 ad, .int .i64 a4, .slice a5 a6 a2, .int .u64 ae, .int .i64 ah, .slice ap an ao, .int .u64 al]] w fun e w' => ∃ v, e = .returned v ∧ R v w' := Q0t.ok ak a1 ab af ai am ac a8 aa a9 aj a0 a3 a7 ag ad a4 a5 a6 a2 ae ah ap an ao al (Q0t.up ak a1 ab af ai am ac a8 aa a9 aj a0 a3 a7 ag ad a4 a5 a6 a2 ae ah ap an ao al h)
theorem Q0t.run (ak a1 ab af ai am ac : Int) (a8 : Option Addr) (aa a9 : Nat) (aj a0 a3 a7 ag ad a4 : Int) (a5 : Option Addr) (a6 a2 : Nat) (ae ah : Int) (ap : Option Addr) (an ao : Nat) (al : Int) {V : Value} {Q : World → Prop} {w : World} (h : Q0t.N ak a1 ab af ai am ac a8 aa a9 aj a0 a3 a7 ag ad a4 a5 a6 a2 ae ah ap an ao al (fun v w' => v = V ∧ Q w') w) : Calls Try.prog 15 #[.agg #[.int .i64 ak, .int .i64 a1, .int .i64 ab, .int .u64 af, .int .i64 ai, .int .i64 am, .int .i64 ac, .slice a8 aa a9, .int .u64 aj, .int .i64 a0, .int .i64 a3, .int .u64 a7, .int .i64 ag, .int .i64 ad, .int .i64 a4, .slice a5 a6 a2, .int .u64 ae, .int .i64 ah, .slice ap an ao, .int .u64 al]] w (Ret V Q) := (Q0t.go ak a1 ab af ai am ac a8 aa a9 aj a0 a3 a7 ag ad a4 a5 a6 a2 ae ah ap an ao al h).mono fun e w' ⟨v, he, hv, hq⟩ => ⟨by rw [he, hv], hq⟩

structure Fr where
  kd : Int
  e : Ent
  f : Ent
  who : Int
  v : List Hd
  sg : Int
deriving DecidableEq
def Fr.zero : Fr := ⟨0, Ent.zero, Ent.zero, 0, [], 0⟩
structure FP where
  r : Fr
  ea : Option Addr
  ec : Nat
  fa : Option Addr
  fc : Nat
  va : Option Addr
  vc : Nat
def FP.C (x : FP) : List Value := [.int .i64 x.r.kd, .int .i64 x.r.e.w, .int .i64 x.r.e.i, .int .u64 x.r.e.pv, .int .i64 x.r.e.t, .int .i64 x.r.e.tw, .int .i64 x.r.e.ep, .slice x.ea x.r.e.body.length x.ec, .int .u64 x.r.e.sg,
  .int .i64 x.r.f.w, .int .i64 x.r.f.i, .int .u64 x.r.f.pv, .int .i64 x.r.f.t, .int .i64 x.r.f.tw, .int .i64 x.r.f.ep, .slice x.fa x.r.f.body.length x.fc, .int .u64 x.r.f.sg, .int .i64 x.r.who, .slice x.va x.r.v.length x.vc, .int .u64 x.r.sg]
def FP.V (x : FP) : Value := .agg #[.int .i64 x.r.kd, .int .i64 x.r.e.w, .int .i64 x.r.e.i, .int .u64 x.r.e.pv, .int .i64 x.r.e.t, .int .i64 x.r.e.tw, .int .i64 x.r.e.ep, .slice x.ea x.r.e.body.length x.ec, .int .u64 x.r.e.sg,
  .int .i64 x.r.f.w, .int .i64 x.r.f.i, .int .u64 x.r.f.pv, .int .i64 x.r.f.t, .int .i64 x.r.f.tw, .int .i64 x.r.f.ep, .slice x.fa x.r.f.body.length x.fc, .int .u64 x.r.f.sg, .int .i64 x.r.who, .slice x.va x.r.v.length x.vc, .int .u64 x.r.sg]
structure FP.at (w : World) (x : FP) : Prop where
  e : RowAt w x.ea (bytesV x.r.e.body)
  f : RowAt w x.fa (bytesV x.r.f.body)
  v : RowAt w x.va (hsC x.r.v)
def frOK (x : Fr) : Bool :=
  if x.kd = 1 then Q0z x.e && (decide (x.f = Ent.zero) && (decide (x.who = 0) && (decide (x.v.length = 0) && decide (x.sg = 0))))
  else if x.kd = 2 then decide (x.e = Ent.zero) && (decide (x.f = Ent.zero) && (decide (0 ≤ x.who) && (decide (x.who < 8) && (rightV x.v && decide (x.sg = 0)))))
  else if x.kd = 3 then decide (x.e = Ent.zero) && (decide (x.f = Ent.zero) && (decide (0 ≤ x.who) && (decide (x.who < 8) && rightV x.v)))
  else if x.kd = 4 then Q0z x.e && (Q0z x.f && (decide (x.who = 0) && (decide (x.v.length = 0) && decide (x.sg = 0))))
  else false
section
variable {w w' : World} {o o' : Own} {K : Nat → Prop} {x y : FP} {e f : Ent} {a : Option Addr} {c : Nat}
theorem FP.at.no (h : x.at w) (X : Ext no w w') : x.at w' := ⟨h.e.no X, h.f.no X, h.v.no X⟩
theorem beq_dz (s : Int) : (s == 0) = decide (s = 0) := by rw [Bool.eq_iff_iff]; simp
theorem Q1D (ha : RowAt w a (bytesV e.body)) (b : Bool) :
    Calls Try.prog 35 #[entV e a c, .bool b] w (Ret (.bool (if b then Q0z e else decide (e = Ent.zero))) fun w' => Ext no w w') := by
  refine Q0B.run e.w e.i e.pv e.t e.tw e.ep a e.body.length c e.sg b ?_
  unfold Q0B.N
  rw [Q1K]
  refine ⟨fun h w2 X => ⟨by rw [h]; rfl, X⟩, fun h w2 X => ?_⟩
  refine (Q3E (e := e) (f := Ent.zero) (b := none) (d := 0) (ha.no X) (RowAt.nil _ _)).mono fun v w3 ⟨hx, X3⟩ => ⟨_, hx, by rw [h]; rfl, X.trans X3⟩
theorem Q1X (h : x.at w) (hl : x.r.v.length < 1000000) : Calls Try.prog 15 #[x.V] w (Ret (.bool (frOK x.r)) fun w' => Ext no w w') := by
  obtain ⟨⟨kd, e, f, who, v, sg⟩, ea, ec, fa, fc, va, vc⟩ := x
  obtain ⟨he, hf, hv⟩ := h
  refine Q0t.run kd e.w e.i e.pv e.t e.tw e.ep ea e.body.length ec e.sg f.w f.i f.pv f.t f.tw f.ep fa f.body.length fc f.sg who va v.length vc sg ?_
  unfold Q0t.N
  have leaf : ∀ {b : Bool} {w2 : World}, b = frOK ⟨kd, e, f, who, v, sg⟩ → Ext no w w2 → Value.bool b = Value.bool (frOK ⟨kd, e, f, who, v, sg⟩) ∧ Ext no w w2 := fun h X => ⟨by rw [h], X⟩
  refine ⟨fun h1 w2 X => leaf ?_ X, fun h1 => ⟨fun h4 w2 X => leaf ?_ X, fun h4 => ⟨fun k1 w2 p X hp => ?_, fun k1 w2 p X hp => ?_⟩⟩⟩
  · unfold frOK; simp only []; rw [if_neg (by omega), if_neg (by omega), if_neg (by omega), if_neg (by omega)]
  · unfold frOK; simp only []; rw [if_neg (by omega), if_neg (by omega), if_neg (by omega), if_neg (by omega)]
  · subst k1
    refine (Q1D (he.no X) true).mono fun u w3 ⟨hx, X3⟩ => ⟨_, hx, X3.kept, fun h => leaf ?_ (X.trans X3), fun h => ?_⟩
    · have h' : Q0z e = false := h
      simp [frOK, h']
    have h' : Q0z e = true := h
    have X3 := X.trans X3
    refine (Q1D (hf.no X3) _).mono fun u w4 ⟨hx, X4⟩ => ⟨_, hx, X4.kept, fun hh => leaf ?_ (X3.trans X4), fun hh => ?_⟩
    all_goals simp at hh
    · simp [frOK, hh]
    have X4 := X3.trans X4
    refine ⟨fun hw => ⟨fun hn => leaf ?_ X4, fun hn => leaf ?_ X4⟩, fun hw => leaf ?_ X4⟩
    · have hn' : v.length = 0 := by omega
      simp [frOK, h', hh, hw, List.length_eq_zero_iff.1 hn', beq_dz]
    · have hn' : v ≠ [] := fun h => hn (by rw [h]; rfl)
      simp [frOK, hn']
    · simp [frOK, hw]
  · refine (Q1D (he.no X) _).mono fun u w3 ⟨hx, X3⟩ => ⟨_, hx, X3.kept, fun h => leaf ?_ (X.trans X3), fun h => ?_⟩
    · by_cases k4 : kd = 4
      · subst k4; simp at h; simp [frOK, h]
      · rw [beq_false_of_ne k4] at h; simp at h; simp [frOK, h, k1, k4]
    have X3 := X.trans X3
    refine (Q1D (hf.no X3) _).mono fun u w4 ⟨hx, X4⟩ => ⟨_, hx, X4.kept, fun hh => leaf ?_ (X3.trans X4), fun hh => ?_⟩
    · by_cases k4 : kd = 4
      · subst k4; simp at hh; simp [frOK, hh]
      · rw [beq_false_of_ne k4] at hh; simp at hh; simp [frOK, hh, k1, k4]
    have X4 := X3.trans X4
    refine ⟨fun k2 => ⟨fun k3 => ?_, fun k3 => ?_⟩, fun k2 => ?_⟩
    · obtain rfl : kd = 4 := by omega
      simp at h hh
      refine ⟨fun hw => ⟨fun hn => leaf ?_ X4, fun hn => leaf ?_ X4⟩, fun hw => leaf ?_ X4⟩
      · have hn' : v.length = 0 := by omega
        simp [frOK, h, hh, hw, List.length_eq_zero_iff.1 hn', beq_dz]
      · have hn' : v ≠ [] := fun h => hn (by rw [h]; rfl)
        simp [frOK, hn']
      · simp [frOK, hw]
    · subst k3
      simp at h hh
      refine ⟨fun hw => ⟨fun hn => ?_, fun hn => leaf ?_ X4⟩, fun hw => leaf ?_ X4⟩
      · refine (Q1p (hv.no X4) hl).mono fun u w5 ⟨hx, X5⟩ => ⟨_, hx, X5.kept, fun hv => leaf ?_ (X4.trans X5), fun hv => leaf ?_ (X4.trans X5)⟩
        · have hv' : rightV v = true := hv
          have hw' : 0 ≤ who := hw
          simp [frOK, h, hh, hw', hn, hv']
        · have hv' : rightV v = false := hv
          simp [frOK, hv']
      · have : ¬ who < 8 := by omega
        simp [frOK, this]
      · have : ¬ 0 ≤ who := by omega
        simp [frOK, this]
    · subst k2
      simp at h hh
      refine ⟨fun hw => ⟨fun hn => ?_, fun hn => leaf ?_ X4⟩, fun hw => leaf ?_ X4⟩
      · refine (Q1p (hv.no X4) hl).mono fun u w5 ⟨hx, X5⟩ => ⟨_, hx, X5.kept, fun hv => leaf ?_ (X4.trans X5), fun hv => leaf ?_ (X4.trans X5)⟩
        · have hv' : rightV v = true := hv
          have hw' : 0 ≤ who := hw
          simp [frOK, h, hh, hw', hn, hv', beq_dz]
        · have hv' : rightV v = false := hv
          simp [frOK, hv']
      · have : ¬ who < 8 := by omega
        simp [frOK, this]
      · have : ¬ 0 ≤ who := by omega
        simp [frOK, this]
end
end Go.Proofs.Ytlgpeojjmapnjaa
set_option linter.unnecessarySimpa false
namespace Go.Mx

abbrev Pan := Fs → List PanicEntry → World → Prop
def pop1 (P : Program) (f : Fs) (o : Oper) (w : World) (K : RW) (Φ : Pan) : Prop :=
  match o.op with
  | .panic x =>
    (match ev f x with
    | some (.iface t v) => Φ f [{ v := .iface t v, recovered := false }] w
    | _ => False)
  | .call c =>
    (match c.callee with
    | .value g =>
      bif known f (opnds o.op) then
        (match rho f g with
        | .func (.func k) first cap => bif enters P k then Calls P k (first.toList ++ c.args.toList.map (rho f) ++ cap.toList).toArray w (fun e w' => (resEx P o.type fun v => e = .returned v ∧ K v w') ∨ ∃ ch, e = .panicked ch ∧ Φ f ch w') else False
        | _ => False)
      else False
    | _ => mopF P f o w K)
  | _ => mopF P f o w K
def pops (P : Program) (N : Nat) (ops : List Oper) (lo : Fs) (Φ : Pan) : List Oper → Dg → Fs → World → (Fs → World → Prop) → Prop
  | [], _, f, w, K => K f w
  | o :: rest, dg, f, w, K =>
    gask ops lo f dg o fun b dg f =>
      bif b then pop1 P (f ++ lo) o w (fun v w' => putK N o.dst v dg f fun dg f => pops P N ops lo Φ rest dg f w' K) Φ
      else putK N o.dst undef dg f fun dg f => pops P N ops lo Φ rest dg f w K

theorem pop1_wp {P : Program} {D : List Deferred} {n : Nat} {f : Fs} {a : Act} {o : Oper} {w : World} {K : RW} {Φ : Pan} {next : Act → World → Prop} {Q : Exit → Act → World → Prop}
    (hf : Fr D n f a) (h : pop1 P f o w K Φ) (hk : ∀ v w', K v w' → next (a.put o.dst v) w') (hQ : ∀ ch w', Φ f ch w' → Q (.panic ch) a w') : o.wp P a w next Q := by
  unfold pop1 at h
  split at h
  · rename_i x ho
    split at h
    · rename_i t v hv
      have he : a.eval x = .iface t v := by rw [hf.eval (by rw [hv]; rfl)]; unfold rho; rw [hv]; rfl
      have hr : (execOp a.eval o).run P w = .halt (.panic (.iface t v)) w := by
        simp only [execOp, ho, he, Instr.panic, Sem.run_bind]
        rfl
      unfold Oper.wp
      rw [hr]
      exact hQ _ _ h
    · exact h.elim
  · rename_i c ho
    split at h
    · rename_i g hg
      cases hkn : known f (opnds o.op)
      · simp [hkn] at h
      · simp only [hkn, cond_true] at h
        split at h
        · rename_i k first cap hfn
          cases hen : enters P k
          · simp [hen] at h
          · simp only [hen, cond_true] at h
            have hs : isSel o.op = false := by rw [ho]; rfl
            have hr : (execOp a.eval o).run P w = .ok (.enter k (first.toList ++ c.args.toList.map (rho f) ++ cap.toList).toArray) w := by
              rw [Q1S hf hkn hs]
              simp only [execOp, ho, resolve, hg, hfn, Deferred.ofValue, pure_bind, invoke, Sem.run_bind, Sem.run_pure, Result.andThen_ok, Q1B hen]
              congr 2
              apply Array.ext'
              simp
            unfold Oper.wp
            rw [hr, Oper.upon_enter]
            refine h.mono fun e w'' hh => ?_
            rcases hh with hh | ⟨ch, rfl, hh⟩
            · obtain ⟨v, rfl, h2⟩ := Q1l hh
              exact hk _ _ h2
            · exact hQ _ _ hh
        · exact h.elim
    · exact (mopF_ok hf h).wp hk
  · exact (mopF_ok hf h).wp hk

theorem pops_ok {D : List Deferred} {P : Program} {N : Nat} {ops : List Oper} {lo : Fs} {Φ : Pan} {Q : Exit → Act → World → Prop} {K : Fs → World → Prop}
    (hQ : ∀ f w a, K f w → Fr D N (f ++ lo) a → Q .normal a w) (hP : ∀ g ch w a, Φ g ch w → Fr D N g a → Q (.panic ch) a w) :
    ∀ (l : List Oper) (dg : Dg) (f : Fs) (w : World) (a : Act), pops P N ops lo Φ l dg f w K → Fr D N (f ++ lo) a → DgOk dg (f ++ lo) → wpList P ops.toArray Q l a w
  | [], dg, f, w, a, h, hf, hd => hQ f w a h hf
  | o :: rest, dg, f, w, a, h, hf, hd => by
    simp only [pops] at h
    obtain ⟨b, dg1, f1, hb, h, hf1, hd1⟩ := gask_ok (P := P) h hf hd
    unfold wpList
    cases b
    · rw [hb]
      simp only [cond_false] at h
      obtain ⟨dg2, f2, h, hf2, hd2⟩ := putK_ok h hf1 hd1
      exact pops_ok hQ hP rest dg2 f2 w _ h hf2 hd2
    · rw [hb]
      simp only [cond_true] at h
      refine .inl (pop1_wp hf1 h (fun v w' h => ?_) fun ch w' h => hP _ ch w' a h hf1)
      obtain ⟨dg2, f2, h, hf2, hd2⟩ := putK_ok h hf1 hd1
      exact pops_ok hQ hP rest dg2 f2 w' _ h hf2 hd2

def pcode (P : Program) (H : Hints) (N : Nat) (Φ : Pan) : Code → Fs → Kx → Fs → World → Prop
  | .skip, _, K, f, w => K.n f w
  | .seq a b, lo, K, f, w => pcode P H N Φ a lo { K with n := fun f w => pcode P H N Φ b lo K f w } f w
  | .cond c x y, lo, K, f, w =>
    match ev (f ++ lo) c with
    | some (.bool b) => bif b then pcode P H N Φ x lo K f w else pcode P H N Φ y lo K f w
    | _ => False
  | .region _ ops draw, lo, K, f, w =>
    match draw with
    | false => pops P N ops.toList lo Φ ops.toList [] f w K.n
    | true => bif regOk ops.toList then mdraw P N ops.toList lo ops.toList.length [] [] [] f w.drew K.n else False
  | .block id (.loop body), lo, K, f, w =>
    match hget H id with
    | none => False
    | some hs =>
      match getAll (f ++ lo) hs.1, getAll (f ++ lo) (hs.2.map (·.1)) with
      | some cv, some vv =>
        bif (subF (zipF hs.1 cv) lo && Q0L (hs.2.map (·.2)) vv) then
          ∃ (I : Nat → List Value → World → Prop) (m : Nat), I m vv w ∧ ∀ (m : Nat) (w : World), salls (hs.2.map (·.2)) fun vs => I m vs w →
            pcode P H N Φ body (zipF hs.1 cv)
              { n := fun f' w' => bif disjF f' (zipF hs.1 cv) then
                      (match getAll f' (hs.2.map (·.1)) with
                       | some vs' => bif Q0L (hs.2.map (·.2)) vs' then ∃ m', m' < m ∧ I m' vs' w' else False
                       | none => False)
                    else False
                r := fun f' w' => K.r (f' ++ keepF f (zipF hs.1 cv)) w'
                ex := (id, fun f' w' => K.n (f' ++ keepF f (zipF hs.1 cv)) w') :: exmap (fun k f' w' => k (f' ++ keepF f (zipF hs.1 cv)) w') K.ex }
              (zipF (hs.2.map (·.1)) vs) w
        else False
      | _, _ => False
  | .block id c, lo, K, f, w => pcode P H N Φ c lo { K with ex := (id, K.n) :: K.ex } f w
  | .exit id, _, K, f, w => match exget K.ex id with | some k => k f w | none => False
  | .ret, _, K, f, w => K.r f w
  | _, _, _, _, _ => False

def postP (D : List Deferred) (N : Nat) (lo : Fs) (K : Kx) (Φ : Pan) : Exit → Act → World → Prop
  | .normal, a, w => ∃ f, Fr D N (f ++ lo) a ∧ K.n f w
  | .ret, a, w => ∃ f, Fr D N (f ++ lo) a ∧ K.r f w
  | .exit id, a, w => ∃ f k, exget K.ex id = some k ∧ Fr D N (f ++ lo) a ∧ k f w
  | .panic ch, a, w => ∃ g, Fr D N g a ∧ Φ g ch w
  | _, _, _ => False

section
variable {P : Program} {H : Hints} {N : Nat} {D : List Deferred} {Φ : Pan}
theorem post_P {lo : Fs} {K : Kx} {e : Exit} {a : Act} {w : World} (h : post D N lo K e a w) : postP D N lo K Φ e a w := by
  cases e <;> first | exact h | exact h.elim
theorem Q37 {id : Nat} {c : Code} (h : ∀ b, c ≠ .loop b) (lo : Fs) (K : Kx) (f : Fs) (w : World) :
    pcode P H N Φ (.block id c) lo K f w = pcode P H N Φ c lo { K with ex := (id, K.n) :: K.ex } f w := by
  cases c <;> first | rfl | exact absurd rfl (h _)

theorem Q17 (hm : P.follows .mixedOrders = true) (c : Code) (lo : Fs) (K : Kx) (f : Fs) (w : World) (a : Act)
    (h : pcode P H N Φ c lo K f w) (hf : Fr D N (f ++ lo) a) : c.wp P (postP D N lo K Φ) a w := by
  match c, h with
  | .skip, h => exact wp_skip ⟨f, hf, h⟩
  | .seq x y, h =>
    refine wp_seq (Code.wp_mono (fun e a' w' he => ?_) (Q17 hm x lo _ f w a h hf))
    cases e <;> try exact he
    obtain ⟨f', hf', h'⟩ := he
    exact Q17 hm y lo K f' w' a' h' hf'
  | .cond c x y, h =>
    simp only [pcode] at h
    split at h
    · rename_i b hb
      have hc : a.eval c = .bool b := by
        have := hf.eval (x := c) (by rw [hb]; rfl)
        rw [this, rho, hb]; rfl
      refine wp_cond_split hc (fun ht => ?_) (fun ht => ?_)
      · subst ht; exact Q17 hm x lo K f w a h hf
      · subst ht; exact Q17 hm y lo K f w a h hf
    · exact h.elim
  | .region id ops draw, h =>
    have hd0 : DgOk [] (f ++ lo) := fun s b hs => by cases hs
    cases draw
    · simp only [pcode] at h
      have := pops_ok (Q := postP D N lo K Φ) (fun f w a h hf => ⟨f, hf, h⟩) (fun g ch w a h hf => ⟨g, hf, h⟩) ops.toList [] f w a h hf hd0
      exact wp_region_list (by simpa using this)
    · exact Code.wp_mono (fun e a' w' he => post_P he) (Q0Y (H := H) hm (.region id ops true) lo K f w a h hf)
  | .block id c, h =>
    by_cases hl : ∃ b, c = .loop b
    · obtain ⟨body, rfl⟩ := hl
      simp only [pcode] at h
      split at h
      · exact h.elim
      · rename_i hs hhs
        split at h
        · rename_i cv vv hcv hvv
          cases hc : (subF (zipF hs.1 cv) lo && Q0L (hs.2.map (·.2)) vv)
          · simp [hc] at h
          · simp only [hc, cond_true] at h
            rw [Bool.and_eq_true] at hc
            obtain ⟨hsub, hfit⟩ := hc
            obtain ⟨I, m, hI, hround⟩ := h
            have hlo : ∀ t v, get lo t = some v → has (zipF hs.1 cv) t = true := Q2e hsub
            have h0 : ∀ t v, get (zipF hs.1 cv) t = some v → get (f ++ lo) t = some v := Q0Z hcv
            refine wp_block (Q1w (fun m a w => ∃ vs, I m vs w ∧ Q0L (hs.2.map (·.2)) vs = true ∧ Fr D N (zipF (hs.2.map (·.1)) vs ++ zipF hs.1 cv) a) (m := m) ⟨vv, hI, hfit, ?_⟩ fun m a w hJ => ?_)
            · refine ⟨hf.size, hf.defers, fun t v ht => hf.at_ t v ?_⟩
              rw [Q0N] at ht
              cases h1 : get (zipF (hs.2.map (·.1)) vv) t with
              | some u => rw [h1] at ht; obtain rfl : u = v := (by simpa using ht); exact Q0Z hvv t u h1
              | none => rw [h1] at ht; exact h0 t v (by simpa using ht)
            · obtain ⟨vs, hIv, hfv, hfr⟩ := hJ
              have hb := Q20 (hround m w) hfv hIv
              refine Code.wp_mono (fun e a' w' he => ?_) (Q17 hm body _ _ _ w a hb hfr)
              cases e with
              | normal =>
                obtain ⟨f', hf', h'⟩ := he
                simp only at h'
                cases hd : disjF f' (zipF hs.1 cv)
                · simp [hd] at h'
                · simp only [hd, cond_true] at h'
                  split at h'
                  · rename_i vs' hvs'
                    cases hft : Q0L (hs.2.map (·.2)) vs'
                    · simp [hft] at h'
                    · simp only [hft, cond_true] at h'
                      obtain ⟨m', hlt, hI'⟩ := h'
                      refine ⟨m', hlt, vs', hI', hft, hf'.size, hf'.defers, fun t v ht => hf'.at_ t v ?_⟩
                      rw [Q0N] at ht
                      rw [Q0N]
                      cases h1 : get (zipF (hs.2.map (·.1)) vs') t with
                      | some u =>
                        rw [h1] at ht
                        obtain rfl : u = v := by simpa using ht
                        rw [Q0Z hvs' t u h1]; rfl
                      | none =>
                        rw [h1] at ht
                        have h2 : get (zipF hs.1 cv) t = some v := by simpa using ht
                        rw [has_get (Q1L hd t v h2), h2]; rfl
                  · exact h'.elim
              | ret =>
                obtain ⟨f', hf', h'⟩ := he
                exact ⟨_, fr_conv hf' hlo h0, h'⟩
              | exit id' =>
                obtain ⟨f', k, hk, hf', h'⟩ := he
                simp only [exget] at hk
                simp only [Exit.then, Exit.inBlock]
                cases hq : Nat.beq id id'
                · simp only [hq, cond_false] at hk
                  have hne : id' ≠ id := fun e => by subst e; simp at hq
                  rw [if_neg hne]
                  obtain ⟨k', hk', rfl⟩ := Q1y hk
                  exact ⟨_, k', hk', fr_conv hf' hlo h0, h'⟩
                · have := Q0F hq
                  subst this
                  simp only [Nat.beq_refl, cond_true, Option.some.injEq] at hk
                  subst hk
                  simp only [if_true]
                  exact ⟨_, fr_conv hf' hlo h0, h'⟩
              | goto l => exact he.elim
              | panic ch => exact he
              | outgrown => exact he.elim
        · exact h.elim
    · rw [Q37 (fun b e => hl ⟨b, e⟩)] at h
      refine wp_block (Code.wp_mono (fun e a' w' he => ?_) (Q17 hm c lo _ f w a h hf))
      cases e with
      | normal => exact he
      | ret => exact he
      | exit id' =>
        obtain ⟨f', k, hk, hf', h'⟩ := he
        simp only [exget] at hk
        simp only [Exit.inBlock]
        cases hq : Nat.beq id id'
        · simp only [hq, cond_false] at hk
          have hne : id' ≠ id := fun e => by subst e; simp at hq
          rw [if_neg hne]
          exact ⟨f', k, hk, hf', h'⟩
        · have := Q0F hq
          subst this
          simp only [Nat.beq_refl, cond_true, Option.some.injEq] at hk
          subst hk
          simp only [if_true]
          exact ⟨f', hf', h'⟩
      | goto l => exact he.elim
      | panic ch => exact he
      | outgrown => exact he.elim
  | .exit id, h =>
    simp only [pcode] at h
    split at h
    · rename_i k hk
      exact wp_exit ⟨f, k, hk, hf, h⟩
    · exact h.elim
  | .ret, h => exact wp_ret ⟨f, hf, h⟩
  | .loop _, h => exact h.elim
  | .rangeFunc .., h => exact h.elim
  | .scope _, h => exact h.elim
  | .label _, h => exact h.elim
  | .goto _, h => exact h.elim
  | .refuse _, h => exact h.elim
termination_by SizeOf.sizeOf c
end

def pfunc (P : Program) (H : Hints) (k : Nat) (args : List Value) (Φ : List PanicEntry → World → Prop) (R : RW) (w : World) : Prop :=
  match P.funcs[k]? with
  | some fn =>
    match fn.body with
    | some c =>
      bif Nat.ble args.length fn.ntmps then
        pcode P H fn.ntmps (fun _ ch w => Φ ch w) c [] { n := fun f w => mres P f w fn.results.toList [] (fun vs => R (wrapR vs) w), r := fun f w => mres P f w fn.results.toList [] (fun vs => R (wrapR vs) w), ex := [] } (argsF args 0) w
      else False
    | none => False
  | none => False
section
variable {P : Program} {H : Hints}
theorem fr_args {args : List Value} {n : Nat} (hlen : args.length ≤ n) : Fr [] n (argsF args 0 ++ []) { tmps := args.toArray ++ Array.replicate (n - args.toArray.size) undef, defers := [] } := by
  refine ⟨by simp; omega, rfl, fun t v ht => ?_⟩
  rw [List.append_nil] at ht
  obtain ⟨j, rfl, hj⟩ := Q26 ht
  have hjl := (List.getElem?_eq_some_iff.1 hj).1
  rw [Nat.zero_add, Array.getElem?_append_left (by simpa using hjl)]
  simpa using hj
theorem Q1R (hm : P.follows .mixedOrders = true) {k : Nat} {args : List Value} {Φ : List PanicEntry → World → Prop} {R : RW} {w : World} (h : pfunc P H k args Φ R w) :
    Calls P k args.toArray w fun e w' => (∃ v, e = .returned v ∧ R v w') ∨ ∃ ch, e = .panicked ch ∧ Φ ch w' := by
  unfold pfunc at h
  split at h
  · rename_i fn hfn
    split at h
    · rename_i c hc
      cases hle : Nat.ble args.length fn.ntmps
      · simp [hle] at h
      · simp only [hle, cond_true] at h
        refine calls_of_wp hfn hc ?_
        refine Code.wp_mono (fun e a w' he => ?_) (Q17 hm c [] _ _ w _ h (fr_args (Nat.le_of_ble_eq_true hle)))
        cases e with
        | normal =>
          obtain ⟨f, hf, h⟩ := he
          rw [List.append_nil] at hf
          obtain ⟨v, h1, h2⟩ := Q0U hf h
          exact ⟨hf.defers, v, h1, .inl ⟨v, rfl, h2⟩⟩
        | ret =>
          obtain ⟨f, hf, h⟩ := he
          rw [List.append_nil] at hf
          obtain ⟨v, h1, h2⟩ := Q0U hf h
          exact ⟨hf.defers, v, h1, .inl ⟨v, rfl, h2⟩⟩
        | exit id => obtain ⟨f, k, hk, _⟩ := he; cases hk
        | goto l => exact he.elim
        | panic ch =>
          obtain ⟨g, hg, h⟩ := he
          exact ⟨hg.defers, .inr ⟨ch, rfl, h⟩⟩
        | outgrown => exact he.elim
    · exact h.elim
  · exact h.elim
def dfunc (P : Program) (H : Hints) (k : Nat) (args : List Value) (R : RW) (w : World) : Prop :=
  match P.funcs[k]? with
  | some fn =>
    match fn.body with
    | some (.seq A (.seq B (.seq (.region _ ops false) C))) =>
      bif Nat.ble args.length fn.ntmps then
        mcode P H fn.ntmps A [] ⟨fun f w => mcode P H fn.ntmps B [] ⟨fun f w =>
            (match ops.toList with
            | [o1, o2] =>
              (match o1.guard, o2.guard, o2.op, o2.dst with
              | none, none, .defer c, none =>
                (match c.callee, c.args.toList with
                | .value x, [] =>
                  mopF P f o1 w fun v w => putK fn.ntmps o1.dst v [] f fun _ f =>
                    match ev f x with
                    | some (.func (.func k') first caps) =>
                      bif enters P k' then
                        pcode P H fn.ntmps (fun g ch w => CallsD P k' (first ++ caps) (.panicking ch) w fun e u w' => ∃ v, e = .returned v ∧ settle u = .returning ∧ mres P g w' fn.results.toList [] (fun vs => R (wrapR vs) w')) C []
                          { n := fun _ _ => False, r := fun g w => CallsD P k' (first ++ caps) .returning w fun e u w' => ∃ v, e = .returned v ∧ settle u = .returning ∧ mres P g w' fn.results.toList [] (fun vs => R (wrapR vs) w'), ex := [] } f w
                      else False
                    | _ => False
                | _, _ => False)
              | _, _, _, _ => False)
            | _ => False),
            fun f w => mres P f w fn.results.toList [] (fun vs => R (wrapR vs) w), []⟩ f w,
          fun f w => mres P f w fn.results.toList [] (fun vs => R (wrapR vs) w), []⟩ (argsF args 0) w
      else False
    | _ => False
  | none => False
theorem Q2w {fn : Func} {tmps : Array Value} {D : List Deferred} {n : Nat} {g : Fs} {a : Act} (hg : Fr D n g a) {k : Nat} {first caps : Array Value} (hen : enters P k = true) {u : FrameMode} (hu : u ≠ .run) {w : World} {R : RW}
    (h : CallsD P k (first ++ caps) u w fun e u' w' => ∃ v, e = .returned v ∧ settle u' = .returning ∧ mres P g w' fn.results.toList [] (fun vs => R (wrapR vs) w')) :
    Leaves P fn a.tmps (fun e w' => ∃ v, e = .returned v ∧ R v w') [{ target := .fn (.func k) caps, args := first }] u w := by
  refine leaves_cons hu (by simp only [invoke, Q1B hen]) (h.mono fun e u' w' ⟨v, he, hs, hm⟩ => ?_)
  subst he
  show Leaves P fn a.tmps _ [] (settle u') w'
  rw [hs]
  obtain ⟨v, h1, h2⟩ := Q0U hg hm
  exact ⟨v, h1, v, rfl, h2⟩
theorem Q4x (hm : P.follows .mixedOrders = true) {k : Nat} {args : List Value} {R : RW} {w : World} (h : dfunc P H k args R w) :
    Calls P k args.toArray w fun e w' => ∃ v, e = .returned v ∧ R v w' := by
  unfold dfunc at h
  split at h
  · rename_i fn hfn
    split at h
    · rename_i A B id ops C hc
      cases hle : Nat.ble args.length fn.ntmps
      · simp [hle] at h
      · simp only [hle, cond_true] at h
        refine calls_of_wp_defers hfn hc ?_
        have hret : ∀ (lo f : Fs) (a : Act) (w : World), Fr [] fn.ntmps (f ++ []) a → mres P f w fn.results.toList [] (fun vs => R (wrapR vs) w) → bodyPostD P fn (fun e w' => ∃ v, e = .returned v ∧ R v w') .ret a w := fun lo f a w hf hr => by
          rw [List.append_nil] at hf
          obtain ⟨v, h1, h2⟩ := Q0U hf hr
          show Leaves P fn a.tmps _ a.defers .returning w
          rw [hf.defers]
          exact ⟨v, h1, v, rfl, h2⟩
        refine wp_seq (Code.wp_mono (fun e a w' he => ?_) (Q0Y hm A [] _ _ w _ h (fr_args (Nat.le_of_ble_eq_true hle))))
        cases e with
        | ret => obtain ⟨f, hf, hr⟩ := he; exact hret [] f a w' hf hr
        | exit id => obtain ⟨f, k, hk, _⟩ := he; cases hk
        | goto l => exact he.elim
        | panic ch => exact he.elim
        | outgrown => exact he.elim
        | normal =>
          obtain ⟨f, hf, h⟩ := he
          refine wp_seq (Code.wp_mono (fun e a w' he => ?_) (Q0Y hm B [] _ _ w' a h hf))
          cases e with
          | ret => obtain ⟨f, hf, hr⟩ := he; exact hret [] f a w' hf hr
          | exit id => obtain ⟨f, k, hk, _⟩ := he; cases hk
          | goto l => exact he.elim
          | panic ch => exact he.elim
          | outgrown => exact he.elim
          | normal =>
            obtain ⟨f, hf, h⟩ := he
            rw [List.append_nil] at hf
            split at h
            · rename_i o1 o2 hops
              split at h
              · rename_i c hg1 hg2 ho2 hd2
                split at h
                · rename_i x hcal hargs
                  refine wp_seq (wp_region_list ?_)
                  rw [hops]
                  have hops' : ops = [o1, o2].toArray := by rw [← hops]
                  rw [hops']
                  unfold wpList
                  have hw1 : Region.wanted o1 (yielded [o1, o2].toArray a.tmps) = true := by unfold Region.wanted; rw [hg1]
                  rw [if_pos hw1]
                  refine .inl ((mopF_ok hf h).wp fun v w2 h => ?_)
                  obtain ⟨dg2, f2, h, hf2, _⟩ := putK_ok (lo := []) (dg := []) h (by rw [List.append_nil]; exact hf) (fun s b hs => by cases hs)
                  rw [List.append_nil] at hf2
                  split at h
                  · rename_i k' first caps hev
                    cases hen : enters P k'
                    · simp [hen] at h
                    · simp only [hen, cond_true] at h
                      unfold wpList
                      have hw2 : Region.wanted o2 (yielded [o1, o2].toArray (a.put o1.dst v).tmps) = true := by unfold Region.wanted; rw [hg2]
                      rw [if_pos hw2]
                      refine .inl ?_
                      have hex : (a.put o1.dst v).eval x = .func (.func k') first caps := by rw [hf2.eval (by rw [hev]; rfl)]; unfold rho; rw [hev]; rfl
                      have hca : c.args = #[] := by apply Array.ext'; rw [hargs]
                      have hr : (execOp (a.put o1.dst v).eval o2).run P w2 = .ok (.defer { target := .fn (.func k') caps, args := first }) w2 := by
                        simp only [execOp, ho2, resolve, hcal, hca, hex, Deferred.ofValue, pure_bind, Sem.run_bind, Sem.run_pure, Result.andThen_ok]
                        simp
                      unfold Oper.wp
                      rw [hr, Oper.upon_defer, hd2]
                      unfold wpList
                      have hf3 : Fr [{ target := .fn (.func k') caps, args := first }] fn.ntmps (f2 ++ []) ({ a.put o1.dst v with defers := { target := .fn (.func k') caps, args := first } :: (a.put o1.dst v).defers } : Act) := by
                        rw [List.append_nil]
                        exact ⟨hf2.size, by show _ :: _ = _; rw [hf2.defers], hf2.at_⟩
                      refine Code.wp_mono (fun e a3 w3 he => ?_) (Q17 hm C [] _ f2 w2 _ h hf3)
                      cases e with
                      | normal => obtain ⟨_, _, h⟩ := he; exact h.elim
                      | ret =>
                        obtain ⟨g, hg, h⟩ := he
                        rw [List.append_nil] at hg
                        show Leaves P fn a3.tmps _ a3.defers .returning w3
                        rw [hg.defers]
                        exact Q2w (tmps := a3.tmps) hg hen (by simp) h
                      | exit id => obtain ⟨f, k, hk, _⟩ := he; cases hk
                      | goto l => exact he.elim
                      | panic ch =>
                        obtain ⟨g, hg, h⟩ := he
                        show Leaves P fn a3.tmps _ a3.defers (.panicking ch) w3
                        rw [hg.defers]
                        exact Q2w (tmps := a3.tmps) hg hen (by simp) h
                      | outgrown => exact he.elim
                  · exact h.elim
                · exact h.elim
              · exact h.elim
            · exact h.elim
    · exact h.elim
  · exact h.elim
end
def recV : FrameMode → Value × FrameMode
  | .panicking ({ v, recovered := false, goexit := false } :: older) => (v, .panicking ({ v, recovered := true } :: older))
  | u => (.nilIface, u)
def rfunc (P : Program) (H : Hints) (k : Nat) (args : List Value) (u : FrameMode) (R : Value → FrameMode → World → Prop) (w : World) : Prop :=
  match P.funcs[k]? with
  | some fn =>
    match fn.body with
    | some (.seq (.region _ ops false) C) =>
      bif Nat.ble args.length fn.ntmps then
        (match ops.toList with
        | [o1, o2] =>
          (match o1.guard, o1.op, o1.dst, o2.guard with
          | none, .call c, some d, none =>
            (match c.callee, c.args.toList with
            | .builtin .recover, [] =>
              bif Nat.blt d fn.ntmps then
                mopF P ((d, (recV u).1) :: argsF args 0) o2 w fun v w => putK fn.ntmps o2.dst v [] ((d, (recV u).1) :: argsF args 0) fun _ f =>
                  mcode P H fn.ntmps C [] ⟨fun f w => mres P f w fn.results.toList [] (fun vs => R (wrapR vs) (recV u).2 w), fun f w => mres P f w fn.results.toList [] (fun vs => R (wrapR vs) (recV u).2 w), []⟩ f w
              else False
            | _, _ => False)
          | _, _, _, _ => False)
        | _ => False)
      else False
    | _ => False
  | none => False
section
variable {P : Program} {H : Hints}
theorem recV_D (c : Frame) (cs : List Frame) (u : FrameMode) (hu : c.mode = u) :
    (match recoverD (c :: cs) with | some (v, cs') => (v, cs') | none => (.nilIface, c :: cs)) = ((recV u).1, { c with mode := (recV u).2 } :: cs) := by
  subst hu
  unfold recoverD recV
  simp only
  split <;> rename_i h
  · split at h
    · rename_i v older hm
      cases h
      rw [hm]
    · cases h
  · split at h
    · cases h
    · rename_i hn
      split
      · rename_i v older hm; exact absurd hm (hn v older)
      · rfl
theorem Q3k (hm : P.follows .mixedOrders = true) {k : Nat} {args : List Value} {u : FrameMode} {R : Value → FrameMode → World → Prop} {w : World} (h : rfunc P H k args u R w) :
    CallsD P k args.toArray u w fun e u' w' => ∃ v, e = .returned v ∧ R v u' w' := by
  unfold rfunc at h
  split at h
  · rename_i fn hfn
    split at h
    · rename_i id ops C hc
      cases hle : Nat.ble args.length fn.ntmps
      · simp [hle] at h
      · simp only [hle, cond_true] at h
        split at h
        · rename_i o1 o2 hops
          split at h
          · rename_i c d hg1 ho1 hd1 hg2
            split at h
            · rename_i hcal hargs
              cases hlt : Nat.blt d fn.ntmps
              · simp [hlt] at h
              · simp only [hlt, cond_true] at h
                refine callsD_of_wpS hfn hc fun c₀ cs hu => ?_
                refine wpS_seq (wpS_region ?_)
                have hops' : ops = #[o1, o2] := by apply Array.ext'; rw [hops]
                have hca : c.args = #[] := by apply Array.ext'; rw [hargs]
                have hf0 := fr_args (Nat.le_of_ble_eq_true hle)
                rw [List.append_nil] at hf0
                generalize ({ tmps := args.toArray ++ Array.replicate (fn.ntmps - args.toArray.size) undef, defers := [] } : Act) = a at *
                rw [hops']
                show wpOpsS P #[o1, o2] _ [0, 1] a (c₀ :: cs) w
                unfold wpOpsS
                have hw1 : Region.wanted o1 (yielded #[o1, o2] a.tmps) = true := by unfold Region.wanted; rw [hg1]
                show (if Region.wanted o1 (yielded #[o1, o2] a.tmps) = true then _ else _)
                rw [if_pos hw1]
                have hr1 : (execOp a.eval o1).run P w = .ok .recover w := by
                  simp only [execOp, ho1, resolve, hcal, hca]
                  rfl
                have hr1' : (execOp a.eval #[o1, o2][0]).run P w = .ok .recover w := hr1
                rw [hr1']
                have hrec := recV_D c₀ cs u hu
                have key : wpOpsS P #[o1, o2] (Exit.thenS (C.wpS P (bodyPostS P fn c₀ cs fun e u' w' => ∃ v, e = .returned v ∧ R v u' w')) (bodyPostS P fn c₀ cs fun e u' w' => ∃ v, e = .returned v ∧ R v u' w')) [1] (a.put o1.dst (recV u).1) ({ c₀ with mode := (recV u).2 } :: cs) w := by
                  have hf1 : Fr [] fn.ntmps ((d, (recV u).1) :: argsF args 0) (a.put o1.dst (recV u).1) := by rw [hd1]; exact hf0.put hlt _
                  unfold wpOpsS
                  have hw2 : Region.wanted o2 (yielded #[o1, o2] (a.put o1.dst (recV u).1).tmps) = true := by unfold Region.wanted; rw [hg2]
                  show (if Region.wanted o2 (yielded #[o1, o2] (a.put o1.dst (recV u).1).tmps) = true then _ else _)
                  rw [if_pos hw2]
                  have fin : ∀ v w2, putK fn.ntmps o2.dst v [] ((d, (recV u).1) :: argsF args 0) (fun _ f => mcode P H fn.ntmps C [] ⟨fun f w => mres P f w fn.results.toList [] (fun vs => R (wrapR vs) (recV u).2 w), fun f w => mres P f w fn.results.toList [] (fun vs => R (wrapR vs) (recV u).2 w), []⟩ f w2) →
                      wpOpsS P #[o1, o2] (Exit.thenS (C.wpS P (bodyPostS P fn c₀ cs fun e u' w' => ∃ v, e = .returned v ∧ R v u' w')) (bodyPostS P fn c₀ cs fun e u' w' => ∃ v, e = .returned v ∧ R v u' w')) [] ((a.put o1.dst (recV u).1).put o2.dst v) ({ c₀ with mode := (recV u).2 } :: cs) w2 := fun v w2 h => by
                    obtain ⟨dg2, f2, h, hf2, _⟩ := putK_ok (lo := []) (dg := []) h (by rw [List.append_nil]; exact hf1) (fun s b hs => by cases hs)
                    unfold wpOpsS
                    show C.wpS P _ _ _ _
                    refine wpS_of_wp (Code.wp_mono (fun e a3 w3 he => ?_) (Q0Y hm C [] _ f2 w2 _ h hf2))
                    cases e with
                    | normal =>
                      obtain ⟨g, hg, h⟩ := he
                      rw [List.append_nil] at hg
                      obtain ⟨v, h1, h2⟩ := Q0U (R := fun v w => R v (recV u).2 w) hg h
                      exact ⟨hg.defers, _, rfl, v, h1, v, rfl, h2⟩
                    | ret =>
                      obtain ⟨g, hg, h⟩ := he
                      rw [List.append_nil] at hg
                      obtain ⟨v, h1, h2⟩ := Q0U (R := fun v w => R v (recV u).2 w) hg h
                      exact ⟨hg.defers, _, rfl, v, h1, v, rfl, h2⟩
                    | exit id => obtain ⟨f, k, hk, _⟩ := he; cases hk
                    | goto l => exact he.elim
                    | panic ch => exact he.elim
                    | outgrown => exact he.elim
                  have hok := mopF_ok hf1 h
                  unfold OpOk at hok
                  generalize hrun : (execOp (a.put o1.dst (recV u).1).eval o2).run P w = r at hok
                  have hrun' : (execOp (a.put o1.dst (recV u).1).eval #[o1, o2][1]).run P w = r := hrun
                  rw [hrun']
                  clear hrun hrun'
                  cases r with
                  | ok n w2 =>
                    cases n <;> simp only at hok
                    case value v => exact fin v w2 hok
                    case skip => exact fin undef w2 hok
                    case enter f args =>
                      show Calls P f args w2 _
                      exact hok.mono fun e w'' ⟨v, he, hv⟩ => by subst he; exact fin v w'' hv
                    all_goals exact hok.elim
                  | halt x w2 => exact hok.elim
                cases hrd : recoverD (c₀ :: cs) with
                | none =>
                  rw [hrd] at hrec
                  have h1 : Value.nilIface = (recV u).1 := congrArg Prod.fst hrec
                  have h2 : c₀ :: cs = { c₀ with mode := (recV u).2 } :: cs := congrArg Prod.snd hrec
                  show wpOpsS P #[o1, o2] _ [1] (a.put o1.dst .nilIface) (c₀ :: cs) w
                  rw [h1, h2]; exact key
                | some p =>
                  obtain ⟨v, cs'⟩ := p
                  rw [hrd] at hrec
                  have h1 : v = (recV u).1 := congrArg Prod.fst hrec
                  have h2 : cs' = { c₀ with mode := (recV u).2 } :: cs := congrArg Prod.snd hrec
                  show wpOpsS P #[o1, o2] _ [1] (a.put o1.dst v) cs' w
                  rw [h1, h2]; exact key
            · exact h.elim
          · exact h.elim
        · exact h.elim
    · exact h.elim
  · exact h.elim
end
end Go.Mx
set_option linter.unusedSectionVars false
namespace Go.Mx
section
variable {K K1 : Nat → Prop} {w w1 w' : World} {o o1 o' : Own} {p q j : Nat}
def setAll : List Value → Nat → List Value → List Value
  | cs, _, [] => cs
  | cs, k, v :: r => setAll (cs.set k v) (k + 1) r
def putsK (w : World) (a : Addr) : List Value → Nat → (World → Prop) → Prop
  | [], _, Φ => Φ w
  | v :: r, j, Φ => Q01 w (a.add j) ∧ thenW (w.setCell (a.add j) v) fun w' => putsK w' a r (j + 1) Φ
theorem Q0R {q k : Nat} {t : TypeId} : ∀ {vs cs : List Value} {j : Nat} {w : World} {Φ : World → Prop}, Blk w q t cs → k + j + vs.length ≤ cs.length → (∀ w', Ext (fun b => b = q) w w' → Blk w' q t (setAll cs (k + j) vs) → Φ w') → putsK w ((blk q).add k) vs j Φ
  | [], cs, j, w, Φ, hb, _, h => h w (Ext.refl _ _) hb
  | v :: r, cs, j, w, Φ, hb, hl, h => by
    simp only [List.length_cons] at hl
    have hc : cs[k + j]? = some (cs[k + j]'(by omega)) := List.getElem?_eq_getElem (by omega)
    refine ⟨by rw [add_add]; exact hb.cana hc, Q00 fun w2 e2 => ?_⟩
    rw [add_add, add_blk] at e2
    have X : Ext (fun b => b = q) w w2 := (Ext.refl (fun b => b = q) w).x_set (q := q) (i := k + j) rfl (.inl rfl) e2
    have hb2 := hb.seti (k + j) (t := t) (v := v) rfl e2
    exact Q0R hb2 (by simp; omega) fun w' X' hb' => h w' (X.trans X') hb'
end
theorem Ext.x_puts {m : Nat → Prop} {w0 w w' : World} {q : Nat} (h : Ext m w0 w) (X : Ext (fun b => b = q) w w') (hq : m q ∨ w0.heap.size ≤ q) : Ext m w0 w' :=
  ⟨X.os.trans h.os, X.tape.trans h.tape, X.output.trans h.output, Nat.le_trans h.size X.size, fun b hb hm => by
    refine (X.block b (Nat.lt_of_lt_of_le hb h.size) fun e => ?_).trans (h.block b hb hm)
    subst e
    rcases hq with hq | hq
    · exact hm hq
    · omega⟩
end Go.Mx
set_option maxRecDepth 100000
namespace Go.Proofs.Ytlgpeojjmapnjaa
open Go Go.Mx Go.Proofs
def frmMust.M (k1 : Int) (Φ : List PanicEntry → World → Prop) (R : RW) (w : World) : Prop :=
 bif k1 != 0 then (
 Φ [{ v := .iface 33 (.int .i64 k1), recovered := false }] w) else (
 R (.tuple #[]) w)

theorem frmMust.ok (k1 : Int) {Φ : List PanicEntry → World → Prop} {R : RW} {w : World} (h : frmMust.M k1 Φ R w) : Calls Try.prog 60 #[.int .i64 k1] w fun e w' => (∃ v, e = .returned v ∧ R v w') ∨ ∃ ch, e = .panicked ch ∧ Φ ch w' :=
  Q1R follows (H := []) (args := [.int .i64 k1]) (cast (by kernel_rfl) h)

def frmEnt.M (b4 b2 : Addr) (Φ : List PanicEntry → World → Prop) (R : RW) (w : World) : Prop :=
 ∃ (b9 : Option Addr) (b7 b8 : Nat), w.cell? b4 = some (.slice b9 b7 b8) ∧
 Calls Try.prog 98 #[.slice b9 b7 b8] w fun ax aj => (∃ (ab ai ak aw av ag : Int) (a7 : Option Addr) (a8 aa : Nat) (al ae : Int), ax = .returned (.tuple #[.agg #[.int .i64 ab, .int .i64 ai, .int .u64 ak, .int .i64 aw, .int .i64 av, .int .i64 ag, .slice a7 a8 aa, .int .u64 al], .int .i64 ae]) ∧
 thenW (aj.alloc (.cells #[.int .i64 0, .int .i64 0, .int .u64 0, .int .i64 0, .int .i64 0, .int .i64 0, .slice none 0 0, .int .u64 0] 27)) fun b5 =>
 putsK b5 (blk aj.heap.size) [.int .i64 ab, .int .i64 ai, .int .u64 ak, .int .i64 aw, .int .i64 av, .int .i64 ag, .slice a7 a8 aa, .int .u64 al] 0 fun b1 =>
 Calls Try.prog 60 #[.int .i64 ae] b1 fun az af => (az = .returned (.tuple #[]) ∧
 ∃ (b6 : Option Addr), af.cell? b2 = some (.pointer b6) ∧
 ∃ (a0 a5 a9 ac ah a2 : Int) (a4 : Option Addr) (a3 a1 : Nat) (ad : Int), cellsAt af (blk aj.heap.size) [.int .i64 a0, .int .i64 a5, .int .u64 a9, .int .i64 ac, .int .i64 ah, .int .i64 a2, .slice a4 a3 a1, .int .u64 ad] 0 ∧
 b6.elim False fun a6 =>
 Q01 af (a6.add 0) ∧
 thenW (af.setCell (a6.add 0) (.int .i64 a0)) fun am =>
 Q01 am (a6.add 1) ∧
 thenW (am.setCell (a6.add 1) (.int .i64 a5)) fun ay =>
 Q01 ay (a6.add 2) ∧
 thenW (ay.setCell (a6.add 2) (.int .u64 a9)) fun an =>
 Q01 an (a6.add 3) ∧
 thenW (an.setCell (a6.add 3) (.int .i64 ac)) fun ap =>
 Q01 ap (a6.add 4) ∧
 thenW (ap.setCell (a6.add 4) (.int .i64 ah)) fun b0 =>
 Q01 b0 (a6.add 5) ∧
 thenW (b0.setCell (a6.add 5) (.int .i64 a2)) fun ar =>
 Q01 ar (a6.add 6) ∧
 thenW (ar.setCell (a6.add 6) (.slice a4 a3 a1)) fun au =>
 Q01 au (a6.add 7) ∧
 thenW (au.setCell (a6.add 7) (.int .u64 ad)) fun b3 =>
 R (.tuple #[]) b3) ∨ ∃ (ao : List PanicEntry), az = .panicked ao ∧
 Φ ao af) ∨ ∃ (aq : List PanicEntry), ax = .panicked aq ∧
 Φ aq aj

theorem frmEnt.ok (a0 a1 : Addr) {Φ : List PanicEntry → World → Prop} {R : RW} {w : World} (h : frmEnt.M a0 a1 Φ R w) : Calls Try.prog 97 #[.pointer (some a0), .pointer (some a1)] w fun e w' => (∃ v, e = .returned v ∧ R v w') ∨ ∃ ch, e = .panicked ch ∧ Φ ch w' :=
  Q1R follows (H := []) (args := [.pointer (some a0), .pointer (some a1)]) (cast (by kernel_rfl) h)

def frmVec.M (a8 a6 : Addr) (Φ : List PanicEntry → World → Prop) (R : RW) (w : World) : Prop :=
 ∃ (af : Option Addr) (ah ae : Nat), w.cell? a8 = some (.slice af ah ae) ∧
 Calls Try.prog 93 #[.slice af ah ae] w fun ab a9 => (∃ (a2 : Option Addr) (a0 a1 : Nat) (a4 : Int), ab = .returned (.tuple #[.slice a2 a0 a1, .int .i64 a4]) ∧
 Calls Try.prog 60 #[.int .i64 a4] a9 fun aa a3 => (aa = .returned (.tuple #[]) ∧
 ∃ (ag : Option Addr), a3.cell? a6 = some (.pointer ag) ∧
 ag.elim False fun ac =>
 Q01 a3 (((ac.add 1).add 18).add 0) ∧
 thenW (a3.setCell (((ac.add 1).add 18).add 0) (.slice a2 a0 a1)) fun a7 =>
 R (.tuple #[]) a7) ∨ ∃ (a5 : List PanicEntry), aa = .panicked a5 ∧
 Φ a5 a3) ∨ ∃ (ad : List PanicEntry), ab = .panicked ad ∧
 Φ ad a9

theorem frmVec.ok (a0 a1 : Addr) {Φ : List PanicEntry → World → Prop} {R : RW} {w : World} (h : frmVec.M a0 a1 Φ R w) : Calls Try.prog 92 #[.pointer (some a0), .pointer (some a1)] w fun e w' => (∃ v, e = .returned v ∧ R v w') ∨ ∃ ch, e = .panicked ch ∧ Φ ch w' :=
  Q1R follows (H := []) (args := [.pointer (some a0), .pointer (some a1)]) (cast (by kernel_rfl) h)

def Q1W.M (r1 : Option Addr) (Φ : List PanicEntry → World → Prop) (R : RW) (w : World) : Prop :=
 thenW (w.alloc (.cells #[.int .i64 0, .int .i64 0, .int .i64 0, .int .u64 0, .int .i64 0, .int .i64 0, .int .i64 0, .slice none 0 0, .int .u64 0, .int .i64 0, .int .i64 0, .int .u64 0, .int .i64 0, .int .i64 0, .int .i64 0, .slice none 0 0, .int .u64 0, .int .i64 0, .slice none 0 0, .int .u64 0] 38)) fun df =>
 r1.elim False fun a3 =>
 ∃ (c6 : Option Addr), df.cell? (a3.add 0) = some (.pointer c6) ∧
 Calls Try.prog 41 #[.pointer c6, .int .i64 4] df fun de dc => (∃ (cb : Int), de = .returned (.int .i64 cb) ∧
 r1.elim False fun a9 =>
 Q01 dc (((a9.add 1).add 0).add 0) ∧
 thenW (dc.setCell (((a9.add 1).add 0).add 0) (.int .i64 cb)) fun d0 =>
 r1.elim False fun dj =>
 ∃ (ce : Int), d0.cell? ((dj.add 1).add 0) = some (.int .i64 ce) ∧
 Calls Try.prog 59 #[.pointer r1, .int .i64 ce] d0 fun cv ct => (∃ (bg : Nat) (c5 bw : Array Value), cv = .returned (.func (.func bg) c5 bw) ∧
 bif enters Try.prog bg then Calls Try.prog bg (c5.toList ++ ([] : List Value) ++ bw.toList).toArray ct (fun d5 cq => (d5 = .returned (.tuple #[]) ∧
 r1.elim False fun dk =>
 ∃ (bi : Option Addr), cq.cell? (dk.add 0) = some (.pointer bi) ∧
 Calls Try.prog 43 #[.pointer bi] cq fun db d1 => (∃ (ca : Int), db = .returned (.int .i64 ca) ∧
 Calls Try.prog 60 #[.int .i64 ca] d1 fun cx cr => (cx = .returned (.tuple #[]) ∧
 r1.elim False fun dp =>
 ∃ (bo : Option Addr) (ae cd : Nat), cr.cell? (dp.add 21) = some (.slice bo ae cd) ∧
 ∃ (I0 : Nat → List Value → World → Prop) (dn : Nat), I0 dn [.int .i64 0] cr ∧ ∀ (dg : Nat) (cg : World) (cs : Int), I0 dg [.int .i64 cs] cg →
 bif decide (cs < (ae : Int)) then (
 bo.elim False fun dl =>
 0 ≤ (cs : Int) ∧ (cs : Int) < (ae : Int) ∧
 ∃ (cp : Nat) (da cz : Array Value), cg.cell? (dl.add (Int.toNat cs * 1)) = some (.func (.func cp) da cz) ∧
 bif enters Try.prog cp then Calls Try.prog cp (da.toList ++ ([] : List Value) ++ cz.toList).toArray cg (fun d6 d8 => (d6 = .returned (.tuple #[]) ∧
 ∃ dh, dh < dg ∧ I0 dh [.int .i64 (IntKind.i64.wrap (cs + 1))] d8) ∨ ∃ (d7 : List PanicEntry), d6 = .panicked d7 ∧
 Φ d7 d8) else False) else (
 r1.elim False fun dm =>
 ∃ (br ak ba bm c7 c0 b7 : Int) (aw : Option Addr) (b3 bc : Nat) (bs ag au bj c4 c8 b5 : Int) (ay : Option Addr) (bd av : Nat) (bz cc : Int) (cj : Option Addr) (cn co : Nat) (cf : Int), cellsAt cg (dm.add 1) [.int .i64 br, .int .i64 ak, .int .i64 ba, .int .u64 bm, .int .i64 c7, .int .i64 c0, .int .i64 b7, .slice aw b3 bc, .int .u64 bs, .int .i64 ag, .int .i64 au, .int .u64 bj, .int .i64 c4, .int .i64 c8, .int .i64 b5, .slice ay bd av, .int .u64 bz, .int .i64 cc, .slice cj cn co, .int .u64 cf] 0 ∧
 Calls Try.prog 15 #[.agg #[.int .i64 br, .int .i64 ak, .int .i64 ba, .int .u64 bm, .int .i64 c7, .int .i64 c0, .int .i64 b7, .slice aw b3 bc, .int .u64 bs, .int .i64 ag, .int .i64 au, .int .u64 bj, .int .i64 c4, .int .i64 c8, .int .i64 b5, .slice ay bd av, .int .u64 bz, .int .i64 cc, .slice cj cn co, .int .u64 cf]] cg fun d2 ci => (∃ (c3 : Bool), d2 = .returned (.bool c3) ∧
 bif !c3 then (
 Φ [{ v := .iface 33 (.int .i64 4), recovered := false }] ci) else (
 r1.elim False fun di =>
 ∃ (bu aj b6 bh c2 bt b8 : Int) (ao : Option Addr) (b4 bb : Nat) (bx an ap bk bv bq ar : Int) (be : Option Addr) (bf az : Nat) (c1 ch : Int) (cm : Option Addr) (cl ck : Nat) (c9 : Int), cellsAt ci (di.add 1) [.int .i64 bu, .int .i64 aj, .int .i64 b6, .int .u64 bh, .int .i64 c2, .int .i64 bt, .int .i64 b8, .slice ao b4 bb, .int .u64 bx, .int .i64 an, .int .i64 ap, .int .u64 bk, .int .i64 bv, .int .i64 bq, .int .i64 ar, .slice be bf az, .int .u64 c1, .int .i64 ch, .slice cm cl ck, .int .u64 c9] 0 ∧
 putsK ci (blk w.heap.size) [.int .i64 bu, .int .i64 aj, .int .i64 b6, .int .u64 bh, .int .i64 c2, .int .i64 bt, .int .i64 b8, .slice ao b4 bb, .int .u64 bx, .int .i64 an, .int .i64 ap, .int .u64 bk, .int .i64 bv, .int .i64 bq, .int .i64 ar, .slice be bf az, .int .u64 c1, .int .i64 ch, .slice cm cl ck, .int .u64 c9] 0 fun d4 =>
 ∃ (b0 a6 ac al b9 b2 a7 : Int) (aa : Option Addr) (a8 ab : Nat) (b1 a2 ad ah ai am a0 : Int) (a4 : Option Addr) (a5 a1 : Nat) (af ax : Int) (bp : Option Addr) (bl bn : Nat) (aq : Int), cellsAt d4 (blk w.heap.size) [.int .i64 b0, .int .i64 a6, .int .i64 ac, .int .u64 al, .int .i64 b9, .int .i64 b2, .int .i64 a7, .slice aa a8 ab, .int .u64 b1, .int .i64 a2, .int .i64 ad, .int .u64 ah, .int .i64 ai, .int .i64 am, .int .i64 a0, .slice a4 a5 a1, .int .u64 af, .int .i64 ax, .slice bp bl bn, .int .u64 aq] 0 ∧
 R (.agg #[.int .i64 b0, .int .i64 a6, .int .i64 ac, .int .u64 al, .int .i64 b9, .int .i64 b2, .int .i64 a7, .slice aa a8 ab, .int .u64 b1, .int .i64 a2, .int .i64 ad, .int .u64 ah, .int .i64 ai, .int .i64 am, .int .i64 a0, .slice a4 a5 a1, .int .u64 af, .int .i64 ax, .slice bp bl bn, .int .u64 aq]) d4)) ∨ ∃ (d9 : List PanicEntry), d2 = .panicked d9 ∧
 Φ d9 ci)) ∨ ∃ (cu : List PanicEntry), cx = .panicked cu ∧
 Φ cu cr) ∨ ∃ (d3 : List PanicEntry), db = .panicked d3 ∧
 Φ d3 d1) ∨ ∃ (cw : List PanicEntry), d5 = .panicked cw ∧
 Φ cw cq) else False) ∨ ∃ (cy : List PanicEntry), cv = .panicked cy ∧
 Φ cy ct) ∨ ∃ (dd : List PanicEntry), de = .panicked dd ∧
 Φ dd dc

theorem Q1W.ok (r1 : Option Addr) {Φ : List PanicEntry → World → Prop} {R : RW} {w : World} (h : Q1W.M r1 Φ R w) : Calls Try.prog 32 #[.pointer r1] w fun e w' => (∃ v, e = .returned v ∧ R v w') ∨ ∃ ch, e = .panicked ch ∧ Φ ch w' :=
  Q1R follows (H := [(0, [0, 2, 31, 32], [(33, (.one (.int .i64)))])]) (args := [.pointer r1]) (cast (by kernel_rfl) h)

def frmBack.M (a0 a8 : Addr) (pk : Int) (R : Value → FrameMode → World → Prop) (w : World) : Prop :=
 ∃ (b3 : Bool), (binOp .neq 20 (.iface 33 (.int .i64 pk)) (.nilIface)).run Try.prog w = .ok (.bool b3) w ∧
 bif b3 then (
 thenW (w.drew) fun ai =>
 ∃ (v5 : Int), (Instr.typeAssert (.iface 33 (.int .i64 pk)) 20 33 false).run Try.prog ai = .ok (.int .i64 v5) ai ∧
 Q01 ai (a0.add 0) ∧
 thenW (ai.setCell (a0.add 0) (.int .i64 0)) fun al =>
 Q01 al (a0.add 1) ∧
 thenW (al.setCell (a0.add 1) (.int .i64 0)) fun am =>
 Q01 am (a0.add 2) ∧
 thenW (am.setCell (a0.add 2) (.int .i64 0)) fun an =>
 Q01 an (a0.add 3) ∧
 thenW (an.setCell (a0.add 3) (.int .u64 0)) fun ak =>
 Q01 ak (a0.add 4) ∧
 thenW (ak.setCell (a0.add 4) (.int .i64 0)) fun a6 =>
 Q01 a6 (a0.add 5) ∧
 thenW (a6.setCell (a0.add 5) (.int .i64 0)) fun ad =>
 Q01 ad (a0.add 6) ∧
 thenW (ad.setCell (a0.add 6) (.int .i64 0)) fun a4 =>
 Q01 a4 (a0.add 7) ∧
 thenW (a4.setCell (a0.add 7) (.slice none 0 0)) fun a3 =>
 Q01 a3 (a0.add 8) ∧
 thenW (a3.setCell (a0.add 8) (.int .u64 0)) fun ac =>
 Q01 ac (a0.add 9) ∧
 thenW (ac.setCell (a0.add 9) (.int .i64 0)) fun aa =>
 Q01 aa (a0.add 10) ∧
 thenW (aa.setCell (a0.add 10) (.int .i64 0)) fun ah =>
 Q01 ah (a0.add 11) ∧
 thenW (ah.setCell (a0.add 11) (.int .u64 0)) fun a5 =>
 Q01 a5 (a0.add 12) ∧
 thenW (a5.setCell (a0.add 12) (.int .i64 0)) fun a9 =>
 Q01 a9 (a0.add 13) ∧
 thenW (a9.setCell (a0.add 13) (.int .i64 0)) fun ab =>
 Q01 ab (a0.add 14) ∧
 thenW (ab.setCell (a0.add 14) (.int .i64 0)) fun ag =>
 Q01 ag (a0.add 15) ∧
 thenW (ag.setCell (a0.add 15) (.slice none 0 0)) fun af =>
 Q01 af (a0.add 16) ∧
 thenW (af.setCell (a0.add 16) (.int .u64 0)) fun ae =>
 Q01 ae (a0.add 17) ∧
 thenW (ae.setCell (a0.add 17) (.int .i64 0)) fun a2 =>
 Q01 a2 (a0.add 18) ∧
 thenW (a2.setCell (a0.add 18) (.slice none 0 0)) fun a7 =>
 Q01 a7 (a0.add 19) ∧
 thenW (a7.setCell (a0.add 19) (.int .u64 0)) fun a1 =>
 (Instr.typeAssert (.iface 33 (.int .i64 pk)) 20 33 false).run Try.prog a1 = .ok (.int .i64 v5) a1 ∧
 Q01 a1 (a8.add 0) ∧
 thenW (a1.setCell (a8.add 0) (.int .i64 v5)) fun aj =>
 R (.tuple #[]) (.panicking [{ v := .iface 33 (.int .i64 pk), recovered := true }]) aj) else (
 R (.tuple #[]) (.panicking [{ v := .iface 33 (.int .i64 pk), recovered := true }]) w)

theorem frmBack.ok (a0 a1 : Addr) (pk : Int) {R : Value → FrameMode → World → Prop} {w : World} (h : frmBack.M a0 a1 pk R w) : CallsD Try.prog 30 #[.pointer (some a0), .pointer (some a1)] (.panicking [{ v := .iface 33 (.int .i64 pk), recovered := false }]) w fun e u' w' => ∃ v, e = .returned v ∧ R v u' w' :=
  Q3k follows (H := []) (args := [.pointer (some a0), .pointer (some a1)]) (cast (by kernel_rfl) h)

def frmDone.M (a0 a1 : Addr) (R : Value → FrameMode → World → Prop) (w : World) : Prop :=
 R (.tuple #[]) .returning w

theorem frmDone.ok (a0 a1 : Addr) {R : Value → FrameMode → World → Prop} {w : World} (h : frmDone.M a0 a1 R w) : CallsD Try.prog 30 #[.pointer (some a0), .pointer (some a1)] .returning w fun e u' w' => ∃ v, e = .returned v ∧ R v u' w' :=
  Q3k follows (H := []) (args := [.pointer (some a0), .pointer (some a1)]) (cast (by kernel_rfl) h)

def frmRead.M (f3 : Option Addr) (f2 f4 : Nat) (R : RW) (w : World) : Prop :=
 thenW (w.alloc (.cells #[.int .i64 0, .int .i64 0, .int .i64 0, .int .u64 0, .int .i64 0, .int .i64 0, .int .i64 0, .slice none 0 0, .int .u64 0, .int .i64 0, .int .i64 0, .int .u64 0, .int .i64 0, .int .i64 0, .int .i64 0, .slice none 0 0, .int .u64 0, .int .i64 0, .slice none 0 0, .int .u64 0] 38)) fun dx =>
 thenW (dx.alloc (.cells #[.int .i64 0] 33)) fun f1 =>
 bif decide ((f2 : Int) > 4000) then (
 ∃ (eb cb dl dw e1 e0 cl : Int) (cy : Option Addr) (c4 ck : Nat) (dr c1 cv d1 dm dp cg : Int) (cq : Option Addr) (ci cx : Nat) (dv e6 : Int) (eh : Option Addr) (ek ei : Nat) (ea : Int), cellsAt f1 (blk w.heap.size) [.int .i64 eb, .int .i64 cb, .int .i64 dl, .int .u64 dw, .int .i64 e1, .int .i64 e0, .int .i64 cl, .slice cy c4 ck, .int .u64 dr, .int .i64 c1, .int .i64 cv, .int .u64 d1, .int .i64 dm, .int .i64 dp, .int .i64 cg, .slice cq ci cx, .int .u64 dv, .int .i64 e6, .slice eh ek ei, .int .u64 ea] 0 ∧
 putsK f1 (blk w.heap.size) [.int .i64 eb, .int .i64 cb, .int .i64 dl, .int .u64 dw, .int .i64 e1, .int .i64 e0, .int .i64 cl, .slice cy c4 ck, .int .u64 dr, .int .i64 c1, .int .i64 cv, .int .u64 d1, .int .i64 dm, .int .i64 dp, .int .i64 cg, .slice cq ci cx, .int .u64 dv, .int .i64 e6, .slice eh ek ei, .int .u64 ea] 0 fun eq =>
 Q01 eq ((blk dx.heap.size).add 0) ∧
 thenW (eq.setCell ((blk dx.heap.size).add 0) (.int .i64 3)) fun en =>
 ∃ (cs ae bh bn ca ch b3 : Int) (be : Option Addr) (bf bd : Nat) (cf ah az bo cw cu ay : Int) (bc : Option Addr) (b5 b4 : Nat) (cr dk : Int) (dq : Option Addr) (du dn : Nat) (d3 : Int), cellsAt en (blk w.heap.size) [.int .i64 cs, .int .i64 ae, .int .i64 bh, .int .u64 bn, .int .i64 ca, .int .i64 ch, .int .i64 b3, .slice be bf bd, .int .u64 cf, .int .i64 ah, .int .i64 az, .int .u64 bo, .int .i64 cw, .int .i64 cu, .int .i64 ay, .slice bc b5 b4, .int .u64 cr, .int .i64 dk, .slice dq du dn, .int .u64 d3] 0 ∧
 ∃ (ej : Int), en.cell? (blk dx.heap.size) = some (.int .i64 ej) ∧
 R (.tuple #[.agg #[.int .i64 cs, .int .i64 ae, .int .i64 bh, .int .u64 bn, .int .i64 ca, .int .i64 ch, .int .i64 b3, .slice be bf bd, .int .u64 cf, .int .i64 ah, .int .i64 az, .int .u64 bo, .int .i64 cw, .int .i64 cu, .int .i64 ay, .slice bc b5 b4, .int .u64 cr, .int .i64 dk, .slice dq du dn, .int .u64 d3], .int .i64 ej]) en) else (
 Calls Try.prog 31 #[.slice f3 f2 f4] f1 fun ev em => (∃ (e3 : Option Addr), ev = .returned (.pointer e3) ∧
 thenW (em.alloc (.cells #[.pointer e3, .int .i64 0, .int .i64 0, .int .i64 0, .int .u64 0, .int .i64 0, .int .i64 0, .int .i64 0, .slice none 0 0, .int .u64 0, .int .i64 0, .int .i64 0, .int .u64 0, .int .i64 0, .int .i64 0, .int .i64 0, .slice none 0 0, .int .u64 0, .int .i64 0, .slice none 0 0, .int .u64 0, .slice none 0 0] 68)) fun ez =>
 Calls Try.prog 32 #[.pointer (some (blk em.heap.size))] ez fun ey es => (∃ (dz cc di dt e5 ee dg : Int) (db : Option Addr) (dc d8 : Nat) (e2 cd da ds dy e8 d2 : Int) (d0 : Option Addr) (d9 dj : Nat) (e4 eg : Int) (er : Option Addr) (ew eu : Nat) (el : Int), ey = .returned (.agg #[.int .i64 dz, .int .i64 cc, .int .i64 di, .int .u64 dt, .int .i64 e5, .int .i64 ee, .int .i64 dg, .slice db dc d8, .int .u64 e2, .int .i64 cd, .int .i64 da, .int .u64 ds, .int .i64 dy, .int .i64 e8, .int .i64 d2, .slice d0 d9 dj, .int .u64 e4, .int .i64 eg, .slice er ew eu, .int .u64 el]) ∧
 putsK es (blk w.heap.size) [.int .i64 dz, .int .i64 cc, .int .i64 di, .int .u64 dt, .int .i64 e5, .int .i64 ee, .int .i64 dg, .slice db dc d8, .int .u64 e2, .int .i64 cd, .int .i64 da, .int .u64 ds, .int .i64 dy, .int .i64 e8, .int .i64 d2, .slice d0 d9 dj, .int .u64 e4, .int .i64 eg, .slice er ew eu, .int .u64 el] 0 fun eo =>
 Q01 eo ((blk dx.heap.size).add 0) ∧
 thenW (eo.setCell ((blk dx.heap.size).add 0) (.int .i64 0)) fun f0 =>
 CallsD Try.prog 30 #[.pointer (some (blk w.heap.size)), .pointer (some (blk dx.heap.size))] .returning f0 fun ed e9 bi => ∃ (ep : Value), ed = .returned ep ∧ settle e9 = .returning ∧
 ∃ (c3 af b1 bq ce cj bg : Int) (ax : Option Addr) (aw b8 : Nat) (c6 a7 b6 bx cp cn bb : Int) (au : Option Addr) (ba b9 : Nat) (c7 c5 : Int) (cz : Option Addr) (d4 d5 : Nat) (c8 : Int), cellsAt bi (blk w.heap.size) [.int .i64 c3, .int .i64 af, .int .i64 b1, .int .u64 bq, .int .i64 ce, .int .i64 cj, .int .i64 bg, .slice ax aw b8, .int .u64 c6, .int .i64 a7, .int .i64 b6, .int .u64 bx, .int .i64 cp, .int .i64 cn, .int .i64 bb, .slice au ba b9, .int .u64 c7, .int .i64 c5, .slice cz d4 d5, .int .u64 c8] 0 ∧
 ∃ (e7 : Int), bi.cell? (blk dx.heap.size) = some (.int .i64 e7) ∧
 R (.tuple #[.agg #[.int .i64 c3, .int .i64 af, .int .i64 b1, .int .u64 bq, .int .i64 ce, .int .i64 cj, .int .i64 bg, .slice ax aw b8, .int .u64 c6, .int .i64 a7, .int .i64 b6, .int .u64 bx, .int .i64 cp, .int .i64 cn, .int .i64 bb, .slice au ba b9, .int .u64 c7, .int .i64 c5, .slice cz d4 d5, .int .u64 c8], .int .i64 e7]) bi) ∨ ∃ (ex : List PanicEntry), ey = .panicked ex ∧
 CallsD Try.prog 30 #[.pointer (some (blk w.heap.size)), .pointer (some (blk dx.heap.size))] (.panicking ex) es fun ed e9 bi => ∃ (ep : Value), ed = .returned ep ∧ settle e9 = .returning ∧
 ∃ (bp a3 aa av bt bm aj : Int) (aq : Option Addr) (ar ab : Nat) (bz a2 a8 b2 bs c2 ai : Int) (ad : Option Addr) (ag an : Nat) (bv ct : Int) (d7 : Option Addr) (d6 de : Nat) (co : Int), cellsAt bi (blk w.heap.size) [.int .i64 bp, .int .i64 a3, .int .i64 aa, .int .u64 av, .int .i64 bt, .int .i64 bm, .int .i64 aj, .slice aq ar ab, .int .u64 bz, .int .i64 a2, .int .i64 a8, .int .u64 b2, .int .i64 bs, .int .i64 c2, .int .i64 ai, .slice ad ag an, .int .u64 bv, .int .i64 ct, .slice d7 d6 de, .int .u64 co] 0 ∧
 ∃ (ef : Int), bi.cell? (blk dx.heap.size) = some (.int .i64 ef) ∧
 R (.tuple #[.agg #[.int .i64 bp, .int .i64 a3, .int .i64 aa, .int .u64 av, .int .i64 bt, .int .i64 bm, .int .i64 aj, .slice aq ar ab, .int .u64 bz, .int .i64 a2, .int .i64 a8, .int .u64 b2, .int .i64 bs, .int .i64 c2, .int .i64 ai, .slice ad ag an, .int .u64 bv, .int .i64 ct, .slice d7 d6 de, .int .u64 co], .int .i64 ef]) bi) ∨ ∃ (et : List PanicEntry), ev = .panicked et ∧
 CallsD Try.prog 30 #[.pointer (some (blk w.heap.size)), .pointer (some (blk dx.heap.size))] (.panicking et) em fun ed e9 bi => ∃ (ep : Value), ed = .returned ep ∧ settle e9 = .returning ∧
 ∃ (bl a0 am b7 bj bk a9 : Int) (a5 : Option Addr) (ak a6 : Nat) (br a1 ao b0 bu c0 ap : Int) (ac : Option Addr) (al a4 : Nat) (bw c9 : Int) (dd : Option Addr) (df dh : Nat) (cm : Int), cellsAt bi (blk w.heap.size) [.int .i64 bl, .int .i64 a0, .int .i64 am, .int .u64 b7, .int .i64 bj, .int .i64 bk, .int .i64 a9, .slice a5 ak a6, .int .u64 br, .int .i64 a1, .int .i64 ao, .int .u64 b0, .int .i64 bu, .int .i64 c0, .int .i64 ap, .slice ac al a4, .int .u64 bw, .int .i64 c9, .slice dd df dh, .int .u64 cm] 0 ∧
 ∃ (ec : Int), bi.cell? (blk dx.heap.size) = some (.int .i64 ec) ∧
 R (.tuple #[.agg #[.int .i64 bl, .int .i64 a0, .int .i64 am, .int .u64 b7, .int .i64 bj, .int .i64 bk, .int .i64 a9, .slice a5 ak a6, .int .u64 br, .int .i64 a1, .int .i64 ao, .int .u64 b0, .int .i64 bu, .int .i64 c0, .int .i64 ap, .slice ac al a4, .int .u64 bw, .int .i64 c9, .slice dd df dh, .int .u64 cm], .int .i64 ec]) bi)

theorem frmRead.ok (a2 : Option Addr) (a1 a0 : Nat) {R : RW} {w : World} (h : frmRead.M a2 a1 a0 R w) : Calls Try.prog 11 #[.slice a2 a1 a0] w fun e w' => ∃ v, e = .returned v ∧ R v w' :=
  Q4x follows (H := []) (args := [.slice a2 a1 a0]) (cast (by kernel_rfl) h)

def Q0l.M (r1 ak : Option Addr) (R : RW) (w : World) : Prop :=
 thenW (w.alloc (.cells #[.pointer ak] 118)) fun ah =>
 r1.elim False fun a4 =>
 ∃ (a5 : Option Addr), ah.cell? (a4.add 0) = some (.pointer a5) ∧
 Calls Try.prog 42 #[.pointer a5, .int .i64 4000] ah fun aj ad => ∃ (a3 : Option Addr) (a6 a7 : Nat), aj = .returned (.slice a3 a6 a7) ∧
 thenW (ad.alloc (.cells #[.slice none 0 0] 25)) fun ag =>
 Q01 ag ((blk ad.heap.size).add 0) ∧
 thenW (ag.setCell ((blk ad.heap.size).add 0) (.slice a3 a6 a7)) fun a8 =>
 r1.elim False fun al =>
 ∃ (a1 : Option Addr) (a0 a2 : Nat), a8.cell? (al.add 21) = some (.slice a1 a0 a2) ∧
 thenW (a8.alloc (.cells #[.func (.func 97) #[] #[.pointer (some (blk ad.heap.size)), .pointer (some (blk w.heap.size))]] 1)) fun ae =>
 ∃ (ab : Option Addr) (ac aa : Nat) (a9 : World), (Builtin.append_ #[66, 66] 66 #[.slice a1 a0 a2, .slice (some (blk a8.heap.size)) 1 1]).run Try.prog ae = .ok (.slice ab ac aa) a9 ∧
 r1.elim False fun ai =>
 Q01 a9 ((ai.add 21).add 0) ∧
 thenW (a9.setCell ((ai.add 21).add 0) (.slice ab ac aa)) fun af =>
 R (.tuple #[]) af

theorem Q0l.ok (r1 a0 : Option Addr) {R : RW} {w : World} (h : Q0l.M r1 a0 R w) : Calls Try.prog 91 #[.pointer r1, .pointer a0] w fun e w' => ∃ v, e = .returned v ∧ R v w' :=
  Q09 follows (H := []) (args := [.pointer r1, .pointer a0]) (cast (by kernel_rfl) h)

def Q0l.N (r1 al : Option Addr) (R : RW) (w : World) : Prop :=
 ∀ (ad : World) (q4 : Nat), Ext no w ad → Blk ad q4 118 [.pointer al] → w.heap.size ≤ q4 → q4 < ad.heap.size →
 ∃ a5 : Addr, r1 = some a5 ∧
 ∃ (a7 : Option Addr), ad.cell? (a5.add 0) = some (.pointer a7) ∧
 Calls Try.prog 42 #[.pointer a7, .int .i64 4000] ad fun ak ae => ∃ (a3 : Option Addr) (a6 a4 : Nat), ak = .returned (.slice a3 a6 a4) ∧
 ∀ (a8 : World) (ac : Nat), Ext no ae a8 → Blk a8 ac 25 [.slice none 0 0] → ae.heap.size ≤ ac → ac < a8.heap.size →
 Q01 a8 ((blk ac).add 0) ∧
 thenW (a8.setCell ((blk ac).add 0) (.slice a3 a6 a4)) fun aa =>
 ∃ (a1 : Option Addr) (a2 a0 : Nat), aa.cell? (a5.add 21) = some (.slice a1 a2 a0) ∧
 ∀ (a9 : World) (ai : Nat), Ext no aa a9 → Blk a9 ai 1 [.func (.func 97) #[] #[.pointer (some (blk ac)), .pointer (some (blk q4))]] → aa.heap.size ≤ ai → ai < a9.heap.size →
 ∃ (af : Option Addr) (ag ah : Nat) (ab : World), (Builtin.append_ #[66, 66] 66 #[.slice a1 a2 a0, .slice (some (blk ai)) 1 1]).run Try.prog a9 = .ok (.slice af ag ah) ab ∧
 Q01 ab ((a5.add 21).add 0) ∧
 thenW (ab.setCell ((a5.add 21).add 0) (.slice af ag ah)) fun aj =>
 R (.tuple #[]) aj

theorem Q0l.up (r1 ak : Option Addr) {R : RW} {w : World} (h : Q0l.N r1 ak R w) : Q0l.M r1 ak R w := by
  unfold Q0l.M
  unfold Q0l.N at h
  refine Q00 fun am e3 => ?_
  have h := h am w.heap.size ((Ext.refl no w).x_alloc e3) (Blk.of_new e3) ((Ext.refl no w)).size (Q0s e3)
  obtain ⟨a5, ab, h⟩ := h
  refine Q0p ab ?_
  obtain ⟨a7, ao, h⟩ := h
  refine ⟨a7, ao, ?_⟩
  refine h.mono fun aq a9 h => ?_
  obtain ⟨a3, a6, a4, he, h⟩ := h
  refine ⟨a3, a6, a4, he, ?_⟩
  refine Q00 fun ah aa => ?_
  have h := h ah a9.heap.size ((Ext.refl no a9).x_alloc aa) (Blk.of_new aa) ((Ext.refl no a9)).size (Q0s aa)
  obtain ⟨hcs, h⟩ := h
  refine ⟨hcs, Q00 fun a8 al => ?_⟩
  replace h := Q0W h al
  refine Q0p ab ?_
  obtain ⟨a1, a2, a0, ad, h⟩ := h
  refine ⟨a1, a2, a0, ad, ?_⟩
  refine Q00 fun ai af => ?_
  have h := h ai a8.heap.size ((Ext.refl no a8).x_alloc af) (Blk.of_new af) ((Ext.refl no a8)).size (Q0s af)
  obtain ⟨ac, ag, aj, ae, hr, h⟩ := h
  refine ⟨ac, ag, aj, ae, hr, ?_⟩
  refine Q0p ab ?_
  obtain ⟨hcs, h⟩ := h
  refine ⟨hcs, Q00 fun ap an => ?_⟩
  replace h := Q0W h an
  exact h

theorem Q0l.go (r1 a0 : Option Addr) {R : RW} {w : World} (h : Q0l.N r1 a0 R w) : Calls Try.prog 91 #[.pointer r1, .pointer a0] w fun e w' => ∃ v, e = .returned v ∧ R v w' := Q0l.ok r1 a0 (Q0l.up r1 a0 h)
abbrev Q0c.J1 (ac : Addr) (R : RW) (ab : World) : Prop :=
 ∃ (ao : Option Addr), ab.cell? ac = some (.pointer ao) ∧
 ao.elim False fun ap =>
 ∃ (a4 : Option Addr), ab.cell? (ap.add 0) = some (.pointer a4) ∧
 Calls Try.prog 42 #[.pointer a4, .int .i64 4000] ab fun ai a8 => ∃ (a5 : Option Addr) (a6 a3 : Nat), ai = .returned (.slice a5 a6 a3) ∧
 thenW (a8.alloc (.cells #[.slice none 0 0] 25)) fun ad =>
 Q01 ad ((blk a8.heap.size).add 0) ∧
 thenW (ad.setCell ((blk a8.heap.size).add 0) (.slice a5 a6 a3)) fun ak =>
 thenW (ak.drew) fun a7 =>
 ∃ (ah : Option Addr), a7.cell? ac = some (.pointer ah) ∧
 ∃ (aj : Option Addr), a7.cell? ac = some (.pointer aj) ∧
 aj.elim False fun am =>
 ∃ (a2 : Option Addr) (a1 a0 : Nat), a7.cell? (am.add 21) = some (.slice a2 a1 a0) ∧
 thenW (a7.alloc (.cells #[.func (.func 92) #[] #[.pointer (some (blk a8.heap.size)), .pointer (some ac)]] 1)) fun aa =>
 aa.cell? (am.add 21) = some (.slice a2 a1 a0) ∧
 aa.cell? ac = some (.pointer aj) ∧
 aa.cell? ac = some (.pointer ah) ∧
 ∃ (ae : Option Addr) (ag af : Nat) (a9 : World), (Builtin.append_ #[66, 66] 66 #[.slice a2 a1 a0, .slice (some (blk a7.heap.size)) 1 1]).run Try.prog aa = .ok (.slice ae ag af) a9 ∧
 a9.cell? ac = some (.pointer ah) ∧
 ah.elim False fun an =>
 Q01 a9 ((an.add 21).add 0) ∧
 thenW (a9.setCell ((an.add 21).add 0) (.slice ae ag af)) fun al =>
 R (.tuple #[]) al

def Q0c.M (r1 : Option Addr) (R : RW) (w : World) : Prop :=
 thenW (w.alloc (.cells #[.pointer r1] 63)) fun a8 =>
 thenW (a8.drew) fun a3 =>
 ∃ (x4 : Option Addr), a3.cell? (blk w.heap.size) = some (.pointer x4) ∧
 ∃ (x5 : Option Addr), a3.cell? (blk w.heap.size) = some (.pointer x5) ∧
 x5.elim False fun a6 =>
 ∃ (a0 : Option Addr), a3.cell? (a6.add 0) = some (.pointer a0) ∧
 Calls Try.prog 41 #[.pointer a0, .int .i64 7] a3 fun a7 a2 => ∃ (a1 : Int), a7 = .returned (.int .i64 a1) ∧
 a2.cell? (blk w.heap.size) = some (.pointer x4) ∧
 x4.elim False fun a5 =>
 Q01 a2 (((a5.add 1).add 17).add 0) ∧
 thenW (a2.setCell (((a5.add 1).add 17).add 0) (.int .i64 a1)) fun a4 =>
 Q0c.J1 (blk w.heap.size) R a4

theorem Q0c.ok (r1 : Option Addr) {R : RW} {w : World} (h : Q0c.M r1 R w) : Calls Try.prog 78 #[.pointer r1] w fun e w' => ∃ v, e = .returned v ∧ R v w' :=
  Q09 follows (H := []) (args := [.pointer r1]) (cast (by kernel_rfl) h)

def Q0c.N (r1 : Option Addr) (R : RW) (w : World) : Prop :=
 ∀ (ae : World) (q3 : Nat), Ext no w ae → Blk ae q3 63 [.pointer r1] → w.heap.size ≤ q3 → q3 < ae.heap.size →
 ∃ (x6 : Option Addr), ae.cell? (blk q3) = some (.pointer x6) ∧
 ∃ (x8 : Option Addr), ae.cell? (blk q3) = some (.pointer x8) ∧
 ∃ a9 : Addr, x8 = some a9 ∧
 ∃ (a5 : Option Addr), ae.cell? (a9.add 0) = some (.pointer a5) ∧
 ∀ (az : World), Ext no ae az →
 Calls Try.prog 41 #[.pointer a5, .int .i64 7] az fun ar ag => ∃ (aa : Int), ar = .returned (.int .i64 aa) ∧
 ag.cell? (blk q3) = some (.pointer x6) ∧
 ∃ av : Addr, x6 = some av ∧
 Q01 ag (((av.add 1).add 17).add 0) ∧
 thenW (ag.setCell (((av.add 1).add 17).add 0) (.int .i64 aa)) fun af =>
 ∃ (ay : Option Addr), af.cell? (blk q3) = some (.pointer ay) ∧
 ∃ ax : Addr, ay = some ax ∧
 ∃ (a7 : Option Addr), af.cell? (ax.add 0) = some (.pointer a7) ∧
 Calls Try.prog 42 #[.pointer a7, .int .i64 4000] af fun aw aj => ∃ (a3 : Option Addr) (a6 a4 : Nat), aw = .returned (.slice a3 a6 a4) ∧
 ∀ (ab : World) (ah : Nat), Ext no aj ab → Blk ab ah 25 [.slice none 0 0] → aj.heap.size ≤ ah → ah < ab.heap.size →
 Q01 ab ((blk ah).add 0) ∧
 thenW (ab.setCell ((blk ah).add 0) (.slice a3 a6 a4)) fun ac =>
 ∃ (an : Option Addr), ac.cell? (blk q3) = some (.pointer an) ∧
 ∃ (ap : Option Addr), ac.cell? (blk q3) = some (.pointer ap) ∧
 ∃ au : Addr, ap = some au ∧
 ∃ (a0 : Option Addr) (a2 a1 : Nat), ac.cell? (au.add 21) = some (.slice a0 a2 a1) ∧
 ∀ (a8 : World) (am : Nat), Ext no ac a8 → Blk a8 am 1 [.func (.func 92) #[] #[.pointer (some (blk ah)), .pointer (some (blk q3))]] → ac.heap.size ≤ am → am < a8.heap.size →
 a8.cell? (au.add 21) = some (.slice a0 a2 a1) ∧
 a8.cell? (blk q3) = some (.pointer ap) ∧
 a8.cell? (blk q3) = some (.pointer an) ∧
 ∃ (ak : Option Addr) (al ai : Nat) (ad : World), (Builtin.append_ #[66, 66] 66 #[.slice a0 a2 a1, .slice (some (blk am)) 1 1]).run Try.prog a8 = .ok (.slice ak al ai) ad ∧
 ad.cell? (blk q3) = some (.pointer an) ∧
 ∃ ao : Addr, an = some ao ∧
 Q01 ad ((ao.add 21).add 0) ∧
 thenW (ad.setCell ((ao.add 21).add 0) (.slice ak al ai)) fun aq =>
 R (.tuple #[]) aq

theorem Q0c.up (r1 : Option Addr) {R : RW} {w : World} (h : Q0c.N r1 R w) : Q0c.M r1 R w := by
  unfold Q0c.M
  unfold Q0c.N at h
  refine Q00 fun b4 e2 => ?_
  have h := h b4 w.heap.size ((Ext.refl no w).x_alloc e2) (Blk.of_new e2) ((Ext.refl no w)).size (Q0s e2)
  refine Q00 fun bi e4 => ?_
  have ac := (Ext.refl no b4).x_drew e4
  obtain ⟨x6, b5, h⟩ := h
  refine ⟨x6, (ac).cell b5 id, ?_⟩
  obtain ⟨x8, b7, h⟩ := h
  refine ⟨x8, (ac).cell b7 id, ?_⟩
  obtain ⟨a9, bd, h⟩ := h
  refine Q0p bd ?_
  obtain ⟨a4, ax, h⟩ := h
  refine ⟨a4, (ac).cell ax id, ?_⟩
  have h := h bi ac
  refine h.mono fun be bg h => ?_
  obtain ⟨aa, he, h⟩ := h
  refine ⟨aa, he, ?_⟩
  obtain ⟨ag, h⟩ := h
  refine ⟨ag, ?_⟩
  obtain ⟨bo, b3, h⟩ := h
  refine Q0p b3 ?_
  obtain ⟨hcs, h⟩ := h
  refine ⟨hcs, Q00 fun b8 bj => ?_⟩
  replace h := Q0W h bj
  unfold Q0c.J1
  obtain ⟨b9, b2, h⟩ := h
  refine ⟨b9, b2, ?_⟩
  obtain ⟨bl, au, h⟩ := h
  refine Q0p au ?_
  obtain ⟨a7, ah, h⟩ := h
  refine ⟨a7, ah, ?_⟩
  refine h.mono fun bk ab h => ?_
  obtain ⟨a2, a6, a3, he, h⟩ := h
  refine ⟨a2, a6, a3, he, ?_⟩
  refine Q00 fun ak aw => ?_
  have h := h ak ab.heap.size ((Ext.refl no ab).x_alloc aw) (Blk.of_new aw) ((Ext.refl no ab)).size (Q0s aw)
  obtain ⟨hcs, h⟩ := h
  refine ⟨hcs, Q00 fun ar bb => ?_⟩
  replace h := Q0W h bb
  refine Q00 fun aq bf => ?_
  have a1 := (Ext.refl no ar).x_drew bf
  obtain ⟨bh, am, h⟩ := h
  refine ⟨bh, (a1).cell am id, ?_⟩
  obtain ⟨ba, ai, h⟩ := h
  refine ⟨ba, (a1).cell ai id, ?_⟩
  obtain ⟨bn, al, h⟩ := h
  refine Q0p al ?_
  obtain ⟨a0, a8, a5, ap, h⟩ := h
  refine ⟨a0, a8, a5, (a1).cell ap id, ?_⟩
  refine Q00 fun ao az => ?_
  have h := h ao aq.heap.size (a1.x_alloc az) (Blk.of_new az) (a1).size (Q0s az)
  obtain ⟨an, b0, aj, h⟩ := h
  refine ⟨an, b0, aj, ?_⟩
  obtain ⟨av, b1, ad, af, hr, h⟩ := h
  refine ⟨av, b1, ad, af, hr, ?_⟩
  obtain ⟨ay, h⟩ := h
  refine ⟨ay, ?_⟩
  obtain ⟨bm, ae, h⟩ := h
  refine Q0p ae ?_
  obtain ⟨hcs, h⟩ := h
  refine ⟨hcs, Q00 fun bc b6 => ?_⟩
  replace h := Q0W h b6
  exact h

theorem Q0c.go (r1 : Option Addr) {R : RW} {w : World} (h : Q0c.N r1 R w) : Calls Try.prog 78 #[.pointer r1] w fun e w' => ∃ v, e = .returned v ∧ R v w' := Q0c.ok r1 (Q0c.up r1 h)
def Q0q.M (r1 : Option Addr) (R : RW) (w : World) : Prop :=
 r1.elim False fun a2 =>
 Calls Try.prog 91 #[.pointer r1, .pointer (some ((a2.add 1).add 1))] w fun a1 a0 => a1 = .returned (.tuple #[]) ∧
 R (.tuple #[]) a0

theorem Q0q.ok (r1 : Option Addr) {R : RW} {w : World} (h : Q0q.M r1 R w) : Calls Try.prog 77 #[.pointer r1] w fun e w' => ∃ v, e = .returned v ∧ R v w' :=
  Q09 follows (H := []) (args := [.pointer r1]) (cast (by kernel_rfl) h)

def Q0q.N (r1 : Option Addr) (R : RW) (w : World) : Prop :=
 ∃ a2 : Addr, r1 = some a2 ∧
 Calls Try.prog 91 #[.pointer r1, .pointer (some ((a2.add 1).add 1))] w fun a1 a0 => a1 = .returned (.tuple #[]) ∧
 R (.tuple #[]) a0

theorem Q0q.up (r1 : Option Addr) {R : RW} {w : World} (h : Q0q.N r1 R w) : Q0q.M r1 R w := by
  unfold Q0q.M
  unfold Q0q.N at h
  obtain ⟨a2, a0, h⟩ := h
  refine Q0p a0 ?_
  refine h.mono fun a3 a1 h => ?_
  obtain ⟨he, h⟩ := h
  refine ⟨he, ?_⟩
  exact h

theorem Q0q.go (r1 : Option Addr) {R : RW} {w : World} (h : Q0q.N r1 R w) : Calls Try.prog 77 #[.pointer r1] w fun e w' => ∃ v, e = .returned v ∧ R v w' := Q0q.ok r1 (Q0q.up r1 h)
def Q0o.M (r1 : Option Addr) (R : RW) (w : World) : Prop :=
 Calls Try.prog 77 #[.pointer r1] w fun a1 a0 => a1 = .returned (.tuple #[]) ∧
 r1.elim False fun a4 =>
 Calls Try.prog 91 #[.pointer r1, .pointer (some ((a4.add 1).add 9))] a0 fun a2 a3 => a2 = .returned (.tuple #[]) ∧
 R (.tuple #[]) a3

theorem Q0o.ok (r1 : Option Addr) {R : RW} {w : World} (h : Q0o.M r1 R w) : Calls Try.prog 80 #[.pointer r1] w fun e w' => ∃ v, e = .returned v ∧ R v w' :=
  Q09 follows (H := []) (args := [.pointer r1]) (cast (by kernel_rfl) h)

def Q0o.N (r1 : Option Addr) (R : RW) (w : World) : Prop :=
 Calls Try.prog 77 #[.pointer r1] w fun a1 a0 => a1 = .returned (.tuple #[]) ∧
 ∃ a4 : Addr, r1 = some a4 ∧
 Calls Try.prog 91 #[.pointer r1, .pointer (some ((a4.add 1).add 9))] a0 fun a2 a3 => a2 = .returned (.tuple #[]) ∧
 R (.tuple #[]) a3

theorem Q0o.up (r1 : Option Addr) {R : RW} {w : World} (h : Q0o.N r1 R w) : Q0o.M r1 R w := by
  unfold Q0o.M
  unfold Q0o.N at h
  refine h.mono fun a2 a1 h => ?_
  obtain ⟨he, h⟩ := h
  refine ⟨he, ?_⟩
  obtain ⟨a4, a0, h⟩ := h
  refine Q0p a0 ?_
  refine h.mono fun a3 a5 h => ?_
  obtain ⟨he, h⟩ := h
  refine ⟨he, ?_⟩
  exact h

theorem Q0o.go (r1 : Option Addr) {R : RW} {w : World} (h : Q0o.N r1 R w) : Calls Try.prog 80 #[.pointer r1] w fun e w' => ∃ v, e = .returned v ∧ R v w' := Q0o.ok r1 (Q0o.up r1 h)
def Q0k.M (r1 : Option Addr) (R : RW) (w : World) : Prop :=
 Calls Try.prog 78 #[.pointer r1] w fun a7 a3 => a7 = .returned (.tuple #[]) ∧
 r1.elim False fun a4 =>
 ∃ (a0 : Option Addr), a3.cell? (a4.add 0) = some (.pointer a0) ∧
 Calls Try.prog 64 #[.pointer a0] a3 fun a6 a5 => ∃ (a1 : Int), a6 = .returned (.int .u64 a1) ∧
 r1.elim False fun a9 =>
 Q01 a5 (((a9.add 1).add 19).add 0) ∧
 thenW (a5.setCell (((a9.add 1).add 19).add 0) (.int .u64 a1)) fun a2 =>
 R (.tuple #[]) a2

theorem Q0k.ok (r1 : Option Addr) {R : RW} {w : World} (h : Q0k.M r1 R w) : Calls Try.prog 79 #[.pointer r1] w fun e w' => ∃ v, e = .returned v ∧ R v w' :=
  Q09 follows (H := []) (args := [.pointer r1]) (cast (by kernel_rfl) h)

def Q0k.N (r1 : Option Addr) (R : RW) (w : World) : Prop :=
 Calls Try.prog 78 #[.pointer r1] w fun a6 a3 => a6 = .returned (.tuple #[]) ∧
 ∃ a4 : Addr, r1 = some a4 ∧
 ∃ (a0 : Option Addr), a3.cell? (a4.add 0) = some (.pointer a0) ∧
 Calls Try.prog 64 #[.pointer a0] a3 fun a7 a5 => ∃ (a1 : Int), a7 = .returned (.int .u64 a1) ∧
 Q01 a5 (((a4.add 1).add 19).add 0) ∧
 thenW (a5.setCell (((a4.add 1).add 19).add 0) (.int .u64 a1)) fun a2 =>
 R (.tuple #[]) a2

theorem Q0k.up (r1 : Option Addr) {R : RW} {w : World} (h : Q0k.N r1 R w) : Q0k.M r1 R w := by
  unfold Q0k.M
  unfold Q0k.N at h
  refine h.mono fun a9 a7 h => ?_
  obtain ⟨he, h⟩ := h
  refine ⟨he, ?_⟩
  obtain ⟨a4, a2, h⟩ := h
  refine Q0p a2 ?_
  obtain ⟨a0, a5, h⟩ := h
  refine ⟨a0, a5, ?_⟩
  refine h.mono fun aa a8 h => ?_
  obtain ⟨a1, he, h⟩ := h
  refine ⟨a1, he, ?_⟩
  refine Q0p a2 ?_
  obtain ⟨hcs, h⟩ := h
  refine ⟨hcs, Q00 fun a6 a3 => ?_⟩
  replace h := Q0W h a3
  exact h

theorem Q0k.go (r1 : Option Addr) {R : RW} {w : World} (h : Q0k.N r1 R w) : Calls Try.prog 79 #[.pointer r1] w fun e w' => ∃ v, e = .returned v ∧ R v w' := Q0k.ok r1 (Q0k.up r1 h)
def Q0n.M (r1 : Option Addr) (n2 : Int) (R : RW) (w : World) : Prop :=
 bif n2 == 1 then (
 R (.func (.func 77) #[.pointer r1] #[]) w) else (
 bif n2 == 2 then (
 R (.func (.func 78) #[.pointer r1] #[]) w) else (
 bif n2 == 3 then (
 R (.func (.func 79) #[.pointer r1] #[]) w) else (
 bif n2 == 4 then (
 R (.func (.func 80) #[.pointer r1] #[]) w) else (
 R (.func (.func 81) #[] #[]) w))))

theorem Q0n.ok (r1 : Option Addr) (n2 : Int) {R : RW} {w : World} (h : Q0n.M r1 n2 R w) : Calls Try.prog 59 #[.pointer r1, .int .i64 n2] w fun e w' => ∃ v, e = .returned v ∧ R v w' :=
  Q09 follows (H := []) (args := [.pointer r1, .int .i64 n2]) (cast (by kernel_rfl) h)

def Q0n.N (r1 : Option Addr) (n2 : Int) (R : RW) (w : World) : Prop :=
 (n2 = 1 →
 R (.func (.func 77) #[.pointer r1] #[]) w) ∧
 (n2 ≠ 1 →
 (n2 = 2 →
 R (.func (.func 78) #[.pointer r1] #[]) w) ∧
 (n2 ≠ 2 →
 (n2 = 3 →
 R (.func (.func 79) #[.pointer r1] #[]) w) ∧
 (n2 ≠ 3 →
 (n2 = 4 →
 R (.func (.func 80) #[.pointer r1] #[]) w) ∧
 (n2 ≠ 4 →
 R (.func (.func 81) #[] #[]) w))))

theorem Q0n.up (r1 : Option Addr) (n2 : Int) {R : RW} {w : World} (h : Q0n.N r1 n2 R w) : Q0n.M r1 n2 R w := by
  unfold Q0n.M
  unfold Q0n.N at h
  refine bif_of (fun c3 => ?_) (fun c3 => ?_)
  ·have h := h.1 (beq_t c3)
   exact h
  have h := h.2 (beq_f c3)
  refine bif_of (fun c4 => ?_) (fun c4 => ?_)
  ·have h := h.1 (beq_t c4)
   exact h
  have h := h.2 (beq_f c4)
  refine bif_of (fun c5 => ?_) (fun c5 => ?_)
  ·have h := h.1 (beq_t c5)
   exact h
  have h := h.2 (beq_f c5)
  refine bif_of (fun c6 => ?_) (fun c6 => ?_)
  ·have h := h.1 (beq_t c6)
   exact h
  have h := h.2 (beq_f c6)
  exact h

theorem Q0n.go (r1 : Option Addr) (n2 : Int) {R : RW} {w : World} (h : Q0n.N r1 n2 R w) : Calls Try.prog 59 #[.pointer r1, .int .i64 n2] w fun e w' => ∃ v, e = .returned v ∧ R v w' := Q0n.ok r1 n2 (Q0n.up r1 n2 h)
def Q0i.M  (R : RW) (w : World) : Prop :=
 R (.tuple #[]) w

theorem Q0i.ok  {R : RW} {w : World} (h : Q0i.M  R w) : Calls Try.prog 81 #[] w fun e w' => ∃ v, e = .returned v ∧ R v w' :=
  Q09 follows (H := []) (args := []) (cast (by kernel_rfl) h)

def Q0i.N  (R : RW) (w : World) : Prop :=
 R (.tuple #[]) w

theorem Q0i.up  {R : RW} {w : World} (h : Q0i.N  R w) : Q0i.M  R w := by
  unfold Q0i.M
  unfold Q0i.N at h
  exact h

theorem Q0i.go  {R : RW} {w : World} (h : Q0i.N  R w) : Calls Try.prog 81 #[] w fun e w' => ∃ v, e = .returned v ∧ R v w' := Q0i.ok  (Q0i.up  h)
def Q0J.M (az : Option Addr) (ay b0 : Nat) (ae ah an aq ar ak : Int) (ai : Option Addr) (al aj : Nat) (ap : Int) (R : RW) (w : World) : Prop :=
 thenW (w.alloc (.cells #[.int .i64 ae, .int .i64 ah, .int .u64 an, .int .i64 aq, .int .i64 ar, .int .i64 ak, .slice ai al aj, .int .u64 ap] 27)) fun ao =>
 ∃ (a0 a8 ac ad af aa : Int) (ab : Option Addr) (a5 a3 : Nat) (ag : Int), cellsAt ao (blk w.heap.size) [.int .i64 a0, .int .i64 a8, .int .u64 ac, .int .i64 ad, .int .i64 af, .int .i64 aa, .slice ab a5 a3, .int .u64 ag] 0 ∧
 Calls Try.prog 58 #[.agg #[.int .i64 a0, .int .i64 a8, .int .u64 ac, .int .i64 ad, .int .i64 af, .int .i64 aa, .slice ab a5 a3, .int .u64 ag]] ao fun au aw => ∃ (a2 : Option Addr) (a6 a1 : Nat) (am : Int), au = .returned (.tuple #[.slice a2 a6 a1, .int .i64 am]) ∧
 Calls Try.prog 29 #[.slice az ay b0, .slice a2 a6 a1] aw fun ax av => ∃ (a4 : Option Addr) (a9 a7 : Nat), ax = .returned (.slice a4 a9 a7) ∧
 R (.slice a4 a9 a7) av

theorem Q0J.ok (ac : Option Addr) (ab aa : Nat) (a0 a2 a6 a7 a9 a1 : Int) (a3 : Option Addr) (a5 a4 : Nat) (a8 : Int) {R : RW} {w : World} (h : Q0J.M ac ab aa a0 a2 a6 a7 a9 a1 a3 a5 a4 a8 R w) : Calls Try.prog 27 #[.slice ac ab aa, .agg #[.int .i64 a0, .int .i64 a2, .int .u64 a6, .int .i64 a7, .int .i64 a9, .int .i64 a1, .slice a3 a5 a4, .int .u64 a8]] w fun e w' => ∃ v, e = .returned v ∧ R v w' :=
  Q09 follows (H := []) (args := [.slice ac ab aa, .agg #[.int .i64 a0, .int .i64 a2, .int .u64 a6, .int .i64 a7, .int .i64 a9, .int .i64 a1, .slice a3 a5 a4, .int .u64 a8]]) (cast (by kernel_rfl) h)

def Q0J.N (an : Option Addr) (am ao : Nat) (a6 a7 ad ag ah ab : Int) (a8 : Option Addr) (ac aa : Nat) (af : Int) (R : RW) (w : World) : Prop :=
 ∀ (ae : World), Ext no w ae →
 Calls Try.prog 58 #[.agg #[.int .i64 a6, .int .i64 a7, .int .u64 ad, .int .i64 ag, .int .i64 ah, .int .i64 ab, .slice a8 ac aa, .int .u64 af]] ae fun al ak => ∃ (a3 : Option Addr) (a2 a5 : Nat) (a9 : Int), al = .returned (.tuple #[.slice a3 a2 a5, .int .i64 a9]) ∧
 Calls Try.prog 29 #[.slice an am ao, .slice a3 a2 a5] ak fun ai aj => ∃ (a0 : Option Addr) (a1 a4 : Nat), ai = .returned (.slice a0 a1 a4) ∧
 R (.slice a0 a1 a4) aj

theorem Q0J.up (al : Option Addr) (ak an : Nat) (a0 a1 a6 ab ae a4 : Int) (a2 : Option Addr) (a5 a3 : Nat) (a8 : Int) {R : RW} {w : World} (h : Q0J.N al ak an a0 a1 a6 ab ae a4 a2 a5 a3 a8 R w) : Q0J.M al ak an a0 a1 a6 ab ae a4 a2 a5 a3 a8 R w := by
  unfold Q0J.M
  unfold Q0J.N at h
  refine Q00 fun aj am => ?_
  have ah := Blk.of_new am
  have au := ((Ext.refl no w)).size
  have ai := (Ext.refl no w).x_alloc am
  refine ⟨a0, a1, a6, ab, ae, a4, a2, a5, a3, a8, ⟨ah.celli 0 rfl rfl, ah.celli 1 rfl rfl, ah.celli 2 rfl rfl, ah.celli 3 rfl rfl, ah.celli 4 rfl rfl, ah.celli 5 rfl rfl, ah.celli 6 rfl rfl, ah.celli 7 rfl rfl, trivial⟩, ?_⟩
  have h := h aj ai
  refine h.mono fun ar aq h => ?_
  obtain ⟨ac, aa, af, ag, he, h⟩ := h
  refine ⟨ac, aa, af, ag, he, ?_⟩
  refine h.mono fun ao ap h => ?_
  obtain ⟨a7, a9, ad, he, h⟩ := h
  refine ⟨a7, a9, ad, he, ?_⟩
  exact h

theorem Q0J.go (ac : Option Addr) (ab aa : Nat) (a0 a2 a6 a7 a9 a1 : Int) (a3 : Option Addr) (a5 a4 : Nat) (a8 : Int) {R : RW} {w : World} (h : Q0J.N ac ab aa a0 a2 a6 a7 a9 a1 a3 a5 a4 a8 R w) : Calls Try.prog 27 #[.slice ac ab aa, .agg #[.int .i64 a0, .int .i64 a2, .int .u64 a6, .int .i64 a7, .int .i64 a9, .int .i64 a1, .slice a3 a5 a4, .int .u64 a8]] w fun e w' => ∃ v, e = .returned v ∧ R v w' := Q0J.ok ac ab aa a0 a2 a6 a7 a9 a1 a3 a5 a4 a8 (Q0J.up ac ab aa a0 a2 a6 a7 a9 a1 a3 a5 a4 a8 h)
def Q0w.M (b2 b7 b8 ba bc b4 : Int) (b5 : Option Addr) (b3 b6 : Nat) (bd : Int) (R : RW) (w : World) : Prop :=
 thenW (w.alloc (.cells #[.int .i64 b2, .int .i64 b7, .int .u64 b8, .int .i64 ba, .int .i64 bc, .int .i64 b4, .slice b5 b3 b6, .int .u64 bd] 27)) fun be =>
 thenW (be.alloc (.cells #[.int .i64 0, .int .i64 0, .int .i64 0, .int .u64 0, .int .i64 0, .int .i64 0, .int .i64 0, .slice none 0 0, .int .u64 0, .int .i64 0, .int .i64 0, .int .u64 0, .int .i64 0, .int .i64 0, .int .i64 0, .slice none 0 0, .int .u64 0, .int .i64 0, .slice none 0 0, .int .u64 0] 38)) fun b9 =>
 ∃ (al aq aw az b0 ar : Int) (au : Option Addr) (ap ao : Nat) (b1 : Int), cellsAt b9 (blk w.heap.size) [.int .i64 al, .int .i64 aq, .int .u64 aw, .int .i64 az, .int .i64 b0, .int .i64 ar, .slice au ap ao, .int .u64 b1] 0 ∧
 putsK b9 (blk be.heap.size) [.int .i64 1, .int .i64 al, .int .i64 aq, .int .u64 aw, .int .i64 az, .int .i64 b0, .int .i64 ar, .slice au ap ao, .int .u64 b1, .int .i64 0, .int .i64 0, .int .u64 0, .int .i64 0, .int .i64 0, .int .i64 0, .slice none 0 0, .int .u64 0, .int .i64 0, .slice none 0 0, .int .u64 0] 0 fun bb =>
 ∃ (ah a1 aa ad ag ai a5 : Int) (a6 : Option Addr) (a7 ab : Nat) (aj a0 a9 ac ak ae a2 : Int) (a4 : Option Addr) (a3 a8 : Nat) (af an : Int) (ax : Option Addr) (av ay : Nat) (am : Int), cellsAt bb (blk be.heap.size) [.int .i64 ah, .int .i64 a1, .int .i64 aa, .int .u64 ad, .int .i64 ag, .int .i64 ai, .int .i64 a5, .slice a6 a7 ab, .int .u64 aj, .int .i64 a0, .int .i64 a9, .int .u64 ac, .int .i64 ak, .int .i64 ae, .int .i64 a2, .slice a4 a3 a8, .int .u64 af, .int .i64 an, .slice ax av ay, .int .u64 am] 0 ∧
 R (.agg #[.int .i64 ah, .int .i64 a1, .int .i64 aa, .int .u64 ad, .int .i64 ag, .int .i64 ai, .int .i64 a5, .slice a6 a7 ab, .int .u64 aj, .int .i64 a0, .int .i64 a9, .int .u64 ac, .int .i64 ak, .int .i64 ae, .int .i64 a2, .slice a4 a3 a8, .int .u64 af, .int .i64 an, .slice ax av ay, .int .u64 am]) bb

theorem Q0w.ok (a0 a3 a6 a7 a8 a1 : Int) (a5 : Option Addr) (a4 a2 : Nat) (a9 : Int) {R : RW} {w : World} (h : Q0w.M a0 a3 a6 a7 a8 a1 a5 a4 a2 a9 R w) : Calls Try.prog 25 #[.agg #[.int .i64 a0, .int .i64 a3, .int .u64 a6, .int .i64 a7, .int .i64 a8, .int .i64 a1, .slice a5 a4 a2, .int .u64 a9]] w fun e w' => ∃ v, e = .returned v ∧ R v w' :=
  Q09 follows (H := []) (args := [.agg #[.int .i64 a0, .int .i64 a3, .int .u64 a6, .int .i64 a7, .int .i64 a8, .int .i64 a1, .slice a5 a4 a2, .int .u64 a9]]) (cast (by kernel_rfl) h)

def Q0w.N (a0 a3 a6 a7 a8 a1 : Int) (a5 : Option Addr) (a4 a2 : Nat) (a9 : Int) (R : RW) (w : World) : Prop :=
 ∀ (aa : World), Ext no w aa →
 R (.agg #[.int .i64 1, .int .i64 a0, .int .i64 a3, .int .u64 a6, .int .i64 a7, .int .i64 a8, .int .i64 a1, .slice a5 a4 a2, .int .u64 a9, .int .i64 0, .int .i64 0, .int .u64 0, .int .i64 0, .int .i64 0, .int .i64 0, .slice none 0 0, .int .u64 0, .int .i64 0, .slice none 0 0, .int .u64 0]) aa

theorem Q0w.up (a0 a5 a6 a8 a9 a2 : Int) (a3 : Option Addr) (a1 a4 : Nat) (aa : Int) {R : RW} {w : World} (h : Q0w.N a0 a5 a6 a8 a9 a2 a3 a1 a4 aa R w) : Q0w.M a0 a5 a6 a8 a9 a2 a3 a1 a4 aa R w := by
  unfold Q0w.M
  unfold Q0w.N at h
  refine Q00 fun ai e9 => ?_
  have ab := Blk.of_new e9
  have an := ((Ext.refl no w)).size
  have ag := (Ext.refl no w).x_alloc e9
  refine Q00 fun al ae => ?_
  have a7 := Blk.of_new ae
  have am := (ag).size
  have ah := Nat.ne_of_lt ab.lt
  have ab := ab.x_alloc ae
  have ad := ag.x_alloc ae
  refine ⟨a0, a5, a6, a8, a9, a2, a3, a1, a4, aa, ⟨ab.celli 0 rfl rfl, ab.celli 1 rfl rfl, ab.celli 2 rfl rfl, ab.celli 3 rfl rfl, ab.celli 4 rfl rfl, ab.celli 5 rfl rfl, ab.celli 6 rfl rfl, ab.celli 7 rfl rfl, trivial⟩, ?_⟩
  refine Q0R (k := 0) (j := 0) a7 (Nat.le_of_ble_eq_true rfl) fun ac ak aj => ?_
  have af := ad.x_puts ak (.inr am)
  have a7 : Blk ac ai.heap.size 38 [.int .i64 1, .int .i64 a0, .int .i64 a5, .int .u64 a6, .int .i64 a8, .int .i64 a9, .int .i64 a2, .slice a3 a1 a4, .int .u64 aa, .int .i64 0, .int .i64 0, .int .u64 0, .int .i64 0, .int .i64 0, .int .i64 0, .slice none 0 0, .int .u64 0, .int .i64 0, .slice none 0 0, .int .u64 0] := aj
  refine ⟨1, a0, a5, a6, a8, a9, a2, a3, a1, a4, aa, 0, 0, 0, 0, 0, 0, none, 0, 0, 0, 0, none, 0, 0, 0, ⟨a7.celli 0 rfl rfl, a7.celli 1 rfl rfl, a7.celli 2 rfl rfl, a7.celli 3 rfl rfl, a7.celli 4 rfl rfl, a7.celli 5 rfl rfl, a7.celli 6 rfl rfl, a7.celli 7 rfl rfl, a7.celli 8 rfl rfl, a7.celli 9 rfl rfl, a7.celli 10 rfl rfl, a7.celli 11 rfl rfl, a7.celli 12 rfl rfl, a7.celli 13 rfl rfl, a7.celli 14 rfl rfl, a7.celli 15 rfl rfl, a7.celli 16 rfl rfl, a7.celli 17 rfl rfl, a7.celli 18 rfl rfl, a7.celli 19 rfl rfl, trivial⟩, ?_⟩
  have h := h ac af
  exact h

theorem Q0w.go (a0 a3 a6 a7 a8 a1 : Int) (a5 : Option Addr) (a4 a2 : Nat) (a9 : Int) {R : RW} {w : World} (h : Q0w.N a0 a3 a6 a7 a8 a1 a5 a4 a2 a9 R w) : Calls Try.prog 25 #[.agg #[.int .i64 a0, .int .i64 a3, .int .u64 a6, .int .i64 a7, .int .i64 a8, .int .i64 a1, .slice a5 a4 a2, .int .u64 a9]] w fun e w' => ∃ v, e = .returned v ∧ R v w' := Q0w.ok a0 a3 a6 a7 a8 a1 a5 a4 a2 a9 (Q0w.up a0 a3 a6 a7 a8 a1 a5 a4 a2 a9 h)
theorem Q0w.run (a0 a3 a6 a7 a8 a1 : Int) (a5 : Option Addr) (a4 a2 : Nat) (a9 : Int) {V : Value} {Q : World → Prop} {w : World} (h : Q0w.N a0 a3 a6 a7 a8 a1 a5 a4 a2 a9 (fun v w' => v = V ∧ Q w') w) : Calls Try.prog 25 #[.agg #[.int .i64 a0, .int .i64 a3, .int .u64 a6, .int .i64 a7, .int .i64 a8, .int .i64 a1, .slice a5 a4 a2, .int .u64 a9]] w (Ret V Q) := (Q0w.go a0 a3 a6 a7 a8 a1 a5 a4 a2 a9 h).mono fun e w' ⟨v, he, hv, hq⟩ => ⟨by rw [he, hv], hq⟩

abbrev Q0C.J1 (an : Option Addr) (aj : Nat) (R : RW) (ai : World) : Prop :=
 Calls Try.prog 26 #[.slice none 0 0, .int .u64 (IntKind.u64.wrap (aj : Int))] ai fun ag ah => ∃ (a3 : Option Addr) (a5 a4 : Nat), ag = .returned (.slice a3 a5 a4) ∧
 ∃ (I0 : Nat → List Value → World → Prop) (am : Nat), I0 am [.slice a3 a5 a4, .int .i64 0] ah ∧ ∀ (ak : Nat) (a6 : World) (a8 : Option Addr) (a9 a7 : Nat) (aa : Int), I0 ak [.slice a8 a9 a7, .int .i64 aa] a6 →
 bif decide (aa < (aj : Int)) then (
 an.elim False fun ao =>
 0 ≤ (aa : Int) ∧ (aa : Int) < (aj : Int) ∧
 ∃ (ab : Option Addr) (ad ac : Nat), a6.cell? (ao.add (Int.toNat aa * 1)) = some (.slice ab ad ac) ∧
 Calls Try.prog 29 #[.slice a8 a9 a7, .slice ab ad ac] a6 fun af ae => ∃ (a1 : Option Addr) (a2 a0 : Nat), af = .returned (.slice a1 a2 a0) ∧
 ∃ al, al < ak ∧ I0 al [.slice a1 a2 a0, .int .i64 (IntKind.i64.wrap (aa + 1))] ae) else (
 R (.tuple #[.slice a8 a9 a7, .int .i64 0]) a6)

def Q0C.M (a2 : Option Addr) (a1 a5 : Nat) (R : RW) (w : World) : Prop :=
 bif decide ((a1 : Int) > 1000) then (
 R (.tuple #[.slice none 0 0, .int .i64 3]) w) else (
 Calls Try.prog 37 #[.slice a2 a1 a5, .func (.func 38) #[] #[]] w fun a4 a3 => ∃ (a0 : Bool), a4 = .returned (.bool a0) ∧
 bif a0 then (
 R (.tuple #[.slice none 0 0, .int .i64 3]) a3) else (
 Q0C.J1 a2 a1 R a3))

theorem Q0C.ok (a0 : Option Addr) (a1 a2 : Nat) {R : RW} {w : World} (h : Q0C.M a0 a1 a2 R w) : Calls Try.prog 16 #[.slice a0 a1 a2] w fun e w' => ∃ v, e = .returned v ∧ R v w' :=
  Q09 follows (H := [(0, [18, 19], [(4, (.one .slice)), (20, (.one (.int .i64)))])]) (args := [.slice a0 a1 a2]) (cast (by kernel_rfl) h)

def Q0C.N (ai : Option Addr) (a9 aq : Nat) (R : RW) (w : World) : Prop :=
 ((a9 : Int) > 1000 →
 R (.tuple #[.slice none 0 0, .int .i64 3]) w) ∧
 ((a9 : Int) ≤ 1000 →
 Calls Try.prog 37 #[.slice ai a9 aq, .func (.func 38) #[] #[]] w fun an am => ∃ (a0 : Bool), an = .returned (.bool a0) ∧
 (a0 = true →
 R (.tuple #[.slice none 0 0, .int .i64 3]) am) ∧
 (a0 = false →
 Calls Try.prog 26 #[.slice none 0 0, .int .u64 (IntKind.u64.wrap (a9 : Int))] am fun ar ao => ∃ (a8 : Option Addr) (a7 a6 : Nat), ar = .returned (.slice a8 a7 a6) ∧
 ∃ (I0 : Nat → List Value → World → Prop) (ap : Nat), I0 ap [.slice a8 a7 a6, .int .i64 0] ao ∧ ∀ (aj : Nat) (a4 : World) (ab : Option Addr) (aa ac : Nat) (a5 : Int), I0 aj [.slice ab aa ac, .int .i64 a5] a4 →
 (a5 < (a9 : Int) →
 ∃ ak : Addr, ai = some ak ∧
 0 ≤ (a5 : Int) ∧ (a5 : Int) < (a9 : Int) ∧
 ∃ (ad : Option Addr) (ae af : Nat), a4.cell? (ak.add (Int.toNat a5 * 1)) = some (.slice ad ae af) ∧
 Calls Try.prog 29 #[.slice ab aa ac, .slice ad ae af] a4 fun ag ah => ∃ (a2 : Option Addr) (a3 a1 : Nat), ag = .returned (.slice a2 a3 a1) ∧
 (-9223372036854775808 : Int) ≤ (a5 + 1) ∧ (a5 + 1) < 9223372036854775808 ∧
 ∃ al, al < aj ∧ I0 al [.slice a2 a3 a1, .int .i64 (a5 + 1)] ah) ∧
 ((a9 : Int) ≤ a5 →
 R (.tuple #[.slice ab aa ac, .int .i64 0]) a4)))

theorem Q0C.up (ai : Option Addr) (ah aj : Nat) {R : RW} {w : World} (h : Q0C.N ai ah aj R w) : Q0C.M ai ah aj R w := by
  unfold Q0C.M
  unfold Q0C.N at h
  refine bif_of (fun c2 => ?_) (fun c2 => ?_)
  ·have h := h.1 (of_decide_eq_true c2)
   exact h
  have h := h.2 (Int.not_lt.1 (of_decide_eq_false c2))
  refine h.mono fun aw b0 h => ?_
  obtain ⟨a0, he, h⟩ := h
  refine ⟨a0, he, ?_⟩
  refine bif_of (fun c6 => ?_) (fun c6 => ?_)
  ·have h := h.1 c6
   exact h
  have h := h.2 c6
  unfold Q0C.J1
  refine h.mono fun az ax h => ?_
  obtain ⟨a6, a5, a4, he, h⟩ := h
  refine ⟨a6, a5, a4, he, ?_⟩
  obtain ⟨I0, aq, h0, h⟩ := h
  refine ⟨I0, aq, h0, fun am ab a9 a7 af ak hI => ?_⟩
  have h := h am ab a9 a7 af ak hI
  refine bif_fo (fun ae => ?_) (fun ae => ?_)
  ·have h := h.2 (Int.not_lt.1 (of_decide_eq_false ae))
   exact h
  have h := h.1 (of_decide_eq_true ae)
  obtain ⟨ay, ag, h⟩ := h
  refine Q0p ag ?_
  obtain ⟨an, ap, h⟩ := h
  refine ⟨an, ap, ?_⟩
  obtain ⟨a8, ac, ad, aa, h⟩ := h
  refine ⟨a8, ac, ad, aa, ?_⟩
  refine h.mono fun ao au h => ?_
  obtain ⟨a2, a3, a1, he, h⟩ := h
  refine ⟨a2, a3, a1, he, ?_⟩
  obtain ⟨al, ar, h⟩ := h
  try rw [w64 al ar]
  obtain ⟨av, hk, h⟩ := h
  exact ⟨av, hk, h⟩

theorem Q0C.go (a0 : Option Addr) (a1 a2 : Nat) {R : RW} {w : World} (h : Q0C.N a0 a1 a2 R w) : Calls Try.prog 16 #[.slice a0 a1 a2] w fun e w' => ∃ v, e = .returned v ∧ R v w' := Q0C.ok a0 a1 a2 (Q0C.up a0 a1 a2 h)
abbrev Q0H.J1 (ae : Option Addr) (af ag : Nat) (ad : Int) (I0 : Nat → List Value → World → Prop) (ah : Nat) (a4 : Option Addr) (R : RW) (a9 : World) : Prop :=
 Calls Try.prog 42 #[.pointer a4, .int .i64 4000] a9 fun aa a8 => ∃ (a2 : Option Addr) (a0 a1 : Nat), aa = .returned (.slice a2 a0 a1) ∧
 thenW (a8.alloc (.cells #[.slice a2 a0 a1] 25)) fun ab =>
 ∃ (a3 : Option Addr) (a7 a5 : Nat) (a6 : World), (Builtin.append_ #[47, 47] 47 #[.slice ae af ag, .slice (some (blk a8.heap.size)) 1 1]).run Try.prog ab = .ok (.slice a3 a7 a5) a6 ∧
 ∃ ac, ac < ah ∧ I0 ac [.slice a3 a7 a5, .int .i64 (IntKind.i64.wrap (ad + 1))] a6

def Q0H.M (ah : Option Addr) (ab aa : Nat) (R : RW) (w : World) : Prop :=
 Calls Try.prog 31 #[.slice ah ab aa] w fun af ad => ∃ (a1 : Option Addr), af = .returned (.pointer a1) ∧
 Calls Try.prog 41 #[.pointer a1, .int .i64 1000] ad fun ae ac => ∃ (a2 : Int), ae = .returned (.int .i64 a2) ∧
 ∃ (I0 : Nat → List Value → World → Prop) (ag : Nat), I0 ag [.slice none 0 0, .int .i64 0] ac ∧ ∀ (a9 : Nat) (a3 : World) (a6 : Option Addr) (a7 a8 : Nat) (t9 : Int), I0 a9 [.slice a6 a7 a8, .int .i64 t9] a3 →
 bif decide (t9 < a2) then (
 Q0H.J1 a6 a7 a8 t9 I0 a9 a1 R a3) else (
 Calls Try.prog 43 #[.pointer a1] a3 fun a5 a4 => ∃ (a0 : Int), a5 = .returned (.int .i64 a0) ∧
 bif a0 != 0 then (
 R (.tuple #[.slice none 0 0, .int .i64 a0]) a4) else (
 R (.tuple #[.slice a6 a7 a8, .int .i64 0]) a4))

theorem Q0H.ok (a2 : Option Addr) (a1 a0 : Nat) {R : RW} {w : World} (h : Q0H.M a2 a1 a0 R w) : Calls Try.prog 18 #[.slice a2 a1 a0] w fun e w' => ∃ v, e = .returned v ∧ R v w' :=
  Q09 follows (H := [(0, [4, 9], [(2, (.one .slice)), (10, (.one (.int .i64)))])]) (args := [.slice a2 a1 a0]) (cast (by kernel_rfl) h)

def Q0H.N (an : Option Addr) (am ar : Nat) (R : RW) (w : World) : Prop :=
 Calls Try.prog 31 #[.slice an am ar] w fun au av => ∃ (a5 : Option Addr), au = .returned (.pointer a5) ∧
 Calls Try.prog 41 #[.pointer a5, .int .i64 1000] av fun ap ao => ∃ (a4 : Int), ap = .returned (.int .i64 a4) ∧
 ∃ (I0 : Nat → List Value → World → Prop) (aq : Nat), I0 aq [.slice none 0 0, .int .i64 0] ao ∧ ∀ (al : Nat) (a7 : World) (aj : Option Addr) (ag ai : Nat) (t9 : Int), I0 al [.slice aj ag ai, .int .i64 t9] a7 →
 (t9 < a4 →
 Calls Try.prog 42 #[.pointer a5, .int .i64 4000] a7 fun af ad => ∃ (a2 : Option Addr) (a3 a1 : Nat), af = .returned (.slice a2 a3 a1) ∧
 ∀ (a6 : World) (ae : Nat), Ext no ad a6 → Blk a6 ae 25 [.slice a2 a3 a1] → ad.heap.size ≤ ae → ae < a6.heap.size →
 ∃ (ab : Option Addr) (a8 a9 : Nat) (ac : World), (Builtin.append_ #[47, 47] 47 #[.slice aj ag ai, .slice (some (blk ae)) 1 1]).run Try.prog a6 = .ok (.slice ab a8 a9) ac ∧
 (-9223372036854775808 : Int) ≤ (t9 + 1) ∧ (t9 + 1) < 9223372036854775808 ∧
 ∃ ak, ak < al ∧ I0 ak [.slice ab a8 a9, .int .i64 (t9 + 1)] ac) ∧
 (a4 ≤ t9 →
 Calls Try.prog 43 #[.pointer a5] a7 fun ah aa => ∃ (a0 : Int), ah = .returned (.int .i64 a0) ∧
 (a0 ≠ 0 →
 R (.tuple #[.slice none 0 0, .int .i64 a0]) aa) ∧
 (a0 = 0 →
 R (.tuple #[.slice aj ag ai, .int .i64 0]) aa))

theorem Q0H.up (ah : Option Addr) (ag ai : Nat) {R : RW} {w : World} (h : Q0H.N ah ag ai R w) : Q0H.M ah ag ai R w := by
  unfold Q0H.M
  unfold Q0H.N at h
  refine h.mono fun ay az h => ?_
  obtain ⟨a6, he, h⟩ := h
  refine ⟨a6, he, ?_⟩
  refine h.mono fun ax aw h => ?_
  obtain ⟨a4, he, h⟩ := h
  refine ⟨a4, he, ?_⟩
  obtain ⟨I0, au, h0, h⟩ := h
  refine ⟨I0, au, h0, fun av a8 ar am aq t9 hI => ?_⟩
  have h := h av a8 ar am aq t9 hI
  refine bif_fo (fun a7 => ?_) (fun a7 => ?_)
  ·have h := h.2 (Int.not_lt.1 (of_decide_eq_false a7))
   refine h.mono fun an ap h => ?_
   obtain ⟨a3, he, h⟩ := h
   refine ⟨a3, he, ?_⟩
   refine bif_of (fun ac => ?_) (fun ac => ?_)
   ·have h := h.1 (bne_t ac)
    exact h
   have h := h.2 (bne_f ac)
   exact h
  have h := h.1 (of_decide_eq_true a7)
  unfold Q0H.J1
  refine h.mono fun aj a5 h => ?_
  obtain ⟨a1, a2, a0, he, h⟩ := h
  refine ⟨a1, a2, a0, he, ?_⟩
  refine Q00 fun a9 af => ?_
  have h := h a9 a5.heap.size ((Ext.refl no a5).x_alloc af) (Blk.of_new af) ((Ext.refl no a5)).size (Q0s af)
  obtain ⟨ad, aa, ab, ae, hr, h⟩ := h
  refine ⟨ad, aa, ab, ae, hr, ?_⟩
  obtain ⟨ak, ao, h⟩ := h
  try rw [w64 ak ao]
  obtain ⟨al, hk, h⟩ := h
  exact ⟨al, hk, h⟩

theorem Q0H.go (a2 : Option Addr) (a1 a0 : Nat) {R : RW} {w : World} (h : Q0H.N a2 a1 a0 R w) : Calls Try.prog 18 #[.slice a2 a1 a0] w fun e w' => ∃ v, e = .returned v ∧ R v w' := Q0H.ok a2 a1 a0 (Q0H.up a2 a1 a0 h)
abbrev Q05.J1 (al : Option Addr) (ai ag : Nat) (ab : Int) (I0 : Nat → List Value → World → Prop) (ak : Option Addr) (aj af : Nat) (R : RW) (a8 : World) : Prop :=
 ak.elim False fun ah =>
 0 ≤ (ab : Int) ∧ (ab : Int) < (aj : Int) ∧
 ∃ (aa : Option Addr) (a9 a6 : Nat), a8.cell? (ah.add (Int.toNat ab * 1)) = some (.slice aa a9 a6) ∧
 Calls Try.prog 40 #[.slice aa a9 a6] a8 fun ad ac => ∃ (a2 : Option Addr) (a1 a0 : Nat), ad = .returned (.slice a2 a1 a0) ∧
 ∃ (a7 : Option Addr) (a5 a3 : Nat) (a4 : World), (Builtin.append_ #[25, 25] 25 #[.slice al ai ag, .slice a2 a1 a0]).run Try.prog ac = .ok (.slice a7 a5 a3) a4 ∧
 ∃ ae, ae < af ∧ I0 ae [.slice a7 a5 a3, .int .i64 (IntKind.i64.wrap (ab + 1))] a4

abbrev Q05.J2 (a9 : Option Addr) (ab aa : Nat) (a2 : Int) (I0 : Nat → List Value → World → Prop) (a5 : Option Addr) (a6 a7 : Nat) (R : RW) (a0 : World) : Prop :=
 a5.elim False fun a8 =>
 0 ≤ (a2 : Int) ∧ (a2 : Int) < (a6 : Int) ∧
 ∃ (a3 : Option Addr) (a1 a4 : Nat), a0.cell? (a8.add (Int.toNat a2 * 1)) = some (.slice a3 a1 a4) ∧
 bif decide ((a1 : Int) > 4000) then (
 R (.tuple #[.slice none 0 0, .int .i64 3]) a0) else (
 Q05.J1 a9 ab aa a2 I0 a5 a6 a7 R a0)

abbrev Q05.J3 (ae : Option Addr) (aa : Nat) (R : RW) (a9 : World) : Prop :=
 Calls Try.prog 39 #[.int .u64 (IntKind.u64.wrap (aa : Int))] a9 fun ab a8 => ∃ (a0 : Option Addr) (a2 a1 : Nat), ab = .returned (.slice a0 a2 a1) ∧
 ∃ (I0 : Nat → List Value → World → Prop) (ad : Nat), I0 ad [.slice a0 a2 a1, .int .i64 0] a8 ∧ ∀ (ac : Nat) (a6 : World) (a5 : Option Addr) (a3 a4 : Nat) (a7 : Int), I0 ac [.slice a5 a3 a4, .int .i64 a7] a6 →
 bif decide (a7 < (aa : Int)) then (
 Q05.J2 a5 a3 a4 a7 I0 ae aa ac R a6) else (
 R (.tuple #[.slice a5 a3 a4, .int .i64 0]) a6)

def Q05.M (a1 : Option Addr) (a0 a2 : Nat) (R : RW) (w : World) : Prop :=
 bif decide ((a0 : Int) > 1000) then (
 R (.tuple #[.slice none 0 0, .int .i64 3]) w) else (
 Q05.J3 a1 a0 R w)

theorem Q05.ok (a0 : Option Addr) (a1 a2 : Nat) {R : RW} {w : World} (h : Q05.M a0 a1 a2 R w) : Calls Try.prog 17 #[.slice a0 a1 a2] w fun e w' => ∃ v, e = .returned v ∧ R v w' :=
  Q09 follows (H := [(0, [0], [(4, (.one .slice)), (5, (.one (.int .i64)))])]) (args := [.slice a0 a1 a2]) (cast (by kernel_rfl) h)

def Q05.N (aq : Option Addr) (a7 au : Nat) (R : RW) (w : World) : Prop :=
 ((a7 : Int) > 1000 →
 R (.tuple #[.slice none 0 0, .int .i64 3]) w) ∧
 ((a7 : Int) ≤ 1000 →
 Calls Try.prog 39 #[.int .u64 (IntKind.u64.wrap (a7 : Int))] w fun ap ar => ∃ (a6 : Option Addr) (a4 a5 : Nat), ap = .returned (.slice a6 a4 a5) ∧
 ∃ (I0 : Nat → List Value → World → Prop) (m8 : Nat), I0 m8 [.slice a6 a4 a5, .int .i64 0] ar ∧ ∀ (m9 : Nat) (a3 : World) (ai : Option Addr) (aj ak : Nat) (i7 : Int), I0 m9 [.slice ai aj ak, .int .i64 i7] a3 →
 (i7 < (a7 : Int) →
 ∃ an : Addr, aq = some an ∧
 0 ≤ (i7 : Int) ∧ (i7 : Int) < (a7 : Int) ∧
 ∃ (ag : Option Addr) (a8 ah : Nat), a3.cell? (an.add (Int.toNat i7 * 1)) = some (.slice ag a8 ah) ∧
 ((a8 : Int) > 4000 →
 R (.tuple #[.slice none 0 0, .int .i64 3]) a3) ∧
 ((a8 : Int) ≤ 4000 →
 0 ≤ (i7 : Int) ∧ (i7 : Int) < (a7 : Int) ∧
 ∃ (aa : Option Addr) (ae a9 : Nat), a3.cell? (an.add (Int.toNat i7 * 1)) = some (.slice aa ae a9) ∧
 Calls Try.prog 40 #[.slice aa ae a9] a3 fun al am => ∃ (a1 : Option Addr) (a0 a2 : Nat), al = .returned (.slice a1 a0 a2) ∧
 ∃ (ab : Option Addr) (af ac : Nat) (ad : World), (Builtin.append_ #[25, 25] 25 #[.slice ai aj ak, .slice a1 a0 a2]).run Try.prog am = .ok (.slice ab af ac) ad ∧
 (-9223372036854775808 : Int) ≤ (i7 + 1) ∧ (i7 + 1) < 9223372036854775808 ∧
 ∃ ao, ao < m9 ∧ I0 ao [.slice ab af ac, .int .i64 (i7 + 1)] ad)) ∧
 ((a7 : Int) ≤ i7 →
 R (.tuple #[.slice ai aj ak, .int .i64 0]) a3))

theorem Q05.up (ap : Option Addr) (ao aq : Nat) {R : RW} {w : World} (h : Q05.N ap ao aq R w) : Q05.M ap ao aq R w := by
  unfold Q05.M
  unfold Q05.N at h
  refine bif_of (fun c2 => ?_) (fun c2 => ?_)
  ·have h := h.1 (of_decide_eq_true c2)
   exact h
  have h := h.2 (Int.not_lt.1 (of_decide_eq_false c2))
  unfold Q05.J3
  refine h.mono fun b1 b3 h => ?_
  obtain ⟨a6, a4, a3, he, h⟩ := h
  refine ⟨a6, a4, a3, he, ?_⟩
  obtain ⟨I0, m8, h0, h⟩ := h
  refine ⟨I0, m8, h0, fun m9 ac au aw ax i7 hI => ?_⟩
  have h := h m9 ac au aw ax i7 hI
  refine bif_fo (fun ab => ?_) (fun ab => ?_)
  ·have h := h.2 (Int.not_lt.1 (of_decide_eq_false ab))
   exact h
  have h := h.1 (of_decide_eq_true ab)
  unfold Q05.J2
  obtain ⟨b2, a5, h⟩ := h
  refine Q0p a5 ?_
  obtain ⟨ad, ae, h⟩ := h
  refine ⟨ad, ae, ?_⟩
  obtain ⟨a7, ak, a9, ah, h⟩ := h
  refine ⟨a7, ak, a9, ah, ?_⟩
  refine bif_of (fun an => ?_) (fun an => ?_)
  ·have h := h.1 (of_decide_eq_true an)
   exact h
  have h := h.2 (Int.not_lt.1 (of_decide_eq_false an))
  unfold Q05.J1
  refine Q0p a5 ?_
  obtain ⟨ad, ae, h⟩ := h
  refine ⟨ad, ae, ?_⟩
  obtain ⟨aa, al, a8, af, h⟩ := h
  refine ⟨aa, al, a8, af, ?_⟩
  refine h.mono fun ay az h => ?_
  obtain ⟨a1, a0, a2, he, h⟩ := h
  refine ⟨a1, a0, a2, he, ?_⟩
  obtain ⟨ag, am, ai, aj, hr, h⟩ := h
  refine ⟨ag, am, ai, aj, hr, ?_⟩
  obtain ⟨ar, av, h⟩ := h
  try rw [w64 ar av]
  obtain ⟨b0, hk, h⟩ := h
  exact ⟨b0, hk, h⟩

theorem Q05.go (a0 : Option Addr) (a1 a2 : Nat) {R : RW} {w : World} (h : Q05.N a0 a1 a2 R w) : Calls Try.prog 17 #[.slice a0 a1 a2] w fun e w' => ∃ v, e = .returned v ∧ R v w' := Q05.ok a0 a1 a2 (Q05.up a0 a1 a2 h)
abbrev Q0f.J1 (ad : Option Addr) (ae ac : Nat) (af : Int) (I0 : Nat → List Value → World → Prop) (m9 : Nat) (w : World) (R : RW) (a8 : World) : Prop :=
 Calls Try.prog 45 #[.pointer (some (blk w.heap.size)), .int .i64 4000] a8 fun a9 a4 => ∃ (a1 : Option Addr) (a2 a0 : Nat), a9 = .returned (.slice a1 a2 a0) ∧
 thenW (a4.alloc (.cells #[.slice a1 a2 a0] 25)) fun aa =>
 ∃ (a7 : Option Addr) (a3 a6 : Nat) (a5 : World), (Builtin.append_ #[47, 47] 47 #[.slice ad ae ac, .slice (some (blk a4.heap.size)) 1 1]).run Try.prog aa = .ok (.slice a7 a3 a6) a5 ∧
 ∃ ab, ab < m9 ∧ I0 ab [.slice a7 a3 a6, .int .i64 (IntKind.i64.wrap (af + 1))] a5

def Q0f.M (ah : Option Addr) (ae ac : Nat) (R : RW) (w : World) : Prop :=
 thenW (w.alloc (.cells #[.slice ah ae ac, .int .i64 0] 83)) fun af =>
 Calls Try.prog 44 #[.pointer (some (blk w.heap.size)), .int .i64 1000] af fun ad ag => ∃ (a6 : Int), ad = .returned (.int .i64 a6) ∧
 ∃ (I0 : Nat → List Value → World → Prop) (m8 : Nat), I0 m8 [.slice none 0 0, .int .i64 0] ag ∧ ∀ (m9 : Nat) (a5 : World) (a1 : Option Addr) (a2 a0 : Nat) (i7 : Int), I0 m9 [.slice a1 a2 a0, .int .i64 i7] a5 →
 bif decide (i7 < a6) then (
 ∃ (a8 : Int), a5.cell? ((blk w.heap.size).add 1) = some (.int .i64 a8) ∧
 bif a8 == 0 then (
 Q0f.J1 a1 a2 a0 i7 I0 m9 w R a5) else (
 Calls Try.prog 46 #[.pointer (some (blk w.heap.size))] a5 fun aa a9 => ∃ (a4 : Int), aa = .returned (.int .i64 a4) ∧
 bif a4 != 0 then (
 R (.tuple #[.slice none 0 0, .int .i64 a4]) a9) else (
 R (.tuple #[.slice a1 a2 a0, .int .i64 0]) a9))) else (
 Calls Try.prog 46 #[.pointer (some (blk w.heap.size))] a5 fun ab a7 => ∃ (a3 : Int), ab = .returned (.int .i64 a3) ∧
 bif a3 != 0 then (
 R (.tuple #[.slice none 0 0, .int .i64 a3]) a7) else (
 R (.tuple #[.slice a1 a2 a0, .int .i64 0]) a7))

theorem Q0f.ok (a2 : Option Addr) (a1 a0 : Nat) {R : RW} {w : World} (h : Q0f.M a2 a1 a0 R w) : Calls Try.prog 19 #[.slice a2 a1 a0] w fun e w' => ∃ v, e = .returned v ∧ R v w' :=
  Q09 follows (H := [(0, [4, 5], [(6, (.one .slice)), (7, (.one (.int .i64)))])]) (args := [.slice a2 a1 a0]) (cast (by kernel_rfl) h)

def Q0f.N (ar : Option Addr) (aq aw : Nat) (R : RW) (w : World) : Prop :=
 ∀ (ak : World) (q3 : Nat), Ext no w ak → Blk ak q3 83 [.slice ar aq aw, .int .i64 0] → w.heap.size ≤ q3 → q3 < ak.heap.size →
 Calls Try.prog 44 #[.pointer (some (blk q3)), .int .i64 1000] ak fun au av => ∃ (a8 : Int), au = .returned (.int .i64 a8) ∧
 ∃ (I0 : Nat → List Value → World → Prop) (m9 : Nat), I0 m9 [.slice none 0 0, .int .i64 0] av ∧ ∀ (ao : Nat) (a9 : World) (a2 : Option Addr) (a4 a1 : Nat) (i8 : Int), I0 ao [.slice a2 a4 a1, .int .i64 i8] a9 →
 (i8 < a8 →
 ∃ (ab : Int), a9.cell? ((blk q3).add 1) = some (.int .i64 ab) ∧
 (ab = 0 →
 Calls Try.prog 45 #[.pointer (some (blk q3)), .int .i64 4000] a9 fun am ae => ∃ (a5 : Option Addr) (a6 a7 : Nat), am = .returned (.slice a5 a6 a7) ∧
 ∀ (aa : World) (aj : Nat), Ext no ae aa → Blk aa aj 25 [.slice a5 a6 a7] → ae.heap.size ≤ aj → aj < aa.heap.size →
 ∃ (ad : Option Addr) (ai af : Nat) (ag : World), (Builtin.append_ #[47, 47] 47 #[.slice a2 a4 a1, .slice (some (blk aj)) 1 1]).run Try.prog aa = .ok (.slice ad ai af) ag ∧
 (-9223372036854775808 : Int) ≤ (i8 + 1) ∧ (i8 + 1) < 9223372036854775808 ∧
 ∃ ap, ap < ao ∧ I0 ap [.slice ad ai af, .int .i64 (i8 + 1)] ag) ∧
 (ab ≠ 0 →
 Calls Try.prog 46 #[.pointer (some (blk q3))] a9 fun an ac => ∃ (a3 : Int), an = .returned (.int .i64 a3) ∧
 (a3 ≠ 0 →
 R (.tuple #[.slice none 0 0, .int .i64 a3]) ac) ∧
 (a3 = 0 →
 R (.tuple #[.slice a2 a4 a1, .int .i64 0]) ac))) ∧
 (a8 ≤ i8 →
 Calls Try.prog 46 #[.pointer (some (blk q3))] a9 fun al ah => ∃ (a0 : Int), al = .returned (.int .i64 a0) ∧
 (a0 ≠ 0 →
 R (.tuple #[.slice none 0 0, .int .i64 a0]) ah) ∧
 (a0 = 0 →
 R (.tuple #[.slice a2 a4 a1, .int .i64 0]) ah))

theorem Q0f.up (ao : Option Addr) (an ap : Nat) {R : RW} {w : World} (h : Q0f.N ao an ap R w) : Q0f.M ao an ap R w := by
  unfold Q0f.M
  unfold Q0f.N at h
  refine Q00 fun ar e2 => ?_
  have h := h ar w.heap.size ((Ext.refl no w).x_alloc e2) (Blk.of_new e2) ((Ext.refl no w)).size (Q0s e2)
  refine h.mono fun b2 b3 h => ?_
  obtain ⟨a7, he, h⟩ := h
  refine ⟨a7, he, ?_⟩
  obtain ⟨I0, m9, h0, h⟩ := h
  refine ⟨I0, m9, h0, fun az ai a6 a9 a5 i8 hI => ?_⟩
  have h := h az ai a6 a9 a5 i8 hI
  refine bif_fo (fun af => ?_) (fun af => ?_)
  ·have h := h.2 (Int.not_lt.1 (of_decide_eq_false af))
   refine h.mono fun aq b0 h => ?_
   obtain ⟨a4, he, h⟩ := h
   refine ⟨a4, he, ?_⟩
   refine bif_of (fun ae => ?_) (fun ae => ?_)
   ·have h := h.1 (bne_t ae)
    exact h
   have h := h.2 (bne_f ae)
   exact h
  have h := h.1 (of_decide_eq_true af)
  obtain ⟨ab, ah, h⟩ := h
  refine ⟨ab, ah, ?_⟩
  refine bif_fo (fun aa => ?_) (fun aa => ?_)
  ·have h := h.2 (beq_f aa)
   refine h.mono fun ay av h => ?_
   obtain ⟨a8, he, h⟩ := h
   refine ⟨a8, he, ?_⟩
   refine bif_of (fun aj => ?_) (fun aj => ?_)
   ·have h := h.1 (bne_t aj)
    exact h
   have h := h.2 (bne_f aj)
   exact h
  have h := h.1 (beq_t aa)
  unfold Q0f.J1
  refine h.mono fun aw a3 h => ?_
  obtain ⟨a0, a1, a2, he, h⟩ := h
  refine ⟨a0, a1, a2, he, ?_⟩
  refine Q00 fun ag ac => ?_
  have h := h ag a3.heap.size ((Ext.refl no a3).x_alloc ac) (Blk.of_new ac) ((Ext.refl no a3)).size (Q0s ac)
  obtain ⟨ad, am, ak, al, hr, h⟩ := h
  refine ⟨ad, am, ak, al, hr, ?_⟩
  obtain ⟨au, ax, h⟩ := h
  try rw [w64 au ax]
  obtain ⟨b1, hk, h⟩ := h
  exact ⟨b1, hk, h⟩

theorem Q0f.go (a2 : Option Addr) (a1 a0 : Nat) {R : RW} {w : World} (h : Q0f.N a2 a1 a0 R w) : Calls Try.prog 19 #[.slice a2 a1 a0] w fun e w' => ∃ v, e = .returned v ∧ R v w' := Q0f.ok a2 a1 a0 (Q0f.up a2 a1 a0 h)
end Go.Proofs.Ytlgpeojjmapnjaa
namespace Go.Mx
theorem Q3B {P : Program} {t e : TypeId} {size : Nat} {α : Type} {f : α → List Value} {G : World → α → Prop} (ht : P.underlying t = some (.slice e)) (hs : P.cellsOf e = size) (he : Opens P e fun W cs => ∃ x, cs = f x ∧ G W x) :
    Opens P t fun W cs => ∃ (a : Option Addr) (c : Nat) (l : List α), cs = [.slice a l.length c] ∧ l.length ≤ c ∧ c ≤ maxLen ∧ RowAt W a (l.flatMap f) ∧ ∀ x ∈ l, G W x :=
  (Q2g (size := size) ht hs he).mono fun W cs ⟨a, l, c, rows, h1, h2, h3, h4, h5, h6⟩ => by
    obtain ⟨xs, h7, h8⟩ := rows_of (rows := rows) f (G W) fun r hr => (h6 r hr).2
    subst h7
    rw [List.length_map] at h4
    subst h4
    exact ⟨a, c, xs, h1, h2, h3, by rw [List.flatMap_def]; exact h5, h8⟩
section
variable {α : Type} {f : α → List Value} {n : Nat} {w : World} {a : Option Addr} {l : List α}
end
end Go.Mx
namespace Go.Mx
section
variable {K K1 : Nat → Prop} {w w1 w' w0 : World} {o o1 o' o0 : Own} {p q j k N : Nat} {e : TypeId} {size n c : Nat} {a : Option Addr} {cs : List Value}
end
end Go.Mx
namespace Go.Mx
open Go
section
variable {P : Program} {w w' : World} {q k : Nat} {t e : TypeId} {cs vs : List Value}
theorem Grows.ne {w : World} {o : Own} {sz n c g b : Nat} {a : Option Addr} {cs' : List Value} (h : Grows e sz w o g a n c cs) (hb : Blk w b t cs') (hte : t ≠ e) : ∀ ad, a = some ad → ad.block ≠ b := by
  intro ad ha hq
  rcases h.own.2 with ⟨hv, h0⟩ | ⟨q, cap, cur, hv, hle, hgb, _⟩
  · cases hv; cases ha
  · cases hv; cases ha
    simp only at hq
    subst hq
    unfold Blk at hb
    rw [hb] at hgb
    cases hgb
    exact hte rfl
end
end Go.Mx
set_option maxRecDepth 20000
namespace Go.Proofs.Ytlgpeojjmapnjaa
open Go Go.Mx Go.Proofs
open W (OwnB Rd numR countR doneR)
theorem inf1 : (Try.prog.info? 1).map (fun i => (i.zero, i.size, i.bytes)) = some (some (.nilFunc), 1, 8) := by kernel_rfl
def FP.zero : FP := ⟨Fr.zero, none, 0, none, 0, none, 0⟩
structure FP.own (w : World) (o : Own) (x : FP) : Prop where
  e : Row w o x.ea (bytesV x.r.e.body)
  f : Row w o x.fa (bytesV x.r.f.body)
  v : Row w o x.va (hsC x.r.v)
def rgC (p : Nat) (x : FP) (la : Option Addr) (n c : Nat) : List Value := .pointer (some (blk p)) :: (x.C ++ [.slice la n c])
structure RG (w : World) (o : Own) (p q : Nat) (bs : List UInt8) (k : Int) (x : FP) (L : List Value) : Prop where
  rd : Rd w p bs k
  mem : ∃ la lc, Blk w q 68 (rgC p x la L.length lc) ∧ Go.Mx.Grows 1 1 w o q la L.length lc L ∧ (∀ ad, la = some ad → p < ad.block)
  tp : o p = some p
  tq : o q = some q
  pq : p < q
  ok : x.own w o
  fl : bs.length < 1000000
section
variable {w w' w1 : World} {o o' o1 : Own} {p q b t : Nat} {bs : List UInt8} {k : Int} {x : FP} {L : List Value} {K : Nat → Prop}
theorem FP.own.at (h : x.own w o) : x.at w := ⟨h.e.1, h.f.1, h.v.1⟩
theorem FP.own.step (h : x.own w o) (s : Step K w o w' o') : x.own w' o' := ⟨h.e.step s, h.f.step s, h.v.step s⟩
theorem FP.own.zero (w : World) (o : Own) : FP.zero.own w o := ⟨Row.nil _ _ _, Row.nil _ _ _, Row.nil _ _ _⟩
theorem RG.lt (h : RG w o p q bs k x L) : q < w.heap.size := by obtain ⟨_, _, b, _⟩ := h.mem; exact b.lt
theorem RG.no (h : RG w o p q bs k x L) (s : Step no w o w' o') (X : Ext no w w') : RG w' o' p q bs k x L := by
  obtain ⟨la, lc, b, g, hl⟩ := h.mem
  exact ⟨h.rd.no X, ⟨la, lc, s.blk b h.tq id, g.step s id, hl⟩, by rw [s.own h.rd.lt]; exact h.tp, by rw [s.own b.lt]; exact h.tq, h.pq, h.ok.step s, h.fl⟩
theorem RG.read (h : RG w o p q bs k x L) (ok : Tags w o) (X : Ext (fun b => b = p) w w') {bs' : List UInt8} {k' : Int} (hr : Rd w' p bs' k') (hl : bs'.length ≤ bs.length) :
    Step (fun j => j = p) w o w' (grow w o) ∧ RG w' (grow w o) p q bs' k' x L := by
  obtain ⟨la, lc, b, g, hla⟩ := h.mem
  have s : Step (fun j => j = p) w o w' (grow w o) := Step.of_ext X ok fun b hb _ => by subst hb; exact h.tp
  have hqp : q ≠ p := by have := h.pq; omega
  exact ⟨s, hr, ⟨la, lc, s.blk b h.tq hqp, g.step s hqp, hla⟩, by rw [s.own h.rd.lt]; exact h.tp, by rw [s.own b.lt]; exact h.tq, h.pq, h.ok.step s, by have := h.fl; omega⟩
theorem RG.put (h : RG w o p q bs k x L) (ok : Tags w o) (X : Ext (fun b => b = q) w w') {x' : FP} {la : Option Addr} {lc : Nat} (b : Blk w q 68 (rgC p x la L.length lc)) (b' : Blk w' q 68 (rgC p x' la L.length lc)) (hx : x'.own w' (grow w o)) :
    Step (fun j => j = q) w o w' (grow w o) ∧ RG w' (grow w o) p q bs k x' L := by
  obtain ⟨la0, lc0, b0, g, hla⟩ := h.mem
  have hc := (b0.celli (a := (blk q).add 21) 21 rfl (show (rgC p x la0 L.length lc0)[21]? = some (.slice la0 L.length lc0) from rfl)).symm.trans (b.celli (a := (blk q).add 21) 21 rfl (show (rgC p x la L.length lc)[21]? = some (.slice la L.length lc) from rfl))
  cases hc
  have s : Step (fun j => j = q) w o w' (grow w o) := Step.of_ext X ok fun b hb _ => by subst hb; exact h.tq
  have hgq : ∀ ad, la = some ad → ad.block ≠ q := g.ne b (by decide)
  exact ⟨s, h.rd.up X fun b hb => by subst hb; exact h.pq, ⟨la, lc, b', g.keep X hgq fun b hb => grow_lt hb, hla⟩, by rw [s.own h.rd.lt]; exact h.tp, by rw [s.own b.lt]; exact h.tq, h.pq, hx, h.fl⟩
theorem RG.far (h : RG w o p q bs k x L) {m : Nat → Prop} (s : Step K w o w' o') (X : Ext m w w') (hm : ∀ b, m b → q < b) (hk : ¬ K q) : RG w' o' p q bs k x L := by
  obtain ⟨la, lc, b, g, hl⟩ := h.mem
  exact ⟨h.rd.up X fun b hb => by have := hm b hb; have := h.pq; omega, ⟨la, lc, s.blk b h.tq hk, g.step s hk, hl⟩, by rw [s.own h.rd.lt]; exact h.tp, by rw [s.own b.lt]; exact h.tq, h.pq, h.ok.step s, h.fl⟩
theorem RG.later (h : RG w o p q bs k x L) (ok : Tags w o) (hL : L.length < 100) {v : Value} {qb : Nat} (hv : v.oneCell' = true) (hb : Blk w qb 1 [v]) {la : Option Addr} {n lc : Nat} (hc : w.cell? ((blk q).add 21) = some (.slice la n lc)) :
    ∃ a' c' w1, (Builtin.append_ #[66, 66] 66 #[.slice la n lc, .slice (some (blk qb)) 1 1]).run Try.prog w = .ok (.slice a' (L.length + 1) c') w1 ∧ Ext (fun b => ∃ ad, la = some ad ∧ b = ad.block) w w1 ∧ Q01 w1 (((blk q).add 21).add 0) ∧
      (∀ w', w' = w1.setCell (((blk q).add 21).add 0) (.slice a' (L.length + 1) c') → ∃ o', Step (fun j => j = q) w o w' o' ∧ RG w' o' p q bs k x (L ++ [v])) := by
  obtain ⟨la0, lc0, b, g, hla⟩ := h.mem
  have hc' := hc.symm.trans (b.celli (a := (blk q).add 21) 21 rfl (show (rgC p x la0 L.length lc0)[21]? = some (.slice la0 L.length lc0) from rfl))
  cases hc'
  obtain ⟨i, hi, hz, hs, hby⟩ := info_of inf1
  obtain ⟨a', c', w1, o1, r1, s1, g1, e1, e2⟩ := g.push (P := Try.prog) (ty := 66) Try.underlying66 hi hz hs hby (by rfl) (by decide) ok b.lt (xa := some (blk qb)) (m := 1) (xc := 1) (news := [v]) (by rfl) (RowAt.of_blk hb) (fun u hu => by rw [List.mem_singleton.1 hu]; exact hv) (by omega) (by omega)
  have hgq : ∀ ad, la = some ad → ad.block ≠ q := g.ne b (by decide)
  have hbk : w1.heap[q]? = w.heap[q]? := e1 q b.lt fun ad ha e => hgq ad ha e.symm
  have b1 : Blk w1 q 68 (rgC p x la L.length lc) := by unfold Blk at b ⊢; rw [hbk]; exact b
  have X1 : Ext (fun b => ∃ ad, la = some ad ∧ b = ad.block) w w1 := ⟨s1.ext.os, s1.ext.tape, s1.ext.output, s1.ext.size, fun b hb hn => e1 b hb fun ad ha hb' => hn ⟨ad, ha, hb'⟩⟩
  refine ⟨a', c', w1, r1, X1, b1.cani 21 rfl rfl, fun w' e => ?_⟩
  have X2 : Ext (fun b => b = q) w1 w' := (Ext.refl (fun b => b = q) w1).x_set (q := q) (i := 21) rfl (.inl rfl) e
  have tq1 : o1 q = some q := by rw [s1.own b.lt]; exact h.tq
  have s2 : Step (fun j => j = q) w1 o1 w' (grow w1 o1) := Step.of_ext X2 s1.ok fun b hb _ => by subst hb; exact tq1
  have b2 := b1.seti 21 rfl e
  have hgq1 : ∀ ad, a' = some ad → ad.block ≠ q := fun ad ha => by
    rcases e2 ad ha with ⟨b0, hb0, e⟩ | e
    · rw [e]; exact hgq b0 hb0
    · rw [e]; have := b.lt; omega
  refine ⟨_, s1.trans s2, ?_, ⟨a', c', ?_, ?_, fun ad ha => ?_⟩, ?_, ?_, h.pq, (h.ok.step s1).step s2, h.fl⟩
  · exact (h.rd.up X1 fun b ⟨ad, ha, hb⟩ => by rw [hb]; exact hla ad ha).up X2 fun b hb => by subst hb; exact h.pq
  · rw [List.length_append]; exact b2
  · rw [List.length_append]; exact g1.keep X2 hgq1 fun b hb => grow_lt hb
  · rcases e2 ad ha with ⟨b0, hb0, e⟩ | e
    · rw [e]; exact hla b0 hb0
    · rw [e]; exact h.rd.lt
  · rw [s2.own (Nat.lt_of_lt_of_le h.rd.lt X1.size), s1.own h.rd.lt]; exact h.tp
  · rw [s2.own (Nat.lt_of_lt_of_le b.lt X1.size)]; exact tq1
theorem RG.ptr (h : RG w o p q bs k x L) : w.cell? ((blk q).add 0) = some (.pointer (some (blk p))) := by
  obtain ⟨la, lc, b, _⟩ := h.mem
  exact b.celli 0 rfl rfl
theorem RG.laterC (h : RG w o p q bs k x L) : ∃ la lc, w.cell? ((blk q).add 21) = some (.slice la L.length lc) ∧ RowAt w la L := by
  obtain ⟨la, lc, b, g, _⟩ := h.mem
  exact ⟨la, lc, b.celli 21 rfl rfl, g.row⟩
/-! ### the parts that are looked at in the end -/
def toV (q : Nat) : Nat → Value
  | 0 => .pointer (some (((blk q).add 1).add 1))
  | 1 => .pointer (some (((blk q).add 1).add 9))
  | _ => .pointer (some (blk q))
def toF : Nat → Nat
  | 0 => 97
  | 1 => 97
  | _ => 92
def toT : Nat → Nat
  | 0 => 118
  | 1 => 118
  | _ => 63
def Tk (w : World) (o : Own) (q : Nat) (v : Value) (c : Nat × List UInt8) : Prop :=
  ∃ (b t : Nat) (xa : Option Addr) (xc : Nat), v = .func (.func (toF c.1)) #[] #[.pointer (some (blk b)), .pointer (some (blk t))] ∧ Blk w b 25 [.slice xa c.2.length xc] ∧ o b = some b ∧ Row w o xa (bytesV c.2) ∧ c.2.length ≤ xc ∧ c.2.length < 1000000 ∧ Blk w t (toT c.1) [toV q c.1] ∧ o t = none
theorem free_of {tt : TypeId} {cs : List Value} (hb : Blk w b tt cs) (ho : o b = none) (s : Step K w o w' o') : Blk w' b tt cs ∧ o' b = none := by
  have e : w'.heap[b]? = w.heap[b]? := s.at hb.lt fun k hk => by rw [ho] at hk; cases hk
  exact ⟨by unfold Blk at hb ⊢; rw [e]; exact hb, by rw [s.own hb.lt]; exact ho⟩
theorem Tk.step {v : Value} {c : Nat × List UInt8} (h : Tk w o q v c) (s : Step K w o w' o') (hk : ∀ b cs, Blk w b 25 cs → ¬ K b) : Tk w' o' q v c := by
  obtain ⟨b, t, xa, xc, e, hb, tb, hr, hc, hl, ht, tt⟩ := h
  obtain ⟨ht', tt'⟩ := free_of ht tt s
  exact ⟨b, t, xa, xc, e, s.blk hb tb (hk _ _ hb), by rw [s.own hb.lt]; exact tb, hr.step s, hc, hl, ht', tt'⟩
def Fr.put (f : Fr) (c : Nat × List UInt8) : Fr × Int :=
  match c.1 with
  | 0 => ({ f with e := (readE c.2).1 }, (readE c.2).2)
  | 1 => ({ f with f := (readE c.2).1 }, (readE c.2).2)
  | _ => ({ f with v := (readV c.2).1 }, (readV c.2).2)
end
abbrev kindP (k : Int) : PanicEntry := { v := .iface 33 (.int .i64 k), recovered := false }
theorem Q1C (k : Int) (w : World) : Calls Try.prog 60 #[.int .i64 k] w fun e w' => (k = 0 ∧ e = .returned (.tuple #[]) ∧ w' = w) ∨ (k ≠ 0 ∧ e = .panicked [kindP k] ∧ w' = w) := by
  refine (frmMust.ok k (Φ := fun ch w' => k ≠ 0 ∧ ch = [kindP k] ∧ w' = w) (R := fun v w' => k = 0 ∧ v = .tuple #[] ∧ w' = w) ?_).mono fun e w' h => ?_
  · unfold frmMust.M
    by_cases hk : k = 0
    · subst hk; exact ⟨rfl, rfl, rfl⟩
    · rw [show (k != 0) = true by simpa using hk, cond_true]
      exact ⟨hk, rfl, rfl⟩
  · rcases h with ⟨v, he, hk, hv, hw⟩ | ⟨ch, he, hk, hc, hw⟩
    · exact .inl ⟨hk, by rw [he, hv], hw⟩
    · exact .inr ⟨hk, by rw [he, hc], hw⟩
open W (OwnB Rd numR countR doneR)
section
variable {w w' w1 : World} {o o' o1 : Own} {p q b t : Nat} {bs : List UInt8} {k : Int} {x : FP} {L : List Value} {K : Nat → Prop}
def LkR (w : World) (o : Own) (p q : Nat) (bs : List UInt8) (k : Int) (x : FP) (L : List Value) (r : Fr × Int) (e : Ending) (w' : World) : Prop :=
  ∃ o' x', Step (fun j => j = q) w o w' o' ∧ RG w' o' p q bs k x' L ∧ (∃ la lc, w.cell? ((blk q).add 21) = some (.slice la L.length lc) ∧ w'.cell? ((blk q).add 21) = some (.slice la L.length lc)) ∧ ((r.2 = 0 ∧ e = .returned (.tuple #[]) ∧ x'.r = r.1) ∨ (r.2 ≠ 0 ∧ e = .panicked [kindP r.2]))
theorem lkR_of {r : Fr × Int} {e : Ending} (h : (∃ v, e = .returned v ∧ (v = .tuple #[] ∧ LkR w o p q bs k x L r (.returned (.tuple #[])) w')) ∨ ∃ ch, e = .panicked ch ∧ (ch = [kindP r.2] ∧ LkR w o p q bs k x L r (.panicked [kindP r.2]) w')) : LkR w o p q bs k x L r e w' := by
  rcases h with ⟨v, he, hv, h⟩ | ⟨ch, he, hc, h⟩
  · rw [he, hv]; exact h
  · rw [he, hc]; exact h
theorem look0 (A : RG w o p q bs k x L) (ok : Tags w o) {c : List UInt8} {b t : Nat} {xa : Option Addr} {xc : Nat} (hb : Blk w b 25 [.slice xa c.length xc]) (hr : Row w o xa (bytesV c)) (hc : c.length ≤ xc) (hl : c.length < 1000000) (ht : Blk w t (toT 0) [toV q 0]) (tt : o t = none) :
    Calls Try.prog 97 #[.pointer (some (blk b)), .pointer (some (blk t))] w (LkR w o p q bs k x L (x.r.put (0, c))) := by
  refine (frmEnt.ok (blk b) (blk t) (Φ := fun ch w' => ch = [kindP (x.r.put (0, c)).2] ∧ LkR w o p q bs k x L (x.r.put (0, c)) (.panicked [kindP (x.r.put (0, c)).2]) w') (R := fun v w' => v = .tuple #[] ∧ LkR w o p q bs k x L (x.r.put (0, c)) (.returned (.tuple #[])) w') ?_).mono fun e w' h => lkR_of h
  unfold frmEnt.M
  refine ⟨_, _, _, hb.celli 0 rfl rfl, ?_⟩
  refine (Read_spec hr.1 hc hl).mono fun e w14 ⟨ea, ec, he, hrow, hfr, X14⟩ => .inl ⟨_, _, _, _, _, _, _, _, _, _, _, he, Q00 fun w16 e16 => ?_⟩
  have s14 := Step.of_no X14 ok
  have A14 := A.no s14 X14
  have b16 : Blk w16 w14.heap.size 27 [.int .i64 0, .int .i64 0, .int .u64 0, .int .i64 0, .int .i64 0, .int .i64 0, .slice none 0 0, .int .u64 0] := by subst e16; exact Blk.new _ _ _
  have X16 : Ext no w14 w16 := by subst e16; exact (Ext.refl _ _).alloc _
  obtain ⟨z, hz⟩ : ∃ z, w14.heap.size = z := ⟨_, rfl⟩
  rw [hz] at b16 ⊢
  have s16 := (Step.of_no X16 s14.ok).tag (p := z) (j := z) (by omega) b16.lt
  have A16 := A14.no s16 X16
  have hqz : q < z := by have := A14.lt; omega
  refine Q0R (k := 0) b16 (by show 0 + 0 + 8 ≤ 8; decide) fun w17 X17 b17 => ?_
  have s17 : Step (fun j => j = z) w16 _ w17 _ := Step.of_ext X17 s16.ok fun b hb _ => by subst hb; exact Q0V
  have A17 := A16.far s17 X17 (fun b hb => by omega) (fun e => by omega)
  have b17' : Blk w17 z 27 (entC (readE c).1 ea ec) := b17
  obtain ⟨la, lc, bq0, _, _⟩ := id A.mem
  have bq14 := s14.blk bq0 A.tq id
  have bq16 := s16.blk bq14 A14.tq id
  have bq := s17.blk bq16 A16.tq (fun e => by omega)
  have hs : Step (fun j => j = q) w o w17 _ := ((s14.none.trans s16.none).trans' s17 fun j hj => .inr (by rw [hj, ← hz]; exact X14.size))
  refine (Q1C (readE c).2 w17).mono fun e w19 h => ?_
  rcases h with ⟨hk, he, hw⟩ | ⟨hk, he, hw⟩
  · subst hw
    obtain ⟨ht14, tt14⟩ := free_of ht tt s14
    obtain ⟨ht16, tt16⟩ := free_of ht14 tt14 s16
    obtain ⟨ht17, tt17⟩ := free_of ht16 tt16 s17
    refine .inl ⟨he, _, ht17.celli 0 rfl rfl, _, _, _, _, _, _, _, _, _, _, ⟨b17'.celli 0 rfl rfl, b17'.celli 1 rfl rfl, b17'.celli 2 rfl rfl, b17'.celli 3 rfl rfl, b17'.celli 4 rfl rfl, b17'.celli 5 rfl rfl, b17'.celli 6 rfl rfl, b17'.celli 7 rfl rfl, trivial⟩, ?_⟩
    show putsK w19 ((blk q).add 2) [.int .i64 _, .int .i64 _, .int .u64 _, .int .i64 _, .int .i64 _, .int .i64 _, .slice _ _ _, .int .u64 _] 0 _
    refine Q0R (k := 2) bq (by show 2 + 0 + 8 ≤ 22; decide) fun w38 X38 b38 => ⟨rfl, ?_⟩
    have hrow0 : Row w14 (grow w o) ea (bytesV (readE c).1.body) := Row.fresh hrow fun ad ha => hfr ad ha
    have s38 : Step (fun j => j = q) w19 _ w38 _ := Step.of_ext X38 s17.ok fun b hb _ => by subst hb; exact A17.tq
    have b38' : Blk w38 q 68 (rgC p { x with r := { x.r with e := (readE c).1 }, ea := ea, ec := ec } la L.length lc) := b38
    obtain ⟨s38', A38⟩ := A17.put s17.ok X38 (x' := { x with r := { x.r with e := (readE c).1 }, ea := ea, ec := ec }) bq b38' ⟨((hrow0.step s16).step s17).step s38, A17.ok.f.step s38, A17.ok.v.step s38⟩
    exact ⟨_, _, hs.trans s38', A38, ⟨la, lc, bq0.celli 21 rfl rfl, b38'.celli 21 rfl rfl⟩, .inl ⟨hk, rfl, rfl⟩⟩
  · subst hw
    exact .inr ⟨_, he, rfl, _, x, hs, A17, ⟨la, lc, bq0.celli 21 rfl rfl, bq.celli 21 rfl rfl⟩, .inr ⟨hk, rfl⟩⟩
theorem look1 (A : RG w o p q bs k x L) (ok : Tags w o) {c : List UInt8} {b t : Nat} {xa : Option Addr} {xc : Nat} (hb : Blk w b 25 [.slice xa c.length xc]) (hr : Row w o xa (bytesV c)) (hc : c.length ≤ xc) (hl : c.length < 1000000) (ht : Blk w t (toT 1) [toV q 1]) (tt : o t = none) :
    Calls Try.prog 97 #[.pointer (some (blk b)), .pointer (some (blk t))] w (LkR w o p q bs k x L (x.r.put (1, c))) := by
  refine (frmEnt.ok (blk b) (blk t) (Φ := fun ch w' => ch = [kindP (x.r.put (1, c)).2] ∧ LkR w o p q bs k x L (x.r.put (1, c)) (.panicked [kindP (x.r.put (1, c)).2]) w') (R := fun v w' => v = .tuple #[] ∧ LkR w o p q bs k x L (x.r.put (1, c)) (.returned (.tuple #[])) w') ?_).mono fun e w' h => lkR_of h
  unfold frmEnt.M
  refine ⟨_, _, _, hb.celli 0 rfl rfl, ?_⟩
  refine (Read_spec hr.1 hc hl).mono fun e w14 ⟨ea, ec, he, hrow, hfr, X14⟩ => .inl ⟨_, _, _, _, _, _, _, _, _, _, _, he, Q00 fun w16 e16 => ?_⟩
  have s14 := Step.of_no X14 ok
  have A14 := A.no s14 X14
  have b16 : Blk w16 w14.heap.size 27 [.int .i64 0, .int .i64 0, .int .u64 0, .int .i64 0, .int .i64 0, .int .i64 0, .slice none 0 0, .int .u64 0] := by subst e16; exact Blk.new _ _ _
  have X16 : Ext no w14 w16 := by subst e16; exact (Ext.refl _ _).alloc _
  obtain ⟨z, hz⟩ : ∃ z, w14.heap.size = z := ⟨_, rfl⟩
  rw [hz] at b16 ⊢
  have s16 := (Step.of_no X16 s14.ok).tag (p := z) (j := z) (by omega) b16.lt
  have A16 := A14.no s16 X16
  have hqz : q < z := by have := A14.lt; omega
  refine Q0R (k := 0) b16 (by show 0 + 0 + 8 ≤ 8; decide) fun w17 X17 b17 => ?_
  have s17 : Step (fun j => j = z) w16 _ w17 _ := Step.of_ext X17 s16.ok fun b hb _ => by subst hb; exact Q0V
  have A17 := A16.far s17 X17 (fun b hb => by omega) (fun e => by omega)
  have b17' : Blk w17 z 27 (entC (readE c).1 ea ec) := b17
  obtain ⟨la, lc, bq0, _, _⟩ := id A.mem
  have bq14 := s14.blk bq0 A.tq id
  have bq16 := s16.blk bq14 A14.tq id
  have bq := s17.blk bq16 A16.tq (fun e => by omega)
  have hs : Step (fun j => j = q) w o w17 _ := ((s14.none.trans s16.none).trans' s17 fun j hj => .inr (by rw [hj, ← hz]; exact X14.size))
  refine (Q1C (readE c).2 w17).mono fun e w19 h => ?_
  rcases h with ⟨hk, he, hw⟩ | ⟨hk, he, hw⟩
  · subst hw
    obtain ⟨ht14, tt14⟩ := free_of ht tt s14
    obtain ⟨ht16, tt16⟩ := free_of ht14 tt14 s16
    obtain ⟨ht17, tt17⟩ := free_of ht16 tt16 s17
    refine .inl ⟨he, _, ht17.celli 0 rfl rfl, _, _, _, _, _, _, _, _, _, _, ⟨b17'.celli 0 rfl rfl, b17'.celli 1 rfl rfl, b17'.celli 2 rfl rfl, b17'.celli 3 rfl rfl, b17'.celli 4 rfl rfl, b17'.celli 5 rfl rfl, b17'.celli 6 rfl rfl, b17'.celli 7 rfl rfl, trivial⟩, ?_⟩
    show putsK w19 ((blk q).add 10) [.int .i64 _, .int .i64 _, .int .u64 _, .int .i64 _, .int .i64 _, .int .i64 _, .slice _ _ _, .int .u64 _] 0 _
    refine Q0R (k := 10) bq (by show 10 + 0 + 8 ≤ 22; decide) fun w38 X38 b38 => ⟨rfl, ?_⟩
    have hrow0 : Row w14 (grow w o) ea (bytesV (readE c).1.body) := Row.fresh hrow fun ad ha => hfr ad ha
    have s38 : Step (fun j => j = q) w19 _ w38 _ := Step.of_ext X38 s17.ok fun b hb _ => by subst hb; exact A17.tq
    have b38' : Blk w38 q 68 (rgC p { x with r := { x.r with f := (readE c).1 }, fa := ea, fc := ec } la L.length lc) := b38
    obtain ⟨s38', A38⟩ := A17.put s17.ok X38 (x' := { x with r := { x.r with f := (readE c).1 }, fa := ea, fc := ec }) bq b38' ⟨A17.ok.e.step s38, ((hrow0.step s16).step s17).step s38, A17.ok.v.step s38⟩
    exact ⟨_, _, hs.trans s38', A38, ⟨la, lc, bq0.celli 21 rfl rfl, b38'.celli 21 rfl rfl⟩, .inl ⟨hk, rfl, rfl⟩⟩
  · subst hw
    exact .inr ⟨_, he, rfl, _, x, hs, A17, ⟨la, lc, bq0.celli 21 rfl rfl, bq.celli 21 rfl rfl⟩, .inr ⟨hk, rfl⟩⟩
theorem look2 (A : RG w o p q bs k x L) (ok : Tags w o) {c : List UInt8} {b t : Nat} {xa : Option Addr} {xc : Nat} (hb : Blk w b 25 [.slice xa c.length xc]) (hr : Row w o xa (bytesV c)) (hc : c.length ≤ xc) (hl : c.length < 1000000) (ht : Blk w t (toT 2) [toV q 2]) (tt : o t = none) :
    Calls Try.prog 92 #[.pointer (some (blk b)), .pointer (some (blk t))] w (LkR w o p q bs k x L (x.r.put (2, c))) := by
  refine (frmVec.ok (blk b) (blk t) (Φ := fun ch w' => ch = [kindP (x.r.put (2, c)).2] ∧ LkR w o p q bs k x L (x.r.put (2, c)) (.panicked [kindP (x.r.put (2, c)).2]) w') (R := fun v w' => v = .tuple #[] ∧ LkR w o p q bs k x L (x.r.put (2, c)) (.returned (.tuple #[])) w') ?_).mono fun e w' h => lkR_of h
  unfold frmVec.M
  refine ⟨_, _, _, hb.celli 0 rfl rfl, ?_⟩
  refine (Q3R hr.1 hc hl).mono fun e w14 ⟨ra, rc, he, hO, X14⟩ => .inl ⟨_, _, _, _, he, ?_⟩
  have s14 := Step.of_no X14 ok
  have A14 := A.no s14 X14
  obtain ⟨la, lc, bq0, _, _⟩ := id A.mem
  have bq := s14.blk bq0 A.tq id
  refine (Q1C (readV c).2 w14).mono fun e w19 h => ?_
  rcases h with ⟨hk, he, hw⟩ | ⟨hk, he, hw⟩
  · subst hw
    obtain ⟨ht14, tt14⟩ := free_of ht tt s14
    refine .inl ⟨he, _, ht14.celli 0 rfl rfl, ?_⟩
    show Q01 w19 ((blk q).add 19) ∧ thenW (w19.setCell ((blk q).add 19) _) _
    refine ⟨bq.cani 19 rfl rfl, Q00 fun w38 e38 => ⟨rfl, ?_⟩⟩
    have X38 : Ext (fun b => b = q) w19 w38 := (Ext.refl (fun b => b = q) w19).x_set (q := q) (i := 19) rfl (.inl rfl) e38
    have b38 := bq.seti 19 rfl e38
    have hrow0 : Row w19 (grow w o) ra (hsC (readV c).1) := Row.fresh hO.row fun ad ha => (hO.fr ad ha).1
    have s38 : Step (fun j => j = q) w19 _ w38 _ := Step.of_ext X38 s14.ok fun b hb _ => by subst hb; exact A14.tq
    obtain ⟨s38', A38⟩ := A14.put s14.ok X38 (x' := { x with r := { x.r with v := (readV c).1 }, va := ra, vc := rc }) bq b38 ⟨A14.ok.e.step s38, A14.ok.f.step s38, hrow0.step s38⟩
    exact ⟨_, _, s14.none.trans s38', A38, ⟨la, lc, bq0.celli 21 rfl rfl, b38.celli 21 rfl rfl⟩, .inl ⟨hk, rfl, rfl⟩⟩
  · subst hw
    exact .inr ⟨_, he, rfl, _, x, s14.none, A14, ⟨la, lc, bq0.celli 21 rfl rfl, bq.celli 21 rfl rfl⟩, .inr ⟨hk, rfl⟩⟩
theorem Q4h (A : RG w o p q bs k x L) (ok : Tags w o) {c : Nat × List UInt8} {v : Value} (T : Tk w o q v c) :
    ∃ kk ff gg, v = .func (.func kk) ff gg ∧ enters Try.prog kk = true ∧ Calls Try.prog kk (ff.toList ++ ([] : List Value) ++ gg.toList).toArray w (LkR w o p q bs k x L (x.r.put c)) := by
  obtain ⟨b, t, xa, xc, e, hb, tb, hr, hc, hl, ht, tt⟩ := T
  obtain ⟨i, c⟩ := c
  match i with
  | 0 => exact ⟨_, _, _, e, by kernel_rfl, look0 A ok hb hr hc hl ht tt⟩
  | 1 => exact ⟨_, _, _, e, by kernel_rfl, look1 A ok hb hr hc hl ht tt⟩
  | n + 2 => exact ⟨_, _, _, e, by kernel_rfl, look2 A ok hb hr hc hl ht tt⟩
end
open W (OwnB Rd numR countR doneR)
section
variable {w w' w1 : World} {o o' o1 : Own} {p q b t : Nat} {bs : List UInt8} {k : Int} {x : FP} {L : List Value} {K : Nat → Prop}
abbrev PQ (p q : Nat) : Nat → Prop := fun j => j = p ∨ j = q
def Tks (w : World) (o : Own) (q : Nat) (L : List Value) (l : List (Nat × List UInt8)) : Prop := L.length = l.length ∧ ∀ (i : Nat) (v : Value) (c : Nat × List UInt8), L[i]? = some v → l[i]? = some c → Tk w o q v c
theorem Tks.nil (w : World) (o : Own) (q : Nat) : Tks w o q [] [] := ⟨rfl, fun i v c h => by simp at h⟩
theorem Tks.step {l : List (Nat × List UInt8)} (h : Tks w o q L l) (s : Step K w o w' o') (hk : ∀ b cs, Blk w b 25 cs → ¬ K b) : Tks w' o' q L l := ⟨h.1, fun i v c h1 h2 => (h.2 i v c h1 h2).step s hk⟩
theorem Tks.push {l : List (Nat × List UInt8)} (h : Tks w o q L l) {v : Value} {c : Nat × List UInt8} (hv : Tk w o q v c) : Tks w o q (L ++ [v]) (l ++ [c]) := by
  refine ⟨by simp [h.1], fun i u d h1 h2 => ?_⟩
  by_cases hi : i < L.length
  · rw [List.getElem?_append_left hi] at h1
    rw [List.getElem?_append_left (by rw [← h.1]; exact hi)] at h2
    exact h.2 i u d h1 h2
  · rw [List.getElem?_append_right (by omega)] at h1
    rw [List.getElem?_append_right (by rw [← h.1]; omega), ← h.1] at h2
    cases hj : i - L.length with
    | zero => rw [hj] at h1 h2; simp at h1 h2; subst h1; subst h2; exact hv
    | succ n => rw [hj] at h1; simp at h1
theorem RG.notB (A : RG w o p q bs k x L) : ∀ b cs, Blk w b 25 cs → ¬ PQ p q b := fun b cs hb h => by
  rcases h with h | h
  · subst h
    obtain ⟨a, c, h1, _⟩ := A.rd
    have : some (Obj.cells cs.toArray 25) = some (Obj.cells _ 100) := hb.symm.trans h1
    cases this
  · subst h
    obtain ⟨la, lc, h1, _⟩ := A.mem
    have : some (Obj.cells cs.toArray 25) = some (Obj.cells _ 68) := hb.symm.trans h1
    cases this
def PtR (w : World) (o : Own) (p q : Nat) (s : RS) (f : Fr) (l : List (Nat × List UInt8)) (e : Ending) (w' : World) : Prop :=
  e = .returned (.tuple #[]) ∧ ∃ o' x' L', Step (PQ p q) w o w' o' ∧ RG w' o' p q s.1 s.2 x' L' ∧ Tks w' o' q L' l ∧ x'.r = f
theorem Q2y (A : RG w o p q bs k x L) (ok : Tags w o) (hL : L.length < 50) {i t : Nat} (ht : Blk w t (toT i) [toV q i]) (tt : o t = none) {Φ : World → Prop}
    (hΦ : ∀ w' o' v, Step (PQ p q) w o w' o' → RG w' o' p q (bytesR 4000 (bs, k)).2.1 (bytesR 4000 (bs, k)).2.2 x (L ++ [v]) → Tk w' o' q v (i, (bytesR 4000 (bs, k)).1) → Φ w') :
    Calls Try.prog 42 #[.pointer (some (blk p)), .int .i64 4000] w fun ee9 ww10 => ∃ (bytes8a : Option Addr) (bytes8n bytes8c : Nat), ee9 = .returned (.slice bytes8a bytes8n bytes8c) ∧
      ∀ (ww11 : World) (q12 : Nat), Ext no ww10 ww11 → Blk ww11 q12 25 [.slice none 0 0] → ww10.heap.size ≤ q12 → q12 < ww11.heap.size →
      Q01 ww11 ((blk q12).add 0) ∧
      thenW (ww11.setCell ((blk q12).add 0) (.slice bytes8a bytes8n bytes8c)) fun ww13 => Blk ww13 t (toT i) [toV q i] ∧
      ∃ (later15a : Option Addr) (later15n later15c : Nat), ww13.cell? ((blk q).add 21) = some (.slice later15a later15n later15c) ∧
      ∀ (ww16 : World) (q17 : Nat), Ext no ww13 ww16 → Blk ww16 q17 1 [.func (.func (toF i)) #[] #[.pointer (some (blk q12)), .pointer (some (blk t))]] → ww13.heap.size ≤ q17 → q17 < ww16.heap.size →
      Blk ww16 t (toT i) [toV q i] ∧ ww16.cell? ((blk q).add 21) = some (.slice later15a later15n later15c) ∧
      ∃ (a18a : Option Addr) (a18n a18c : Nat) (ww19 : World), (Builtin.append_ #[66, 66] 66 #[.slice later15a later15n later15c, .slice (some (blk q17)) 1 1]).run Try.prog ww16 = .ok (.slice a18a a18n a18c) ww19 ∧ Blk ww19 t (toT i) [toV q i] ∧
      Q01 ww19 (((blk q).add 21).add 0) ∧
      thenW (ww19.setCell (((blk q).add 21).add 0) (.slice a18a a18n a18c)) Φ := by
  refine (Q1z A.rd A.fl (m := 4000) (by decide)).mono fun e w10 ⟨xa, xc, he, hO, hr, X10⟩ => ⟨_, _, _, he, fun w11 q12 X11 b11 hq12 hq12' => ?_⟩
  have hl := Q18 4000 (bs, k)
  obtain ⟨s10, A10⟩ := A.read ok X10 hr hl.1
  have hrow : Row w10 (grow w o) xa (bytesV (bytesR 4000 (bs, k)).1) := Row.fresh hO.row fun ad ha => (hO.fr ad ha).1
  have s11 := (Step.of_no X11 s10.ok).tag (p := q12) (j := q12) hq12 hq12'
  have z10 := X10.size
  have z11 := X11.size
  have hqlt := A.lt
  have A11 := A10.far s11 X11 (fun b hb => hb.elim) id
  refine ⟨b11.cani 0 rfl rfl, Q00 fun w13 e13 => ?_⟩
  have X13 : Ext (fun b => b = q12) w11 w13 := (Ext.refl (fun b => b = q12) w11).x_set (q := q12) (i := 0) rfl (.inl rfl) e13
  have s13 : Step (fun j => j = q12) w11 _ w13 _ := Step.of_ext X13 s11.ok fun b hb _ => by subst hb; exact Q0V
  have A13 := A11.far s13 X13 (fun b hb => by omega) (fun e => by omega)
  have b13 : Blk w13 q12 25 [.slice xa (bytesR 4000 (bs, k)).1.length xc] := b11.seti 0 rfl e13
  have t13 := (s13.own b11.lt).trans (show _ = some q12 from Q0V)
  obtain ⟨la, lc, bq, gq, _⟩ := id A13.mem
  obtain ⟨ht10, tt10⟩ := free_of ht tt s10
  obtain ⟨ht11, tt11⟩ := free_of ht10 tt10 s11
  obtain ⟨ht13, tt13⟩ := free_of ht11 tt11 s13
  refine ⟨ht13, la, _, lc, bq.celli 21 rfl rfl, fun w16 q17 X16 b16 hq17 hq17' => ?_⟩
  have s16 := Step.of_no X16 s13.ok
  have A16 := A13.no s16 X16
  have bq16 := s16.blk bq A13.tq id
  have gq16 := gq.step s16 id
  have hc16 : w16.cell? ((blk q).add 21) = some (.slice la L.length lc) := bq16.celli 21 rfl rfl
  obtain ⟨ht16, tt16⟩ := free_of ht13 tt13 s16
  obtain ⟨a', c', w19, hr19, hX19, hcan, hfin⟩ := A16.later s16.ok (by omega) rfl b16 hc16
  have hti : toT i ≠ 1 := by
    match i with
    | 0 => decide
    | 1 => decide
    | n + 2 => exact (by decide : (63 : Nat) ≠ 1)
  have ht19 : Blk w19 t (toT i) [toV q i] := ht16.ext hX19 fun ⟨ad, ha, e⟩ => gq16.ne ht16 hti ad ha e.symm
  refine ⟨ht16, hc16, a', _, c', w19, hr19, ht19, hcan, Q00 fun w20 e20 => ?_⟩
  obtain ⟨o20, s20, A20⟩ := hfin w20 e20
  obtain ⟨ht20, tt20⟩ := free_of ht16 tt16 s20
  have hS : Step (PQ p q) w o w20 o20 := ((((s10.mono fun j hj _ => (.inl hj : PQ p q j)).trans s11.none).trans' s13 fun j hj => .inr (by rw [hj]; omega)).trans s16.none).trans (s20.mono fun j hj _ => .inr hj)
  have b16' := s16.blk b13 t13 id
  have t16 := (s16.own b13.lt).trans t13
  refine hΦ w20 o20 _ hS A20 ⟨q12, t, xa, xc, rfl, s20.blk b16' t16 (fun e => by omega), by rw [s20.own b16'.lt]; exact t16, (((hrow.step s11).step s13).step s16).step s20, hO.le, by have := A.fl; have h2 : (bytesR 4000 (bs, k)).1.length ≤ bs.length := hl.2; show (bytesR 4000 (bs, k)).1.length < 1000000; omega, ht20, tt20⟩
theorem Q29 (A : RG w o p q bs k x L) (ok : Tags w o) (hL : L.length < 50) {l : List (Nat × List UInt8)} (T : Tks w o q L l) {i : Nat} {to : Addr} (hi : i < 2) (hto : toV q i = .pointer (some to)) :
    Calls Try.prog 91 #[.pointer (some (blk q)), .pointer (some to)] w (PtR w o p q (bytesR 4000 (bs, k)).2 x.r (l ++ [(i, (bytesR 4000 (bs, k)).1)])) := by
  refine (Q0l.go _ _ (R := fun v w' => v = .tuple #[] ∧ PtR w o p q (bytesR 4000 (bs, k)).2 x.r (l ++ [(i, (bytesR 4000 (bs, k)).1)]) (.returned (.tuple #[])) w') ?_).mono fun e w' ⟨v, he, hv, h⟩ => by rw [he, hv]; exact h
  unfold Q0l.N
  intro w3 q4 X3 b3 hq4 hq4'
  have s3 := Step.of_no X3 ok
  have A3 := A.no s3 X3
  have T3 := T.step s3 fun _ _ _ => id
  have ht : Blk w3 q4 (toT i) [toV q i] := by
    rw [hto]
    match i, hi with
    | 0, _ => exact b3
    | 1, _ => exact b3
  have hF : toF i = 97 := match i, hi with | 0, _ => rfl | 1, _ => rfl
  refine ⟨_, rfl, _, A3.ptr, ?_⟩
  have key := Q2y A3 s3.ok hL ht (grow_ge hq4) (Φ := fun w' => (.tuple #[] : Value) = .tuple #[] ∧ PtR w o p q (bytesR 4000 (bs, k)).2 x.r (l ++ [(i, (bytesR 4000 (bs, k)).1)]) (.returned (.tuple #[])) w') fun w' o' v s R tk => ⟨rfl, rfl, o', x, L ++ [v], s3.none.trans s, R, (T3.step s A3.notB).push tk, rfl⟩
  rw [hF] at key
  refine key.mono fun e w10 ⟨a, n, c, he, h⟩ => ⟨a, n, c, he, fun w11 q12 X b h1 h2 => ?_⟩
  obtain ⟨c1, h⟩ := h w11 q12 X b h1 h2
  obtain ⟨_, la, ln, lc, hc, h⟩ := h
  refine ⟨c1, la, ln, lc, hc, fun w16 q17 X b h1 h2 => ?_⟩
  obtain ⟨_, _, a', n', c', w19, hr, _, hcan, h⟩ := h w16 q17 X b h1 h2
  exact ⟨a', n', c', w19, hr, hcan, h⟩
theorem RG.set (A : RG w o p q bs k x L) (ok : Tags w o) {x' : FP} {ad : Addr} {i : Nat} {v : Value} (ha : ad = ⟨q, i, none⟩) (hc : ∀ la lc, (rgC p x la L.length lc).set i v = rgC p x' la L.length lc) (hi : i < 22) (hx : x'.r.e = x.r.e ∧ x'.ea = x.ea ∧ x'.r.f = x.r.f ∧ x'.fa = x.fa ∧ x'.r.v = x.r.v ∧ x'.va = x.va) :
    Q01 w ad ∧ ∀ w', w' = w.setCell ad v → Step (fun j => j = q) w o w' (grow w o) ∧ RG w' (grow w o) p q bs k x' L := by
  obtain ⟨la, lc, bq, _, _⟩ := id A.mem
  have hl : (rgC p x la L.length lc).length = 22 := rfl
  refine ⟨bq.cani i ha (List.getElem?_eq_getElem (by omega)), fun w' e => ?_⟩
  have X : Ext (fun b => b = q) w w' := (Ext.refl (fun b => b = q) w).x_set (q := q) (i := i) ha (.inl rfl) e
  have b' := bq.seti i ha e
  rw [hc] at b'
  have s : Step (fun j => j = q) w o w' (grow w o) := Step.of_ext X ok fun b hb _ => by subst hb; exact A.tq
  obtain ⟨h1, h2, h3, h4, h5, h6⟩ := hx
  exact A.put ok X bq b' ⟨by rw [h1, h2]; exact A.ok.e.step s, by rw [h3, h4]; exact A.ok.f.step s, by rw [h5, h6]; exact A.ok.v.step s⟩
theorem Q1P (A : RG w o p q bs k x L) (ok : Tags w o) (hL : L.length < 50) {l : List (Nat × List UInt8)} (T : Tks w o q L l) :
    Calls Try.prog 78 #[.pointer (some (blk q))] w (PtR w o p q (bytesR 4000 (countR 7 (bs, k)).2).2 { x.r with who := (countR 7 (bs, k)).1 } (l ++ [(2, (bytesR 4000 (countR 7 (bs, k)).2).1)])) := by
  refine (Q0c.go _ (R := fun v w' => v = .tuple #[] ∧ PtR w o p q (bytesR 4000 (countR 7 (bs, k)).2).2 { x.r with who := (countR 7 (bs, k)).1 } (l ++ [(2, (bytesR 4000 (countR 7 (bs, k)).2).1)]) (.returned (.tuple #[])) w') ?_).mono fun e w' ⟨v, he, hv, h⟩ => by rw [he, hv]; exact h
  unfold Q0c.N
  intro w2 q3 X2 b2 hq3 hq3'
  have s2 := Step.of_no X2 ok
  have A2 := A.no s2 X2
  have T2 := T.step s2 fun _ _ _ => id
  have tq3 : grow w o q3 = none := grow_ge hq3
  have c2 : w2.cell? (blk q3) = some (.pointer (some (blk q))) := b2.celli 0 rfl rfl
  refine ⟨_, c2, _, c2, _, rfl, _, A2.ptr, fun w4 X4 => ?_⟩
  have s4 := Step.of_no X4 s2.ok
  have A4 := A2.no s4 X4
  have T4 := T2.step s4 fun _ _ _ => id
  obtain ⟨b4, t4⟩ := free_of b2 tq3 s4
  refine (W.Count_spec A4.rd A4.fl (m := 7) (by decide)).mono fun e w14 ⟨he, hr, X14⟩ => ⟨_, he, ?_⟩
  obtain ⟨s14, A14⟩ := A4.read s4.ok X14 hr (W.countR_len 7 (bs, k))
  have T14 := T4.step s14 fun b cs hb h => A4.notB b cs hb (.inl h)
  obtain ⟨b14, t14⟩ := free_of b4 t4 s14
  refine ⟨b14.celli 0 rfl rfl, _, rfl, ?_⟩
  obtain ⟨can17, set17⟩ := A14.set s14.ok (x' := { x with r := { x.r with who := (countR 7 (bs, k)).1 } }) (ad := (((blk q).add 1).add 17).add 0) (i := 18) (v := .int .i64 (countR 7 (bs, k)).1) rfl (fun _ _ => rfl) (by decide) ⟨rfl, rfl, rfl, rfl, rfl, rfl⟩
  refine ⟨can17, Q00 fun w17 e17 => ?_⟩
  obtain ⟨s17, A17⟩ := set17 w17 e17
  have T17 := T14.step s17 fun b cs hb h => A14.notB b cs hb (.inr h)
  obtain ⟨b17, t17⟩ := free_of b14 t14 s17
  have c17 : w17.cell? (blk q3) = some (.pointer (some (blk q))) := b17.celli 0 rfl rfl
  refine ⟨_, c17, _, rfl, _, A17.ptr, ?_⟩
  have S17 : Step (PQ p q) w o w17 _ := ((s2.none.trans s4.none).trans (s14.mono fun j hj _ => (.inl hj : PQ p q j))).trans (s17.mono fun j hj _ => .inr hj)
  have key := Q2y A17 s17.ok hL (i := 2) b17 t17 (Φ := fun w' => (.tuple #[] : Value) = .tuple #[] ∧ PtR w o p q (bytesR 4000 (countR 7 (bs, k)).2).2 { x.r with who := (countR 7 (bs, k)).1 } (l ++ [(2, (bytesR 4000 (countR 7 (bs, k)).2).1)]) (.returned (.tuple #[])) w') fun w' o' v s R tk => ⟨rfl, rfl, o', _, L ++ [v], S17.trans s, R, (T17.step s A17.notB).push tk, rfl⟩
  refine key.mono fun e w25 ⟨a, n, c, he, h⟩ => ⟨a, n, c, he, fun w26 q27 X b h1 h2 => ?_⟩
  obtain ⟨c1, h⟩ := h w26 q27 X b h1 h2
  refine ⟨c1, Q00 fun w28 e28 => ?_⟩
  subst e28
  obtain ⟨b28, la, ln, lc, hc, h⟩ := h
  have c28 : World.cell? _ (blk q3) = some (.pointer (some (blk q))) := b28.celli 0 rfl rfl
  refine ⟨_, c28, _, c28, _, rfl, la, ln, lc, hc, fun w37 q38 X b h1 h2 => ?_⟩
  obtain ⟨b37, hc37, a', n', c', w43, hr, b43, hcan, h⟩ := h w37 q38 X b h1 h2
  have c37 : World.cell? _ (blk q3) = some (.pointer (some (blk q))) := b37.celli 0 rfl rfl
  exact ⟨hc37, c37, c37, a', n', c', w43, hr, b43.celli 0 rfl rfl, _, rfl, hcan, h⟩
theorem Q2X (A : RG w o p q bs k x L) (ok : Tags w o) (hL : L.length < 50) {l : List (Nat × List UInt8)} (T : Tks w o q L l) :
    Calls Try.prog 77 #[.pointer (some (blk q))] w (PtR w o p q (bytesR 4000 (bs, k)).2 x.r (l ++ [(0, (bytesR 4000 (bs, k)).1)])) := by
  refine (Q0q.go _ (R := fun v w' => v = .tuple #[] ∧ PtR w o p q (bytesR 4000 (bs, k)).2 x.r (l ++ [(0, (bytesR 4000 (bs, k)).1)]) (.returned (.tuple #[])) w') ?_).mono fun e w' ⟨v, he, hv, h⟩ => by rw [he, hv]; exact h
  unfold Q0q.N
  exact ⟨_, rfl, (Q29 A ok hL T (i := 0) (by decide) rfl).mono fun e w' h => ⟨h.1, rfl, rfl, h.2⟩⟩
theorem Q3H (A : RG w o p q bs k x L) (ok : Tags w o) (hL : L.length < 49) {l : List (Nat × List UInt8)} (T : Tks w o q L l) :
    Calls Try.prog 80 #[.pointer (some (blk q))] w (PtR w o p q (bytesR 4000 (bytesR 4000 (bs, k)).2).2 x.r (l ++ [(0, (bytesR 4000 (bs, k)).1)] ++ [(1, (bytesR 4000 (bytesR 4000 (bs, k)).2).1)])) := by
  refine (Q0o.go _ (R := fun v w' => v = .tuple #[] ∧ PtR w o p q (bytesR 4000 (bytesR 4000 (bs, k)).2).2 x.r (l ++ [(0, (bytesR 4000 (bs, k)).1)] ++ [(1, (bytesR 4000 (bytesR 4000 (bs, k)).2).1)]) (.returned (.tuple #[])) w') ?_).mono fun e w' ⟨v, he, hv, h⟩ => by rw [he, hv]; exact h
  unfold Q0o.N
  refine (Q2X A ok (by omega) T).mono fun e w' ⟨he, o', x', L', s, A', T', hx⟩ => ⟨he, _, rfl, ?_⟩
  have hl' := T'.1
  have hl := T.1
  rw [List.length_append] at hl'
  refine (Q29 A' s.ok (by simp at hl'; omega) T' (i := 1) (by decide) rfl).mono fun e w2 ⟨he, o2, x2, L2, s2, A2, T2, hx2⟩ => ⟨he, rfl, rfl, o2, x2, L2, s.trans s2, A2, T2, hx2.trans hx⟩
theorem Q39 (A : RG w o p q bs k x L) (ok : Tags w o) (hL : L.length < 49) {l : List (Nat × List UInt8)} (T : Tks w o q L l) :
    Calls Try.prog 79 #[.pointer (some (blk q))] w (PtR w o p q (numR (bytesR 4000 (countR 7 (bs, k)).2).2).2 { x.r with who := (countR 7 (bs, k)).1, sg := (numR (bytesR 4000 (countR 7 (bs, k)).2).2).1 } (l ++ [(2, (bytesR 4000 (countR 7 (bs, k)).2).1)])) := by
  refine (Q0k.go _ (R := fun v w' => v = .tuple #[] ∧ PtR w o p q (numR (bytesR 4000 (countR 7 (bs, k)).2).2).2 { x.r with who := (countR 7 (bs, k)).1, sg := (numR (bytesR 4000 (countR 7 (bs, k)).2).2).1 } (l ++ [(2, (bytesR 4000 (countR 7 (bs, k)).2).1)]) (.returned (.tuple #[])) w') ?_).mono fun e w' ⟨v, he, hv, h⟩ => by rw [he, hv]; exact h
  unfold Q0k.N
  refine (Q1P A ok (by omega) T).mono fun e w3 ⟨he, o3, x3, L3, s3, A3, T3, hx⟩ => ⟨he, _, rfl, _, A3.ptr, ?_⟩
  refine (W.RNum_spec A3.rd A3.fl).mono fun e w9 ⟨he, hr, X9⟩ => ⟨_, he, ?_⟩
  obtain ⟨s9, A9⟩ := A3.read s3.ok X9 hr (W.numR_len _)
  have T9 := T3.step s9 fun b cs hb h => A3.notB b cs hb (.inl h)
  obtain ⟨can, set⟩ := A9.set s9.ok (x' := { x3 with r := { x3.r with sg := (numR (bytesR 4000 (countR 7 (bs, k)).2).2).1 } }) (ad := (((blk q).add 1).add 19).add 0) (i := 20) (v := .int .u64 (numR (bytesR 4000 (countR 7 (bs, k)).2).2).1) rfl (fun _ _ => rfl) (by decide) ⟨rfl, rfl, rfl, rfl, rfl, rfl⟩
  refine ⟨can, Q00 fun w10 e10 => ?_⟩
  obtain ⟨s10, A10⟩ := set w10 e10
  refine ⟨rfl, rfl, _, _, L3, (s3.trans (s9.mono fun j hj _ => (.inl hj : PQ p q j))).trans (s10.mono fun j hj _ => .inr hj), A10, T9.step s10 fun b cs hb h => A9.notB b cs hb (.inr h), ?_⟩
  dsimp only
  rw [hx]
end
open W (OwnB Rd numR countR doneR)
def kdS (n : Nat) (s : RS) : RS :=
  if n = 1 then (bytesR 4000 s).2 else if n = 2 then (bytesR 4000 (countR 7 s).2).2 else if n = 3 then (numR (bytesR 4000 (countR 7 s).2).2).2 else if n = 4 then (bytesR 4000 (bytesR 4000 s).2).2 else s
def kdF (n : Nat) (f : Fr) (s : RS) : Fr :=
  if n = 2 then { f with who := (countR 7 s).1 } else if n = 3 then { f with who := (countR 7 s).1, sg := (numR (bytesR 4000 (countR 7 s).2).2).1 } else f
def kdL (n : Nat) (s : RS) : List (Nat × List UInt8) :=
  if n = 1 then [(0, (bytesR 4000 s).1)] else if n = 2 then [(2, (bytesR 4000 (countR 7 s).2).1)] else if n = 3 then [(2, (bytesR 4000 (countR 7 s).2).1)] else if n = 4 then [(0, (bytesR 4000 s).1), (1, (bytesR 4000 (bytesR 4000 s).2).1)] else []
def looks : List (Nat × List UInt8) → Fr → Fr × Int
  | [], f => (f, 0)
  | c :: r, f => if (f.put c).2 = 0 then looks r (f.put c).1 else (Fr.zero, (f.put c).2)
def frStart (b : List UInt8) : Fr := kdF (countR 4 (b, 0)).1 { Fr.zero with kd := (countR 4 (b, 0)).1 } (countR 4 (b, 0)).2
def frLooks (b : List UInt8) : Fr × Int := looks (kdL (countR 4 (b, 0)).1 (countR 4 (b, 0)).2) (frStart b)
def frDone (b : List UInt8) : Int := doneR (kdS (countR 4 (b, 0)).1 (countR 4 (b, 0)).2)
def readW (b : List UInt8) : Fr × Int :=
  if frDone b ≠ 0 then (Fr.zero, frDone b) else if (frLooks b).2 ≠ 0 then (Fr.zero, (frLooks b).2) else if frOK (frLooks b).1 = true then ((frLooks b).1, 0) else (Fr.zero, 4)
section
variable {w w' w1 : World} {o o' o1 : Own} {p q b t : Nat} {bs : List UInt8} {k : Int} {x : FP} {L : List Value} {K : Nat → Prop}
theorem Q4g (A : RG w o p q bs k x []) (ok : Tags w o) (n : Nat) :
    Calls Try.prog 59 #[.pointer (some (blk q)), .int .i64 n] w fun e w' => w' = w ∧ ∃ kk ff gg, e = .returned (.func (.func kk) ff gg) ∧ enters Try.prog kk = true ∧ Calls Try.prog kk (ff.toList ++ ([] : List Value) ++ gg.toList).toArray w (PtR w o p q (kdS n (bs, k)) (kdF n x.r (bs, k)) (kdL n (bs, k))) := by
  refine (Q0n.go _ _ (R := fun v w' => w' = w ∧ ∃ kk ff gg, v = .func (.func kk) ff gg ∧ enters Try.prog kk = true ∧ Calls Try.prog kk (ff.toList ++ ([] : List Value) ++ gg.toList).toArray w (PtR w o p q (kdS n (bs, k)) (kdF n x.r (bs, k)) (kdL n (bs, k)))) ?_).mono fun e w' ⟨v, he, hw, kk, ff, gg, hv, h⟩ => ⟨hw, kk, ff, gg, by rw [he, hv], h⟩
  unfold Q0n.N
  have T0 := Tks.nil w o q
  refine ⟨fun h => ⟨rfl, _, _, _, rfl, by kernel_rfl, ?_⟩, fun h1 => ⟨fun h => ⟨rfl, _, _, _, rfl, by kernel_rfl, ?_⟩, fun h2 => ⟨fun h => ⟨rfl, _, _, _, rfl, by kernel_rfl, ?_⟩, fun h3 => ⟨fun h => ⟨rfl, _, _, _, rfl, by kernel_rfl, ?_⟩, fun h4 => ⟨rfl, _, _, _, rfl, by kernel_rfl, ?_⟩⟩⟩⟩⟩
  · obtain rfl : n = 1 := by omega
    exact Q2X A ok (by decide) T0
  · obtain rfl : n = 2 := by omega
    exact Q1P A ok (by decide) T0
  · obtain rfl : n = 3 := by omega
    exact Q39 A ok (by decide) T0
  · obtain rfl : n = 4 := by omega
    exact Q3H A ok (by decide) T0
  · have e1 : kdS n (bs, k) = (bs, k) := by unfold kdS; rw [if_neg (by omega), if_neg (by omega), if_neg (by omega), if_neg (by omega)]
    have e2 : kdF n x.r (bs, k) = x.r := by unfold kdF; rw [if_neg (by omega), if_neg (by omega)]
    have e3 : kdL n (bs, k) = [] := by unfold kdL; rw [if_neg (by omega), if_neg (by omega), if_neg (by omega), if_neg (by omega)]
    rw [e1, e2, e3]
    refine (Q0i.go (R := fun v w' => v = .tuple #[] ∧ PtR w o p q (bs, k) x.r [] (.returned (.tuple #[])) w') ?_).mono fun e w' ⟨v, he, hv, h⟩ => by rw [he, hv]; exact h
    unfold Q0i.N
    exact ⟨rfl, rfl, o, x, [], Step.refl _ ok, A, T0, rfl⟩
theorem Q3S (n : Nat) (s : RS) : (kdL n s).length < 50 := by
  unfold kdL
  repeat' split
  all_goals (simp only [List.length_cons, List.length_nil]; decide)
theorem Q4y (b : List UInt8) : (readV b).1.length ≤ 8 := by
  by_cases h : (readV b).2 = 0
  · exact Q1Y (Q3P h).1
  · rw [Q3C h]; exact Nat.zero_le _
theorem put_v (f : Fr) (c : Nat × List UInt8) (h : f.v.length ≤ 8) : (f.put c).1.v.length ≤ 8 := by
  obtain ⟨i, c⟩ := c
  match i with
  | 0 => exact h
  | 1 => exact h
  | n + 2 => exact Q4y c
theorem looks_v : ∀ (l : List (Nat × List UInt8)) (f : Fr), f.v.length ≤ 8 → (looks l f).1.v.length ≤ 8
  | [], f, h => h
  | c :: r, f, h => by
    unfold looks
    split
    · exact looks_v r _ (put_v f c h)
    · exact Nat.zero_le _
theorem start_v (b : List UInt8) : (frStart b).v.length ≤ 8 := by
  unfold frStart kdF
  repeat' split
  all_goals exact Nat.zero_le _
def WhR (w : World) (o : Own) (p q : Nat) (r : Fr × Int) (e : Ending) (w' : World) : Prop :=
  ∃ o', Step (PQ p q) w o w' o' ∧ ((r.2 = 0 ∧ ∃ x' : FP, e = .returned x'.V ∧ x'.r = r.1 ∧ x'.own w' o') ∨ (r.2 ≠ 0 ∧ e = .panicked [kindP r.2]))
theorem Q3I {b : List UInt8} (A : RG w o p q b 0 FP.zero []) (ok : Tags w o) : Calls Try.prog 32 #[.pointer (some (blk q))] w (WhR w o p q (readW b)) := by
  refine (Q1W.ok _ (Φ := fun ch w' => (readW b).2 ≠ 0 ∧ ch = [kindP (readW b).2] ∧ ∃ o', Step (PQ p q) w o w' o') (R := fun v w' => (readW b).2 = 0 ∧ ∃ o' x', Step (PQ p q) w o w' o' ∧ v = FP.V x' ∧ x'.r = (readW b).1 ∧ x'.own w' o') ?_).mono fun e w' h => ?_
  rotate_left
  · rcases h with ⟨v, he, hz, o', x', s, hv, hx, hr⟩ | ⟨ch, he, hz, hc, o', s⟩
    · exact ⟨o', s, .inl ⟨hz, x', by rw [he, hv], hx, hr⟩⟩
    · exact ⟨o', s, .inr ⟨hz, by rw [he, hc]⟩⟩
  unfold Q1W.M
  refine Q00 fun w2 e2 => ?_
  have X2 : Ext no w w2 := by subst e2; exact (Ext.refl _ _).alloc _
  have b2 : Blk w2 w.heap.size 38 FP.zero.C := by subst e2; exact Blk.new _ _ _
  obtain ⟨z, hz⟩ : ∃ z, w.heap.size = z := ⟨_, rfl⟩
  rw [hz] at b2 ⊢
  have s2 := (Step.of_no X2 ok).tag (p := z) (j := z) (by omega) b2.lt
  have A2 := A.far s2 X2 (fun b hb => hb.elim) id
  have hqz : q < z := by have := A.lt; omega
  have t2 : tag (grow w o) z z z = some z := Q0V
  refine ⟨_, A2.ptr, ?_⟩
  refine (W.Count_spec A2.rd A2.fl (m := 4) (by decide)).mono fun e w7 ⟨he, hr, X7⟩ => .inl ⟨_, he, ?_⟩
  obtain ⟨s7, A7⟩ := A2.read s2.ok X7 hr (W.countR_len 4 (b, 0))
  obtain ⟨can, set⟩ := A7.set s7.ok (x' := { FP.zero with r := { Fr.zero with kd := (countR 4 (b, 0)).1 } }) (ad := (((blk q).add 1).add 0).add 0) (i := 1) (v := .int .i64 (countR 4 (b, 0)).1) rfl (fun _ _ => rfl) (by decide) ⟨rfl, rfl, rfl, rfl, rfl, rfl⟩
  refine ⟨can, Q00 fun w10 e10 => ?_⟩
  obtain ⟨s10, A10⟩ := set w10 e10
  obtain ⟨la0, lc0, bq10, _, _⟩ := id A10.mem
  refine ⟨_, bq10.celli 1 rfl rfl, ?_⟩
  refine (Q4g A10 s10.ok (countR 4 (b, 0)).1).mono fun e w15 ⟨hw, kk, ff, gg, he, hen, hcall⟩ => .inl ⟨kk, ff, gg, he, ?_⟩
  subst hw
  rw [hen, cond_true]
  refine hcall.mono fun e w18 ⟨he, o18, x18, L, s18, A18, T18, hx18⟩ => .inl ⟨he, ?_⟩
  have hx18 : x18.r = frStart b := hx18
  have A18 : RG w18 o18 p q (kdS (countR 4 (b, 0)).1 (countR 4 (b, 0)).2).1 (kdS (countR 4 (b, 0)).1 (countR 4 (b, 0)).2).2 x18 L := A18
  have T18 : Tks w18 o18 q L (kdL (countR 4 (b, 0)).1 (countR 4 (b, 0)).2) := T18
  have hLl : L.length < 50 := by rw [T18.1]; exact Q3S _ _
  have S18 : Step (PQ p q) w o w18 o18 := (((s2.none.trans (s7.mono fun j hj _ => (.inl hj : PQ p q j))).trans (s10.mono fun j hj _ => .inr hj)).trans s18)
  have bz7 := s7.blk b2 t2 (fun e => by have := A.pq; omega)
  have tz7 := (s7.own b2.lt).trans t2
  have bz10 := s10.blk bz7 tz7 (fun e => by omega)
  have tz10 := (s10.own bz7.lt).trans tz7
  have hzPQ : ¬ PQ p q z := fun e => by have := A.pq; rcases e with e | e <;> omega
  have bz18 := s18.blk bz10 tz10 hzPQ
  have tz18 := (s18.own bz10.lt).trans tz10
  refine ⟨_, A18.ptr, ?_⟩
  refine (W.Done_spec A18.rd).mono fun e w24 ⟨he, hw⟩ => .inl ⟨_, he, ?_⟩
  subst hw
  refine (Q1C _ w24).mono fun e w27 h => ?_
  rcases h with ⟨hk, he, hw⟩ | ⟨hk, he, hw⟩
  rotate_left
  · subst hw
    have hd : frDone b ≠ 0 := hk
    have hr : readW b = (Fr.zero, frDone b) := by unfold readW; rw [if_pos hd]
    rw [hr]
    exact .inr ⟨_, he, hd, rfl, _, S18⟩
  subst hw
  have hd : frDone b = 0 := hk
  obtain ⟨la, lc, hcl, _⟩ := A18.laterC
  refine .inl ⟨he, la, _, lc, hcl, ?_⟩
  refine ⟨fun m vs w1 => ∃ (t : Nat) (o1 : Own) (x1 : FP), vs = [.int .i64 t] ∧ m + t = L.length ∧ Step (PQ p q) w o w1 o1 ∧ RG w1 o1 p q (kdS (countR 4 (b, 0)).1 (countR 4 (b, 0)).2).1 (kdS (countR 4 (b, 0)).1 (countR 4 (b, 0)).2).2 x1 L ∧ Tks w1 o1 q L (kdL (countR 4 (b, 0)).1 (countR 4 (b, 0)).2) ∧
    w1.cell? ((blk q).add 21) = some (.slice la L.length lc) ∧ Blk w1 z 38 FP.zero.C ∧ o1 z = some z ∧ frLooks b = looks ((kdL (countR 4 (b, 0)).1 (countR 4 (b, 0)).2).drop t) x1.r, L.length, ⟨0, o18, x18, rfl, rfl, S18, A18, T18, hcl, bz18, tz18, by rw [hx18]; rfl⟩, ?_⟩
  rintro m w34 i ⟨t, o34, x34, hv, hm, S34, A34, T34, hc34, bz34, tz34, hlk⟩
  cases hv
  by_cases ht : t < L.length
  · rw [show decide ((t : Int) < (L.length : Int)) = true by simpa using ht, cond_true]
    obtain ⟨la', lc', hc', hrow⟩ := A34.laterC
    have := hc34.symm.trans hc'
    cases this
    have hg : L[t]? = some L[t] := List.getElem?_eq_getElem ht
    have hlen := T34.1
    have hgl : (kdL (countR 4 (b, 0)).1 (countR 4 (b, 0)).2)[t]? = some ((kdL (countR 4 (b, 0)).1 (countR 4 (b, 0)).2)[t]'(by omega)) := List.getElem?_eq_getElem (by omega)
    obtain ⟨ad, had, hcell⟩ := hrow t _ hg
    subst had
    have hTk := T34.2 t _ _ hg hgl
    obtain ⟨kk, ff, gg, hv, hen, hcall⟩ := Q4h A34 S34.ok hTk
    refine ⟨by omega, by omega, kk, ff, gg, by rw [Int.toNat_natCast, Nat.mul_one, hcell, hv], ?_⟩
    rw [hen, cond_true]
    have hdrop : (kdL (countR 4 (b, 0)).1 (countR 4 (b, 0)).2).drop t = (kdL (countR 4 (b, 0)).1 (countR 4 (b, 0)).2)[t]'(by omega) :: (kdL (countR 4 (b, 0)).1 (countR 4 (b, 0)).2).drop (t + 1) := List.drop_eq_getElem_cons (by omega)
    rw [hdrop] at hlk
    generalize (kdL (countR 4 (b, 0)).1 (countR 4 (b, 0)).2)[t]'(by omega) = c at *
    refine hcall.mono fun e w38 ⟨o38, x38, s38, A38, ⟨la2, lc2, hca, hcb⟩, h⟩ => ?_
    have hz38 : ¬ (fun j => j = q) z := fun e => by
      have e : z = q := e
      omega
    rcases h with ⟨hk, he, hx⟩ | ⟨hk, he⟩
    · refine .inl ⟨he, m - 1, by omega, t + 1, o38, x38, ?_, by omega, S34.trans (s38.mono fun j hj _ => .inr hj), A38, T34.step s38 fun b cs hb h => A34.notB b cs hb (.inr h), ?_, s38.blk bz34 tz34 hz38, by rw [s38.own bz34.lt]; exact tz34, ?_⟩
      · rw [w64 (by omega) (by omega)]; rfl
      · rw [hc34] at hca; cases hca; exact hcb
      · rw [hlk]
        show (if (x34.r.put c).2 = 0 then _ else _) = _
        rw [if_pos hk, hx]
    · have hl : frLooks b = (Fr.zero, (x34.r.put c).2) := by
        rw [hlk]
        show (if (x34.r.put c).2 = 0 then _ else _) = _
        rw [if_neg hk]
      have hr : readW b = (Fr.zero, (x34.r.put c).2) := by unfold readW; rw [if_neg (by rw [hd]; exact fun h => h rfl), hl, if_pos hk]
      rw [hr]
      exact .inr ⟨_, he, hk, rfl, o38, S34.trans (s38.mono fun j hj _ => .inr hj)⟩
  · rw [show decide ((t : Int) < (L.length : Int)) = false by simp; omega, cond_false]
    have hlen := T34.1
    have hlk : frLooks b = (x34.r, 0) := by rw [hlk, List.drop_eq_nil_of_le (by omega)]; rfl
    obtain ⟨la3, lc3, bq34, _, _⟩ := id A34.mem
    have cells : ∀ {w' : World}, Blk w' q 68 (rgC p x34 la3 L.length lc3) → cellsAt w' ((blk q).add 1) x34.C 0 := fun {w'} bb => ⟨bb.celli 1 rfl rfl, bb.celli 2 rfl rfl, bb.celli 3 rfl rfl, bb.celli 4 rfl rfl, bb.celli 5 rfl rfl, bb.celli 6 rfl rfl, bb.celli 7 rfl rfl, bb.celli 8 rfl rfl, bb.celli 9 rfl rfl, bb.celli 10 rfl rfl, bb.celli 11 rfl rfl, bb.celli 12 rfl rfl, bb.celli 13 rfl rfl, bb.celli 14 rfl rfl, bb.celli 15 rfl rfl, bb.celli 16 rfl rfl, bb.celli 17 rfl rfl, bb.celli 18 rfl rfl, bb.celli 19 rfl rfl, bb.celli 20 rfl rfl, trivial⟩
    refine ⟨_, _, _, _, _, _, _, _, _, _, _, _, _, _, _, _, _, _, _, _, _, _, _, _, _, _, cells bq34, ?_⟩
    have hvl : x34.r.v.length < 1000000 := by
      have h1 := looks_v (kdL (countR 4 (b, 0)).1 (countR 4 (b, 0)).2) (frStart b) (start_v b)
      have h2 : (frLooks b).1.v.length ≤ 8 := h1
      rw [hlk] at h2
      have h2 : x34.r.v.length ≤ 8 := h2
      omega
    have hrd : ¬ frDone b ≠ 0 := by rw [hd]; exact fun h => h rfl
    refine (Q1X A34.ok.at hvl).mono fun e w64 ⟨he, X64⟩ => .inl ⟨_, he, ?_⟩
    have s64 := Step.of_no X64 S34.ok
    have A64 := A34.no s64 X64
    by_cases hok : frOK x34.r = true
    · rw [hok, Bool.not_true, cond_false]
      have bq64 := s64.blk bq34 A34.tq id
      have bz64 := s64.blk bz34 tz34 id
      have tz64 := (s64.own bz34.lt).trans tz34
      refine ⟨_, _, _, _, _, _, _, _, _, _, _, _, _, _, _, _, _, _, _, _, _, _, _, _, _, _, cells bq64, ?_⟩
      refine Q0R (k := 0) bz64 (by show 0 + 0 + 20 ≤ 20; decide) fun w87 X87 b87 => ?_
      have b87' : Blk w87 z 38 x34.C := b87
      have s87 : Step (fun j => j = z) w64 _ w87 _ := Step.of_ext X87 s64.ok fun b hb _ => by subst hb; exact tz64
      have hr : readW b = (x34.r, 0) := by unfold readW; rw [if_neg hrd, hlk, if_neg (fun h => h rfl), if_pos hok]
      rw [hr]
      exact ⟨_, _, _, _, _, _, _, _, _, _, _, _, _, _, _, _, _, _, _, _, _, _, _, _, _, _, ⟨b87'.celli 0 rfl rfl, b87'.celli 1 rfl rfl, b87'.celli 2 rfl rfl, b87'.celli 3 rfl rfl, b87'.celli 4 rfl rfl, b87'.celli 5 rfl rfl, b87'.celli 6 rfl rfl, b87'.celli 7 rfl rfl, b87'.celli 8 rfl rfl, b87'.celli 9 rfl rfl, b87'.celli 10 rfl rfl, b87'.celli 11 rfl rfl, b87'.celli 12 rfl rfl, b87'.celli 13 rfl rfl, b87'.celli 14 rfl rfl, b87'.celli 15 rfl rfl, b87'.celli 16 rfl rfl, b87'.celli 17 rfl rfl, b87'.celli 18 rfl rfl, b87'.celli 19 rfl rfl, trivial⟩,
        rfl, _, x34, (S34.trans s64.none).trans' s87 fun j hj => .inr (by rw [hj]; omega), rfl, rfl, (A34.ok.step s64).step s87⟩
    · have hok : frOK x34.r = false := by simpa using hok
      rw [hok, Bool.not_false, cond_true]
      have hr : readW b = (Fr.zero, 4) := by unfold readW; rw [if_neg hrd, hlk, if_neg (fun h => h rfl), hok]; rfl
      rw [hr]
      exact ⟨by decide, rfl, _, S34.trans s64.none⟩
end
open W (OwnB Rd numR countR doneR)
theorem Q4n (v : Value) (w : World) : (binOp .neq 20 (.iface 33 v) .nilIface).run Try.prog w = .ok (.bool true) w := by
  have h : ∀ d, (Op.equalIn (d + 1) 20 (.iface 33 v) .nilIface).run Try.prog w = .ok false w := fun d => by simp [Op.equalIn, run_underlying' Try.underlying20]
  have h2 : (Op.equal 20 (.iface 33 v) .nilIface).run Try.prog w = .ok false w := h _
  have e : binOp .neq 20 (.iface 33 v) .nilIface = (do pure (.bool (!(← Op.equal 20 (.iface 33 v) .nilIface)))) := rfl
  rw [e]
  simp [h2]
theorem Q1Z (v : Value) (w : World) : (Instr.typeAssert (.iface 33 v) 20 33 false).run Try.prog w = .ok v w := by
  simp [Instr.typeAssert, run_underlying' Try.underlying33]
section
variable {w w' w1 : World} {o o' o1 : Own} {p q z y b t : Nat} {bs : List UInt8} {k : Int} {x : FP} {L : List Value} {K : Nat → Prop}
theorem cellsFr {t : TypeId} (bb : Blk w z t x.C) : cellsAt w (blk z) x.C 0 := ⟨bb.celli 0 rfl rfl, bb.celli 1 rfl rfl, bb.celli 2 rfl rfl, bb.celli 3 rfl rfl, bb.celli 4 rfl rfl, bb.celli 5 rfl rfl, bb.celli 6 rfl rfl, bb.celli 7 rfl rfl, bb.celli 8 rfl rfl, bb.celli 9 rfl rfl, bb.celli 10 rfl rfl, bb.celli 11 rfl rfl, bb.celli 12 rfl rfl, bb.celli 13 rfl rfl, bb.celli 14 rfl rfl, bb.celli 15 rfl rfl, bb.celli 16 rfl rfl, bb.celli 17 rfl rfl, bb.celli 18 rfl rfl, bb.celli 19 rfl rfl, trivial⟩
theorem Q33 (bz : Blk w z 38 x.C) (by_ : Blk w y 33 [.int .i64 k]) (hzy : z ≠ y) (j : Int) :
    CallsD Try.prog 30 #[.pointer (some (blk z)), .pointer (some (blk y))] (.panicking [kindP j]) w fun e u' w' => ∃ v, e = .returned v ∧ settle u' = .returning ∧ Ext (fun b => b = z ∨ b = y) w w' ∧ Blk w' z 38 FP.zero.C ∧ Blk w' y 33 [.int .i64 j] := by
  refine (frmBack.ok (blk z) (blk y) j (R := fun v u' w' => settle u' = .returning ∧ Ext (fun b => b = z ∨ b = y) w w' ∧ Blk w' z 38 FP.zero.C ∧ Blk w' y 33 [.int .i64 j]) ?_).mono fun e u' w' ⟨v, he, h⟩ => ⟨v, he, h⟩
  unfold frmBack.M
  refine ⟨true, Q4n _ _, ?_⟩
  rw [cond_true]
  refine Q00 fun w4 e4 => ?_
  have X4 : Ext (fun b => b = z ∨ b = y) w w4 := (Ext.refl _ w).x_drew e4
  have bz4 := bz.x_drew e4
  have by4 := by_.x_drew e4
  refine ⟨j, Q1Z _ _, ?_⟩
  show putsK w4 ((blk z).add 0) FP.zero.C 0 _
  refine Q0R (k := 0) bz4 (by show 0 + 0 + 20 ≤ 20; decide) fun w25 X25 b25 => ⟨Q1Z _ _, ?_⟩
  have b25' : Blk w25 z 38 FP.zero.C := b25
  have by25 := by4.ext X25 (fun e => hzy e.symm)
  refine ⟨by25.cani 0 rfl rfl, Q00 fun w26 e26 => ⟨rfl, ?_, ?_, by25.seti 0 rfl e26⟩⟩
  · exact (X4.trans (X25.mono fun b hb _ => .inl hb)).x_set (q := y) (i := 0) rfl (.inl (.inr rfl)) e26
  · have X26 : Ext (fun b => b = y) w25 w26 := (Ext.refl (fun b => b = y) w25).x_set (q := y) (i := 0) rfl (.inl rfl) e26
    exact b25'.ext X26 hzy
theorem Q3b (w : World) : CallsD Try.prog 30 #[.pointer (some (blk z)), .pointer (some (blk y))] .returning w fun e u' w' => ∃ v, e = .returned v ∧ settle u' = .returning ∧ w' = w := by
  refine (frmDone.ok (blk z) (blk y) (R := fun v u' w' => settle u' = .returning ∧ w' = w) ?_).mono fun e u' w' ⟨v, he, h⟩ => ⟨v, he, h⟩
  unfold frmDone.M
  exact ⟨rfl, rfl⟩
def readFr (b : List UInt8) : Fr × Int := if b.length > 4000 then (Fr.zero, 3) else readW b
theorem Q31 {a : Option Addr} {c : Nat} {b : List UInt8} (h : RowAt w a (bytesV b)) (hc : b.length ≤ c) :
    Calls Try.prog 11 #[.slice a b.length c] w fun e w' => ∃ x' : FP, e = .returned (.tuple #[x'.V, .int .i64 (readFr b).2]) ∧ x'.r = (readFr b).1 ∧ x'.at w' ∧ Ext no w w' := by
  refine (frmRead.ok a b.length c (R := fun v w' => ∃ x' : FP, v = .tuple #[x'.V, .int .i64 (readFr b).2] ∧ x'.r = (readFr b).1 ∧ x'.at w' ∧ Ext no w w') ?_).mono fun e w' ⟨v, he, x', hv, h⟩ => ⟨x', by rw [he, hv], h⟩
  unfold frmRead.M
  have tg0 : Tags w fun _ => none := fun b j _ h => by cases h
  have fin : ∀ {w1 : World} {o1 : Own}, Step no w (fun _ => none) w1 o1 → Ext no w w1 := fun {w1 o1} s => s.ext.mono fun b ⟨_, h, _⟩ _ => by cases h
  refine Q00 fun w2 e2 => Q00 fun w3 e3 => ?_
  obtain ⟨z, hz⟩ : ∃ z, w.heap.size = z := ⟨_, rfl⟩
  obtain ⟨y, hy⟩ : ∃ y, w2.heap.size = y := ⟨_, rfl⟩
  have X2 : Ext no w w2 := by subst e2; exact (Ext.refl _ _).alloc _
  have b2 : Blk w2 w.heap.size 38 FP.zero.C := by subst e2; exact Blk.new _ _ _
  have X3 : Ext no w2 w3 := by subst e3; exact (Ext.refl _ _).alloc _
  have b3 : Blk w3 w2.heap.size 33 [.int .i64 0] := by subst e3; exact Blk.new _ _ _
  rw [hz] at b2
  rw [hy] at b3
  rw [hz, hy]
  have s2 := (Step.of_no X2 tg0).tag (p := z) (j := z) (by omega) b2.lt
  have s3 := (Step.of_no X3 s2.ok).tag (p := y) (j := y) (by omega) b3.lt
  have hzy : z ≠ y := by have := b2.lt; omega
  have bz3 : Blk w3 z 38 FP.zero.C := b2.ext X3 id
  have tz3 : tag (grow w2 (tag (grow w fun _ => none) z z)) y y z = some z := by rw [tag_ne hzy, grow_lt b2.lt]; exact Q0V
  have ty3 : tag (grow w2 (tag (grow w fun _ => none) z z)) y y y = some y := Q0V
  have S3 := s2.trans s3
  generalize tag (grow w2 (tag (grow w fun _ => none) z z)) y y = o3 at *
  by_cases hl : b.length > 4000
  · rw [show decide ((b.length : Int) > 4000) = true from decide_eq_true (by omega), cond_true]
    have hr : readFr b = (Fr.zero, 3) := by unfold readFr; rw [if_pos hl]
    refine ⟨_, _, _, _, _, _, _, _, _, _, _, _, _, _, _, _, _, _, _, _, _, _, _, _, _, _, cellsFr bz3, ?_⟩
    show putsK w3 ((blk z).add 0) FP.zero.C 0 _
    refine Q0R (k := 0) bz3 (by show 0 + 0 + 20 ≤ 20; decide) fun w24 X24 b24 => ?_
    have b24' : Blk w24 z 38 FP.zero.C := b24
    have by24 := b3.ext X24 (fun e => hzy e.symm)
    refine ⟨by24.cani 0 rfl rfl, Q00 fun w25 e25 => ?_⟩
    have X25 : Ext (fun b => b = y) w24 w25 := (Ext.refl (fun b => b = y) w24).x_set (q := y) (i := 0) rfl (.inl rfl) e25
    have b25 := b24'.ext X25 hzy
    refine ⟨_, _, _, _, _, _, _, _, _, _, _, _, _, _, _, _, _, _, _, _, _, _, _, _, _, _, cellsFr b25, 3, (by24.seti 0 rfl e25).celli 0 rfl rfl, FP.zero, by rw [hr]; rfl, by rw [hr]; rfl, ⟨RowAt.nil _ _, RowAt.nil _ _, RowAt.nil _ _⟩, ?_⟩
    have Y3 := fin S3
    exact (Y3.then X24 fun b hb => .inr (by omega)).then X25 fun b hb => .inr (by have := X2.size; omega)
  · rw [show decide ((b.length : Int) > 4000) = false from decide_eq_false (by omega), cond_false]
    have hr : readFr b = readW b := by unfold readFr; rw [if_neg hl]
    refine (W.Read_spec (h.no (fin S3)) hc).mono fun e w55 ⟨p, he, hR, hp, X55⟩ => .inl ⟨_, he, Q00 fun w57 e57 => ?_⟩
    have s55 := (Step.of_no X55 S3.ok).tag (p := p) (j := p) hp hR.lt
    have X57 : Ext no w55 w57 := by subst e57; exact (Ext.refl _ _).alloc _
    have b57 : Blk w57 w55.heap.size 68 (rgC p FP.zero none 0 0) := by subst e57; exact Blk.new _ _ _
    obtain ⟨q, hq⟩ : ∃ q, w55.heap.size = q := ⟨_, rfl⟩
    rw [hq] at b57 ⊢
    have s57 := (Step.of_no X57 s55.ok).tag (p := q) (j := q) (by omega) b57.lt
    have hpq : p < q := by have := hR.lt; omega
    have hyp : y < p := by have := b3.lt; omega
    have hzp : z < p := by have := bz3.lt; omega
    have tp57 : tag (grow w55 (tag (grow w3 o3) p p)) q q p = some p := by rw [tag_ne (by omega), grow_lt hR.lt]; exact Q0V
    have A57 : RG w57 (tag (grow w55 (tag (grow w3 o3) p p)) q q) p q b 0 FP.zero [] :=
      ⟨hR.no X57, ⟨none, 0, b57, Go.Mx.Grows.nil _ _ _ _ _, fun ad ha => by cases ha⟩, tp57, Q0V, hpq, FP.own.zero _ _, by omega⟩
    have S57 := (S3.trans s55).trans s57
    have bz57 := (bz3.ext X55 id).ext X57 id
    have by57 := (b3.ext X55 id).ext X57 id
    have l3 := bz3.lt
    have l3' := b3.lt
    have l55 : z < w55.heap.size := Nat.lt_of_lt_of_le l3 X55.size
    have l55' : y < w55.heap.size := Nat.lt_of_lt_of_le l3' X55.size
    have tz57 : tag (grow w55 (tag (grow w3 o3) p p)) q q z = some z := by rw [tag_ne (by omega), grow_lt l55, tag_ne (by omega), grow_lt l3]; exact tz3
    have ty57 : tag (grow w55 (tag (grow w3 o3) p p)) q q y = some y := by rw [tag_ne (by omega), grow_lt l55', tag_ne (by omega), grow_lt l3']; exact ty3
    generalize tag (grow w55 (tag (grow w3 o3) p p)) q q = o57 at *
    refine (Q3I A57 S57.ok).mono fun e w79 ⟨o79, s79, hor⟩ => ?_
    have hz79 : ¬ PQ p q z := fun e => by rcases e with e | e <;> omega
    have hy79 : ¬ PQ p q y := fun e => by rcases e with e | e <;> omega
    have bz79 := s79.blk bz57 tz57 hz79
    have by79 := s79.blk by57 ty57 hy79
    have tz79 := (s79.own bz57.lt).trans tz57
    have ty79 := (s79.own by57.lt).trans ty57
    have S79 : Step no w (fun _ => none) w79 o79 := S57.trans' s79 fun j hj => .inr (by rcases hj with e | e <;> omega)
    have Y79 := fin S79
    rcases hor with ⟨hk, x', he, hx, hown⟩ | ⟨hk, he⟩
    · refine .inl ⟨_, _, _, _, _, _, _, _, _, _, _, _, _, _, _, _, _, _, _, _, _, _, _, _, _, _, he, ?_⟩
      show putsK w79 ((blk z).add 0) x'.C 0 _
      refine Q0R (k := 0) bz79 (by show 0 + 0 + 20 ≤ 20; decide) fun w81 X81 b81 => ?_
      have b81' : Blk w81 z 38 x'.C := b81
      have by81 := by79.ext X81 (fun e => hzy e.symm)
      refine ⟨by81.cani 0 rfl rfl, Q00 fun w82 e82 => ?_⟩
      have X82 : Ext (fun b => b = y) w81 w82 := (Ext.refl (fun b => b = y) w81).x_set (q := y) (i := 0) rfl (.inl rfl) e82
      have b82 := b81'.ext X82 hzy
      have s81 : Step (fun j => j = z) w79 o79 w81 _ := Step.of_ext X81 S79.ok fun b hb _ => by subst hb; exact tz79
      have s82 : Step (fun j => j = y) w81 _ w82 _ := Step.of_ext X82 s81.ok fun b hb _ => by subst hb; rw [s81.own by79.lt]; exact ty79
      have hat := ((hown.step s81).step s82).at
      refine (Q3b (z := z) (y := y) w82).mono fun e u' w49 ⟨v, he, hs, hw⟩ => ⟨v, he, hs, ?_⟩
      subst hw
      refine ⟨_, _, _, _, _, _, _, _, _, _, _, _, _, _, _, _, _, _, _, _, _, _, _, _, _, _, cellsFr b82, 0, (by81.seti 0 rfl e82).celli 0 rfl rfl, x', by rw [hr, hk]; rfl, by rw [hr]; exact hx, hat, ?_⟩
      exact (Y79.then X81 fun b hb => .inr (by omega)).then X82 fun b hb => .inr (by have := X2.size; omega)
    · refine .inr ⟨_, he, ?_⟩
      refine (Q33 bz79 by79 hzy (readW b).2).mono fun e u' w49 ⟨v, he, hs, X49, b49, by49⟩ => ⟨v, he, hs, ?_⟩
      have hfz : (readW b).1 = Fr.zero := by
        unfold readW at hk ⊢
        split
        · rfl
        · split
          · rfl
          · split
            · rename_i h1 h2 h3
              rw [if_neg h1, if_neg h2, if_pos h3] at hk
              exact absurd rfl hk
            · rfl
      refine ⟨_, _, _, _, _, _, _, _, _, _, _, _, _, _, _, _, _, _, _, _, _, _, _, _, _, _, cellsFr b49, _, by49.celli 0 rfl rfl, FP.zero, by rw [hr]; rfl, by rw [hr, hfz]; rfl, ⟨RowAt.nil _ _, RowAt.nil _ _, RowAt.nil _ _⟩, ?_⟩
      exact Y79.then X49 fun b hb => .inr (by have := X2.size; rcases hb with hb | hb <;> omega)
end
open W (OwnB Rd numR countR doneR)
def encE (e : Ent) : List UInt8 := numL (bytesL e).length ++ bytesL e
def encV (v : List Hd) : List UInt8 := numL (vecL v).length ++ vecL v
def frP (x : Fr) : List UInt8 :=
  if x.kd = 1 then encE x.e else if x.kd = 4 then encE x.e ++ encE x.f else if x.kd = 3 then numL x.who.toNat ++ encV x.v ++ numL x.sg.toNat else numL x.who.toNat ++ encV x.v
def frL (x : Fr) : List UInt8 := numL x.kd.toNat ++ frP x
def frK (x : Fr) : List UInt8 × Int := if frOK x = false then ([], 1) else if (frL x).length > 4000 then ([], 3) else (frL x, 0)
structure Fr.fit (x : Fr) : Prop where
  e : x.e.fit
  f : x.f.fit
  v : ∀ h ∈ x.v, 0 ≤ h.2.2 ∧ h.2.2 < 18446744073709551616
  sg : 0 ≤ x.sg ∧ x.sg < 18446744073709551616
theorem ent_len {e : Ent} (h : Q0z e = true) : (bytesL e).length ≤ 1180 := by
  have := ((Q15 e).1 h).2.2.2.2.2.2.2.2.2.1
  have := Q41 e
  omega
theorem Q4i {e : Ent} (h : Q0z e = true) : (encE e).length ≤ 1190 := by
  have := ent_len h
  have := W.numL_le (bytesL e).length
  unfold encE; rw [List.length_append]; omega
theorem vec_len {v : List Hd} (h : rightV v = true) : (vecL v).length ≤ 250 := by
  have := Q1Y h
  have h1 := W.numL_le v.length
  have h2 := hdsL_le v
  unfold vecL; rw [List.length_append]; omega
theorem frOK_kd {x : Fr} (h : frOK x = true) : x.kd = 1 ∨ x.kd = 2 ∨ x.kd = 3 ∨ x.kd = 4 := by
  unfold frOK at h
  by_cases h1 : x.kd = 1
  · exact .inl h1
  by_cases h2 : x.kd = 2
  · exact .inr (.inl h2)
  by_cases h3 : x.kd = 3
  · exact .inr (.inr (.inl h3))
  by_cases h4 : x.kd = 4
  · exact .inr (.inr (.inr h4))
  rw [if_neg h1, if_neg h2, if_neg h3, if_neg h4] at h; cases h
theorem frOK_e {x : Fr} (h : frOK x = true) (hk : x.kd = 1 ∨ x.kd = 4) : Q0z x.e = true := by
  unfold frOK at h
  rcases hk with hk | hk
  · rw [if_pos hk, Bool.and_eq_true] at h; exact h.1
  · rw [if_neg (by omega), if_neg (by omega), if_neg (by omega), if_pos hk, Bool.and_eq_true] at h; exact h.1
theorem frOK_f {x : Fr} (h : frOK x = true) (hk : x.kd = 4) : Q0z x.f = true := by
  unfold frOK at h
  rw [if_neg (by omega), if_neg (by omega), if_neg (by omega), if_pos hk, Bool.and_eq_true, Bool.and_eq_true] at h; exact h.2.1
theorem frOK_v {x : Fr} (h : frOK x = true) (hk : x.kd = 2 ∨ x.kd = 3) : 0 ≤ x.who ∧ x.who < 8 ∧ rightV x.v = true := by
  unfold frOK at h
  rcases hk with hk | hk
  · rw [if_neg (by omega), if_pos hk] at h
    simp only [Bool.and_eq_true, decide_eq_true_eq] at h
    exact ⟨h.2.2.1, h.2.2.2.1, h.2.2.2.2.1⟩
  · rw [if_neg (by omega), if_neg (by omega), if_pos hk] at h
    simp only [Bool.and_eq_true, decide_eq_true_eq] at h
    exact ⟨h.2.2.1, h.2.2.2.1, h.2.2.2.2⟩
theorem vnat {v : List Hd} (hf : ∀ h ∈ v, 0 ≤ h.2.2 ∧ h.2.2 < 18446744073709551616) : rightV v = true → ∀ h ∈ v, natH h := fun hr h hh => Q46 (Q12 hr h hh) (hf h hh)
theorem frOK_1 {x : Fr} (h : frOK x = true) (hk : x.kd = 1) : Q0z x.e = true ∧ x.f = Ent.zero ∧ x.who = 0 ∧ x.v = [] ∧ x.sg = 0 := by
  unfold frOK at h
  rw [if_pos hk] at h
  simp only [Bool.and_eq_true, decide_eq_true_eq] at h
  exact ⟨h.1, h.2.1, h.2.2.1, List.eq_nil_of_length_eq_zero h.2.2.2.1, h.2.2.2.2⟩
theorem frOK_2 {x : Fr} (h : frOK x = true) (hk : x.kd = 2) : x.e = Ent.zero ∧ x.f = Ent.zero ∧ 0 ≤ x.who ∧ x.who < 8 ∧ rightV x.v = true ∧ x.sg = 0 := by
  unfold frOK at h
  rw [if_neg (by omega), if_pos hk] at h
  simp only [Bool.and_eq_true, decide_eq_true_eq] at h
  exact h
theorem frOK_3 {x : Fr} (h : frOK x = true) (hk : x.kd = 3) : x.e = Ent.zero ∧ x.f = Ent.zero ∧ 0 ≤ x.who ∧ x.who < 8 ∧ rightV x.v = true := by
  unfold frOK at h
  rw [if_neg (by omega), if_neg (by omega), if_pos hk] at h
  simp only [Bool.and_eq_true, decide_eq_true_eq] at h
  exact h
theorem frOK_4 {x : Fr} (h : frOK x = true) (hk : x.kd = 4) : Q0z x.e = true ∧ Q0z x.f = true ∧ x.who = 0 ∧ x.v = [] ∧ x.sg = 0 := by
  unfold frOK at h
  rw [if_neg (by omega), if_neg (by omega), if_neg (by omega), if_pos hk] at h
  simp only [Bool.and_eq_true, decide_eq_true_eq] at h
  exact ⟨h.1, h.2.1, h.2.2.1, List.eq_nil_of_length_eq_zero h.2.2.2.1, h.2.2.2.2⟩
theorem Q1G {i : Nat} {c : List UInt8} {f : Fr} (h : (f.put (i, c)).2 = 0) : looks [(i, c)] f = ((f.put (i, c)).1, 0) := by
  unfold looks; rw [if_pos h]; rfl
theorem Q44 {c : Nat × List UInt8} {l : List (Nat × List UInt8)} {f : Fr} (h : (f.put c).2 = 0) : looks (c :: l) f = looks l (f.put c).1 := by
  rw [looks, if_pos h]
theorem Q4o {x : Fr} (hk : frOK x = true) (hf : x.fit) (r : List UInt8) :
    kdS x.kd.toNat (frP x ++ r, 0) = (r, 0) ∧ looks (kdL x.kd.toNat (frP x ++ r, 0)) (kdF x.kd.toNat { Fr.zero with kd := x.kd } (frP x ++ r, 0)) = (x, 0) := by
  have hkd := frOK_kd hk
  obtain ⟨kd, e, f, who, v, sg⟩ := x
  obtain ⟨fe, ff, fv, fs⟩ := hf
  simp only at fe ff fv fs hkd
  rcases hkd with h | h | h | h <;> subst h
  · obtain ⟨h1, h2, h3, h4, h5⟩ := frOK_1 hk rfl
    simp only at h1 h2 h3 h4 h5
    subst h2; subst h3; subst h4; subst h5
    have hl := ent_len h1
    have q := Q0O (x := bytesL e) (m := 4000) (by omega) (by omega) r
    have ep : frP ⟨1, e, Ent.zero, 0, [], 0⟩ ++ r = numL (bytesL e).length ++ (bytesL e ++ r) := by
      show (numL (bytesL e).length ++ bytesL e) ++ r = _
      rw [List.append_assoc]
    rw [ep]
    refine ⟨?_, ?_⟩
    · show (bytesR 4000 _).2 = _
      rw [q]
    · show looks [(0, (bytesR 4000 _).1)] ⟨1, Ent.zero, Ent.zero, 0, [], 0⟩ = _
      rw [q]
      have hr := Q1A h1 fe
      have hp : Fr.put ⟨1, Ent.zero, Ent.zero, 0, [], 0⟩ (0, bytesL e) = (⟨1, e, Ent.zero, 0, [], 0⟩, 0) := by
        show ((⟨1, (readE (bytesL e)).1, Ent.zero, 0, [], 0⟩ : Fr), (readE (bytesL e)).2) = _
        rw [hr]
      rw [Q1G (by show (Fr.put _ (0, bytesL e)).2 = 0; rw [hp]), hp]
  · obtain ⟨h1, h2, h3, h4, h5, h6⟩ := frOK_2 hk rfl
    simp only at h1 h2 h3 h4 h5 h6
    subst h1; subst h2; subst h6
    have hl := vec_len h5
    have q1 := W.countR_write (n := who.toNat) (m := 7) (by omega) (by omega) (numL (vecL v).length ++ (vecL v ++ r))
    have q := Q0O (x := vecL v) (m := 4000) (by omega) (by omega) r
    have ep : frP ⟨2, Ent.zero, Ent.zero, who, v, 0⟩ ++ r = numL who.toNat ++ (numL (vecL v).length ++ (vecL v ++ r)) := by
      show (numL who.toNat ++ (numL (vecL v).length ++ vecL v)) ++ r = _
      simp only [List.append_assoc]
    rw [ep]
    refine ⟨?_, ?_⟩
    · show (bytesR 4000 (countR 7 _).2).2 = _
      rw [q1, q]
    · show looks [(2, (bytesR 4000 (countR 7 _).2).1)] ⟨2, Ent.zero, Ent.zero, ((countR 7 _).1 : Nat), [], 0⟩ = _
      rw [q1, q]
      have hr := Q24 h5 fv
      have hp : Fr.put ⟨2, Ent.zero, Ent.zero, (who.toNat : Nat), [], 0⟩ (2, vecL v) = (⟨2, Ent.zero, Ent.zero, who, v, 0⟩, 0) := by
        show ((⟨2, Ent.zero, Ent.zero, (who.toNat : Nat), (readV (vecL v)).1, 0⟩ : Fr), (readV (vecL v)).2) = _
        rw [hr, Int.toNat_of_nonneg h3]
      rw [Q1G (by show (Fr.put _ (2, vecL v)).2 = 0; rw [hp]), hp]
  · obtain ⟨h1, h2, h3, h4, h5⟩ := frOK_3 hk rfl
    simp only at h1 h2 h3 h4 h5
    subst h1; subst h2
    have hl := vec_len h5
    have q1 := W.countR_write (n := who.toNat) (m := 7) (by omega) (by omega) (numL (vecL v).length ++ (vecL v ++ (numL sg.toNat ++ r)))
    have q := Q0O (x := vecL v) (m := 4000) (by omega) (by omega) (numL sg.toNat ++ r)
    have q3 := W.numR_write (n := sg.toNat) (by omega) r
    have ep : frP ⟨3, Ent.zero, Ent.zero, who, v, sg⟩ ++ r = numL who.toNat ++ (numL (vecL v).length ++ (vecL v ++ (numL sg.toNat ++ r))) := by
      show (numL who.toNat ++ (numL (vecL v).length ++ vecL v) ++ numL sg.toNat) ++ r = _
      simp only [List.append_assoc]
    rw [ep]
    refine ⟨?_, ?_⟩
    · show (numR (bytesR 4000 (countR 7 _).2).2).2 = _
      rw [q1, q, q3]
    · show looks [(2, (bytesR 4000 (countR 7 _).2).1)] ⟨3, Ent.zero, Ent.zero, ((countR 7 _).1 : Nat), [], ((numR (bytesR 4000 (countR 7 _).2).2).1 : Nat)⟩ = _
      rw [q1, q, q3]
      have hr := Q24 h5 fv
      have hp : Fr.put ⟨3, Ent.zero, Ent.zero, (who.toNat : Nat), [], (sg.toNat : Nat)⟩ (2, vecL v) = (⟨3, Ent.zero, Ent.zero, who, v, sg⟩, 0) := by
        show ((⟨3, Ent.zero, Ent.zero, (who.toNat : Nat), (readV (vecL v)).1, (sg.toNat : Nat)⟩ : Fr), (readV (vecL v)).2) = _
        rw [hr, Int.toNat_of_nonneg h3, Int.toNat_of_nonneg fs.1]
      rw [Q1G (by show (Fr.put _ (2, vecL v)).2 = 0; rw [hp]), hp]
  · obtain ⟨h1, h2, h3, h4, h5⟩ := frOK_4 hk rfl
    simp only at h1 h2 h3 h4 h5
    subst h3; subst h4; subst h5
    have hl := ent_len h1
    have hl2 := ent_len h2
    have q := Q0O (x := bytesL e) (m := 4000) (by omega) (by omega) (numL (bytesL f).length ++ (bytesL f ++ r))
    have q2 := Q0O (x := bytesL f) (m := 4000) (by omega) (by omega) r
    have ep : frP ⟨4, e, f, 0, [], 0⟩ ++ r = numL (bytesL e).length ++ (bytesL e ++ (numL (bytesL f).length ++ (bytesL f ++ r))) := by
      show ((numL (bytesL e).length ++ bytesL e) ++ (numL (bytesL f).length ++ bytesL f)) ++ r = _
      simp only [List.append_assoc]
    rw [ep]
    refine ⟨?_, ?_⟩
    · show (bytesR 4000 (bytesR 4000 _).2).2 = _
      rw [q, q2]
    · show looks [(0, (bytesR 4000 _).1), (1, (bytesR 4000 (bytesR 4000 _).2).1)] ⟨4, Ent.zero, Ent.zero, 0, [], 0⟩ = _
      rw [q, q2]
      have hr := Q1A h1 fe
      have hr2 := Q1A h2 ff
      have hp : Fr.put ⟨4, Ent.zero, Ent.zero, 0, [], 0⟩ (0, bytesL e) = (⟨4, e, Ent.zero, 0, [], 0⟩, 0) := by
        show ((⟨4, (readE (bytesL e)).1, Ent.zero, 0, [], 0⟩ : Fr), (readE (bytesL e)).2) = _
        rw [hr]
      have hp2 : Fr.put ⟨4, e, Ent.zero, 0, [], 0⟩ (1, bytesL f) = (⟨4, e, f, 0, [], 0⟩, 0) := by
        show ((⟨4, e, (readE (bytesL f)).1, 0, [], 0⟩ : Fr), (readE (bytesL f)).2) = _
        rw [hr2]
      rw [Q44 (by show (Fr.put _ (0, bytesL e)).2 = 0; rw [hp]), hp, Q1G (by show (Fr.put _ (1, bytesL f)).2 = 0; rw [hp2]), hp2]
theorem Q3Z {x : Fr} (hk : frOK x = true) (hf : x.fit) (r : List UInt8) : readW (frL x ++ r) = if r.length > 0 then (Fr.zero, 4) else (x, 0) := by
  have hkd := frOK_kd hk
  have q : countR 4 (frL x ++ r, 0) = (x.kd.toNat, (frP x ++ r, 0)) := by
    unfold frL
    rw [List.append_assoc]
    exact W.countR_write (by omega) (by omega) _
  obtain ⟨k1, k2⟩ := Q4o hk hf r
  have hd : frDone (frL x ++ r) = doneR (r, 0) := by unfold frDone; rw [q]; simp only; rw [k1]
  have hL : frLooks (frL x ++ r) = (x, 0) := by
    unfold frLooks frStart
    rw [q]
    simp only
    rw [show ((x.kd.toNat : Nat) : Int) = x.kd by omega]
    exact k2
  unfold readW
  rw [hd, hL]
  by_cases h : r.length > 0
  · rw [if_pos h, show doneR (r, 0) = 4 by unfold doneR; rw [if_pos rfl, if_pos h]]; rfl
  · rw [if_neg h, show doneR (r, 0) = 0 by unfold doneR; rw [if_pos rfl, if_neg h], if_neg (fun h => h rfl), if_neg (fun h => h rfl), if_pos hk]
theorem Q4k : Ent.zero.fit := ⟨by decide, by decide, by decide, by decide⟩
theorem Q2M {x : Fr} (hk : frOK x = true) (hf : x.fit) (hl : (frL x).length ≤ 4000) : readFr (frL x) = (x, 0) := by
  unfold readFr
  rw [if_neg (by omega)]
  have := Q3Z hk hf []
  rw [List.append_nil] at this
  rw [this]; rfl
end Go.Proofs.Ytlgpeojjmapnjaa