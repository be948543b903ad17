/- Alarms: signing both entries. -/
import Derived.Test.YtebghegecofmhaaZC
import Derived.Test.YtebghegecofmhaaZB
set_option linter.unusedVariables false
set_option linter.unusedSimpArgs false
set_option maxRecDepth 20000
set_option maxHeartbeats 4000000
namespace Go.Proofs.Ytebghegecofmhaa
open Go Go.Mx Go.Proofs
section
variable {W w w' w0 w27 w28 : World} {o o' : Own} {k j q r n qx : Nat} {K : Nat → Prop} {S : OS} {al wl : AL} {p sec : Int}
theorem load_y {x : PP} {t : TypeId} (hb : Blk w qx t x.C) : cellsAt w ((blk qx).add 8) x.y.C 0 :=
  Q14 (k := 8) hb x.y.C 0 fun i v hv => by
    show (x.x.C ++ x.y.C)[8 + 0 + i]? = some v
    rw [List.getElem?_append_right (by rw [PE.len]; omega), PE.len, show 8 + 0 + i - 8 = i by omega]; exact hv
theorem load_x {x : PP} {t : TypeId} (hb : Blk w qx t x.C) : cellsAt w ((blk qx).add 0) x.x.C 0 :=
  Q14 (k := 0) hb x.x.C 0 fun i v hv => by
    show (x.x.C ++ x.y.C)[0 + 0 + i]? = some v
    rw [show 0 + 0 + i = i by omega, List.getElem?_append_left (List.getElem?_eq_some_iff.1 hv).1]; exact hv
theorem set_y (x : PP) (y : PE) : setAll x.C 8 y.C = PP.C ⟨x.x, y⟩ := by
  show setAll (x.x.C ++ x.y.C) (x.x.C.length + 0) y.C = x.x.C ++ y.C
  rw [Q0T]
  have := Q0P (vs := y.C) (u := x.y.C) (cs := []) rfl
  rw [List.append_nil, List.append_nil] at this
  rw [this]
theorem set_x (x : PP) (y : PE) : setAll x.C 0 y.C = PP.C ⟨y, x.y⟩ := Q0P rfl
theorem Q2L (e : Ent) (hl : e.body.length ≤ 1500) : (signE S sec e).1.1.body.length ≤ 1500 := by
  unfold signE
  split
  · split
    · exact hl
    · exact Nat.zero_le _
  · exact Nat.zero_le _
theorem Q4o (h : S.ok) (e : Ent) : (signE S sec e).2.used.length ≤ S.used.length + 1 := by
  have := (Q1X h sec (textL e)).2
  unfold signE
  split
  · split <;> exact this
  · exact Nat.le_succ _
theorem AI.sign (ap : Apart4 W k j q r) (h : AI W k j q r S n al wl w o) (e : Ent) {w' : World} {o' : Own} (s : Step (fun i => i = k) w o w' o') (P : POrc w' o' k (signE S sec e).2) : AI W k j q r (signE S sec e).2 (n + 1) al wl w' o' := by
  obtain ⟨ws, w1, w2, w3, w4⟩ := h.wb
  exact ⟨h.st.trans' s fun i hi => .inr (by rw [hi]; exact ap.k0), P, Q2K h.inv sec e, Nat.le_trans (Q4o h.inv.ok e) (Nat.succ_le_succ h.len), h.alm.step s (Ne.symm ap.kj), ⟨ws, s.blk w1 h.wo (Ne.symm ap.kq), w2, fun x hx => (w3 x hx).step s, w4⟩,
    (s.own w1.lt).trans h.wo, s.blk h.hb h.ho (Ne.symm ap.kr), (s.own h.hb.lt).trans h.ho, h.fin, h.fiw⟩
theorem Q3x {x : PP} {on : Bool} {i : Int} {I0 : Nat → List Value → World → Prop} {R : RW} {m : Nat} (ap : Apart4 W k j q r) (h : AI W k j q r S n al al w o) (hn : n < 999990) (hX : XI W k j q r qx x w o) (hon : on = decide (al ≠ [])) (e27 : w27.heap.size = q) (e28 : w28.heap.size = r) (nx : NX W k j q r (n + 1) i I0 m) :
    almL.J9 (blk qx) on i I0 m (some (blk k)) (some (blk j)) sec p w27 w28 R w := by
  unfold almL.J9
  refine ⟨x.y.e.w, x.y.e.i, x.y.e.pv, x.y.e.t, x.y.e.tw, x.y.e.ep, x.y.a, x.y.e.body.length, x.y.c, x.y.e.sg, load_y hX.b, ?_⟩
  have hlen := h.len
  refine (SignE h.p h.st.ok h.inv.ok (by omega) sec (e := x.y.e) (fun _ => hX.f2) hX.ok.2.1).mono fun e w562 ⟨o562, ya, yc, he, s562, P562, ry, ly⟩ => ?_
  have h562 := h.sign ap x.y.e s562 P562
  have hX562 := hX.step s562 hX.ne.2.1
  have hfit := Q2Y h.inv (by omega) sec hX.f2
  have hsl := Q2L (S := S) (sec := sec) x.y.e hX.l2
  generalize signE S sec x.y.e = A at *
  obtain ⟨⟨g, b⟩, S'⟩ := A
  obtain ⟨y, rfl⟩ : ∃ y : PE, y = ⟨g, ya, yc⟩ := ⟨_, rfl⟩
  dsimp only at he h562 hfit hsl ry ly
  refine ⟨g.w, g.i, g.pv, g.t, g.tw, g.ep, ya, g.body.length, yc, g.sg, b, he, Q01 fun w563 e563 => ?_⟩
  refine Q1g (vs := PE.C ⟨g, ya, yc⟩) e563 rfl fun w564 X564 hb564 => ?_
  have s564 := Step.of_no X564 s562.ok
  have h564 := h562.step0 s564
  have hX564 := hX562.step s564 id
  by_cases hb : b = 0
  · rw [show (b == 0) = true by simpa using hb, cond_true]
    refine ⟨g.w, g.i, g.pv, g.t, g.tw, g.ep, ya, g.body.length, yc, g.sg, Q1k hb564, ?_⟩
    refine (puts_at (vs := [.int .i64 g.w, .int .i64 g.i, .int .u64 g.pv, .int .i64 g.t, .int .i64 g.tw, .int .i64 g.ep, .slice ya g.body.length yc, .int .u64 g.sg]) (kk := 8) (k := 8) rfl hX564.b (by rw [PP.len]; simp only [List.length_cons, List.length_nil]; omega) fun w580 X580 hb580 => ?_ : putsK _ _ [.int .i64 g.w, .int .i64 g.i, .int .u64 g.pv, .int .i64 g.t, .int .i64 g.tw, .int .i64 g.ep, .slice ya g.body.length yc, .int .u64 g.sg] 0 _)
    have hset : setAll x.C 8 [.int .i64 g.w, .int .i64 g.i, .int .u64 g.pv, .int .i64 g.t, .int .i64 g.tw, .int .i64 g.ep, .slice ya g.body.length yc, .int .u64 g.sg] = PP.C ⟨x.x, ⟨g, ya, yc⟩⟩ := set_y x ⟨g, ya, yc⟩
    rw [hset] at hb580
    have s580 := Step.of_ext X580 h564.st.ok (p := qx) fun b hb _ => by subst hb; exact hX564.t
    have h580 := h564.step s580 fun i hi _ => by subst hi; exact hX.ne
    have hX580 : XI W k j q r qx ⟨x.x, ⟨g, ya, yc⟩⟩ w580 _ := ⟨hb580, (s580.own hX564.b.lt).trans hX564.t, ⟨hX564.ok.1.step s580, (ry.step s564).step s580, hX.ok.2.2.1, ly⟩, hX.f1, hfit, hX.l1, hsl, hX.ne⟩
    exact Q20 ap h580 hX580 hon e27 e28 nx
  · rw [show (b == 0) = false by simpa using hb, cond_false]
    exact Q20 ap h564 hX564 hon e27 e28 nx
theorem alm_ten {x : PP} {on : Bool} {i : Int} {I0 : Nat → List Value → World → Prop} {R : RW} {m : Nat} (ap : Apart4 W k j q r) (h : AI W k j q r S n al al w o) (hn : n < 999980) (hX : XI W k j q r qx x w o) (hon : on = decide (al ≠ [])) (e27 : w27.heap.size = q) (e28 : w28.heap.size = r) (nx : NX W k j q r (n + 1 + 1) i I0 m) :
    almL.J10 (blk qx) on i I0 m (some (blk k)) (some (blk j)) sec p w27 w28 R w := by
  unfold almL.J10
  refine ⟨x.x.e.w, x.x.e.i, x.x.e.pv, x.x.e.t, x.x.e.tw, x.x.e.ep, x.x.a, x.x.e.body.length, x.x.c, x.x.e.sg, load_x hX.b, ?_⟩
  have hlen := h.len
  refine (SignE h.p h.st.ok h.inv.ok (by omega) sec (e := x.x.e) (fun _ => hX.f1) hX.ok.1).mono fun e w562 ⟨o562, ya, yc, he, s562, P562, ry, ly⟩ => ?_
  have h562 := h.sign ap x.x.e s562 P562
  have hX562 := hX.step s562 hX.ne.2.1
  have hfit := Q2Y h.inv (by omega) sec hX.f1
  have hsl := Q2L (S := S) (sec := sec) x.x.e hX.l1
  generalize signE S sec x.x.e = A at *
  obtain ⟨⟨g, b⟩, S'⟩ := A
  dsimp only at he h562 hfit hsl ry ly
  refine ⟨g.w, g.i, g.pv, g.t, g.tw, g.ep, ya, g.body.length, yc, g.sg, b, he, Q01 fun w563 e563 => ?_⟩
  refine Q1g (vs := PE.C ⟨g, ya, yc⟩) e563 rfl fun w564 X564 hb564 => ?_
  have s564 := Step.of_no X564 s562.ok
  have h564 := h562.step0 s564
  have hX564 := hX562.step s564 id
  by_cases hb : b = 0
  · rw [show (b == 0) = true by simpa using hb, cond_true]
    refine ⟨g.w, g.i, g.pv, g.t, g.tw, g.ep, ya, g.body.length, yc, g.sg, Q1k hb564, ?_⟩
    refine (puts_at (vs := [.int .i64 g.w, .int .i64 g.i, .int .u64 g.pv, .int .i64 g.t, .int .i64 g.tw, .int .i64 g.ep, .slice ya g.body.length yc, .int .u64 g.sg]) (kk := 0) (k := 0) rfl hX564.b (by rw [PP.len]; simp only [List.length_cons, List.length_nil]; omega) fun w580 X580 hb580 => ?_ : putsK _ _ [.int .i64 g.w, .int .i64 g.i, .int .u64 g.pv, .int .i64 g.t, .int .i64 g.tw, .int .i64 g.ep, .slice ya g.body.length yc, .int .u64 g.sg] 0 _)
    have hset : setAll x.C 0 [.int .i64 g.w, .int .i64 g.i, .int .u64 g.pv, .int .i64 g.t, .int .i64 g.tw, .int .i64 g.ep, .slice ya g.body.length yc, .int .u64 g.sg] = PP.C ⟨⟨g, ya, yc⟩, x.y⟩ := set_x x ⟨g, ya, yc⟩
    rw [hset] at hb580
    have s580 := Step.of_ext X580 h564.st.ok (p := qx) fun b hb _ => by subst hb; exact hX564.t
    have h580 := h564.step s580 fun i hi _ => by subst hi; exact hX.ne
    have hX580 : XI W k j q r qx ⟨⟨g, ya, yc⟩, x.y⟩ w580 _ := ⟨hb580, (s580.own hX564.b.lt).trans hX564.t, ⟨(ry.step s564).step s580, hX564.ok.2.1.step s580, ly, hX.ok.2.2.2⟩, hfit, hX.f2, hsl, hX.l2, hX.ne⟩
    exact Q3x ap h580 (by omega) hX580 hon e27 e28 nx
  · rw [show (b == 0) = false by simpa using hb, cond_false]
    exact Q3x ap h564 (by omega) hX564 hon e27 e28 nx
theorem Q2V {x : PP} {on : Bool} {t : Nat} {I0 : Nat → List Value → World → Prop} {R : RW} {m : Nat} {sa : Option Addr} {xs : List Int} (ap : Apart4 W k j q r) (h : AI W k j q r S n al al w o) (hn : n < 999980) (hX : XI W k j q r qx x w o) (hs : RowAt w sa (xs.map i64V)) (hon : on = decide (al ≠ [])) (e27 : w27.heap.size = q) (e28 : w28.heap.size = r) (nx : NX W k j q r (n + 1 + 1) t I0 m) :
    almL.J13 (blk qx) on t I0 sa xs.length m (some (blk k)) (some (blk j)) sec p w27 w28 R w := by
  unfold almL.J13
  by_cases ht : xs.length ≤ t
  · rw [decide_eq_true (by omega), cond_true]
    exact alm_ten ap h hn hX hon e27 e28 nx
  · rw [decide_eq_false (by omega), cond_false]
    have hc : (xs.map i64V)[t]? = some (i64V (xs[t]'(by omega))) := by rw [List.getElem?_map, List.getElem?_eq_getElem (by omega)]; rfl
    obtain ⟨ad, rfl⟩ := hs.addr (by intro e; have := congrArg List.length e; simp only [List.length_map, List.length_nil] at this; omega)
    show _ ∧ _
    refine ⟨by omega, by omega, xs[t]'(by omega), by rw [Int.toNat_natCast, Nat.mul_one]; exact hs.at_ hc, ?_⟩
    generalize xs[t]'(by omega) = z
    by_cases hz : z = 0
    · rw [show (z != 0) = false by simpa using hz]
      show almL.J8 (blk qx) on t I0 m (some (blk k)) (some (blk j)) p w27 w28 R w
      exact Q20 ap h hX hon e27 e28 (nx.less (by omega))
    · rw [show (z != 0) = true by simpa using hz]
      show almL.J10 (blk qx) on t I0 m (some (blk k)) (some (blk j)) sec p w27 w28 R w
      exact alm_ten ap h hn hX hon e27 e28 nx
end

def PP.good (W : World) (x : PP) : Prop := (RowAt W x.x.a (bytesV x.x.e.body) ∧ x.x.e.body.length ≤ x.x.c ∧ x.x.e.fit) ∧ (RowAt W x.y.a (bytesV x.y.e.body) ∧ x.y.e.body.length ≤ x.y.c ∧ x.y.e.fit)
theorem Q44 : Opens Try.prog 42 fun W cs => ∃ x : PP, cs = x.C ∧ x.good W :=
  (Q41 (qs := [(8, _), (8, _)]) (size := 16) Try.underlying42 (by kernel_rfl)
    ⟨⟨rfl, by kernel_rfl, Q2h⟩, ⟨rfl, by kernel_rfl, Q2h⟩, rfl⟩).mono
    fun W cs ⟨_, _, e0, _, ⟨e, ea, ec, q1, q2, q3, q4, _, q5⟩, _, _, e1, _, ⟨f, fa, fc, r1, r2, r3, r4, _, r5⟩, q⟩ => by
      subst q; subst q1; subst r1; subst e1; subst e0
      exact ⟨⟨⟨e, ea, ec⟩, ⟨f, fa, fc⟩⟩, by rw [List.append_nil]; rfl, ⟨q5, q4, q2⟩, ⟨r5, r4, r2⟩⟩
def TwosQ (W : World) (cs : List Value) : Prop := ∃ (a : Option Addr) (c : Nat) (l : List PP), cs = [.slice a l.length c] ∧ l.length ≤ c ∧ c ≤ maxLen ∧ RowAt W a (l.flatMap PP.C) ∧ ∀ x ∈ l, x.good W
theorem opens_twos : Opens Try.prog 22 TwosQ := Q3H (size := 16) Try.underlying22 (by kernel_rfl) Q44
section
variable {W w w' w0 w27 w28 : World} {o o' : Own} {k j q r n qx : Nat} {K : Nat → Prop} {S : OS} {al wl : AL} {p sec : Int} {la sa : Option Addr} {l : List PP} {xs : List Int}
theorem row_x {ps : List PP} {ad : Addr} {t : Nat} {x : PP} (h : RowAt w (some ad) (PP.Cs ps)) (hx : ps[t]? = some x) : cellsAt w ((ad.add (Int.toNat (t : Int) * 16)).add 0) x.x.C 0 :=
  Q1n fun i v hv => by
    rw [Int.toNat_natCast, add_add]
    refine h.fcell PP.len hx _ ?_
    show (x.x.C ++ x.y.C)[0 + (0 + i)]? = some v
    rw [show 0 + (0 + i) = i by omega, List.getElem?_append_left (List.getElem?_eq_some_iff.1 hv).1]; exact hv
theorem row_y {ps : List PP} {ad : Addr} {t : Nat} {x : PP} (h : RowAt w (some ad) (PP.Cs ps)) (hx : ps[t]? = some x) : cellsAt w ((ad.add (Int.toNat (t : Int) * 16)).add 8) x.y.C 0 :=
  Q1n fun i v hv => by
    rw [Int.toNat_natCast, add_add]
    refine h.fcell PP.len hx _ ?_
    show (x.x.C ++ x.y.C)[8 + (0 + i)]? = some v
    rw [List.getElem?_append_right (by rw [PE.len]; omega), PE.len, show 8 + (0 + i) - 8 = i by omega]; exact hv
def R0 (W : World) (v : Value) (w' : World) : Prop := v = .bool true ∧ Ext no W w'
theorem AI.out (h : AI W k j q r S n al wl w o) (X : Ext no w w') : Ext no W w' := (h.st.ext.mono fun b ⟨_, h, _⟩ _ => by cases h).trans X
theorem Q2J {on : Bool} {t : Nat} {I0 : Nat → List Value → World → Prop} {R : RW} {m : Nat} {x : PP} (ap : Apart4 W k j q r) (h : AI W k j q r S n al al w o) (hn : n < 999980) (hl : RowAt W la (PP.Cs l)) (hs : RowAt W sa (xs.map i64V)) (hx : l[t]? = some x) (xg : x.good W) (hs1 : x.x.e.body.length ≤ 1500) (hs2 : x.y.e.body.length ≤ 1500) (hon : on = decide (al ≠ [])) (e27 : w27.heap.size = q) (e28 : w28.heap.size = r) (nx : NX W k j q r (n + 1 + 1) t I0 m) :
    almL.J14 on t I0 la l.length sa xs.length m (some (blk k)) (some (blk j)) sec p w27 w28 R w := by
  have ht : t < l.length := (List.getElem?_eq_some_iff.1 hx).1
  unfold almL.J14
  refine Q01 fun w116 e116 => ?_
  have X116 : Ext no w w116 := (Ext.refl _ _).x_drew e116
  have s116 := Step.of_no X116 h.st.ok
  have h116 := h.step0 s116
  have rl : Row W (fun _ => none) la (PP.Cs l) := ⟨hl, fun _ _ _ => rfl⟩
  have rs : Row W (fun _ => none) sa (xs.map i64V) := ⟨hs, fun _ _ _ => rfl⟩
  have r116 := (rl.step h116.st).1
  obtain ⟨ad, rfl⟩ := hl.faddr PP.len (by decide) ht
  show _ ∧ _
  refine ⟨by omega, by omega, x.x.e.w, x.x.e.i, x.x.e.pv, x.x.e.t, x.x.e.tw, x.x.e.ep, x.x.a, x.x.e.body.length, x.x.c, x.x.e.sg, row_x r116 hx, ?_⟩
  show _ ∧ _
  refine ⟨by omega, by omega, x.y.e.w, x.y.e.i, x.y.e.pv, x.y.e.t, x.y.e.tw, x.y.e.ep, x.y.a, x.y.e.body.length, x.y.c, x.y.e.sg, row_y r116 hx, Q01 fun w135 e135 => ?_⟩
  have X135 : Ext no w116 w135 := (Ext.refl _ _).x_alloc e135
  have r135 := r116.no X135
  refine ⟨row_y r135 hx, row_x r135 hx, ?_⟩
  refine Q1g (vs := x.C) e135 rfl fun w136 X136 hb136 => ?_
  have s136 : Step no w116 _ w136 _ := (Step.of_no X136 h116.st.ok).tag (Nat.le_refl _) hb136.lt
  have h136 := h116.step0 s136
  have lk := h116.p.lt
  have lj := h116.alm.lt
  obtain ⟨ws, wb, _⟩ := id h116.wb
  have lq := wb.lt
  have lr := h116.hb.lt
  have lW := h116.st.size
  have xok : x.ok W (fun _ => none) := ⟨⟨xg.1.1, fun _ _ _ => rfl⟩, ⟨xg.2.1, fun _ _ _ => rfl⟩, xg.1.2.1, xg.2.2.1⟩
  have hX : XI W k j q r w116.heap.size x w136 _ := ⟨hb136, Q0O, xok.step h136.st, xg.1.2.2, xg.2.2.2, hs1, hs2, lW, by omega, by omega, by omega, by omega⟩
  exact Q2V ap h136 hn hX (rs.step h136.st).1 hon e27 e28 nx
theorem Q35 {on : Bool} {t : Nat} {I0 : Nat → List Value → World → Prop} {m : Nat} (ap : Apart4 W k j q r) (h : AI W k j q r S n al al w o) (hn : n < 999980) (hl : RowAt W la (PP.Cs l)) (hg : ∀ x ∈ l, x.good W) (hs : RowAt W sa (xs.map i64V)) (ht : t < l.length) (hon : on = decide (al ≠ [])) (e27 : w27.heap.size = q) (e28 : w28.heap.size = r) (nx : NX W k j q r (n + 1 + 1) t I0 m) :
    almL.J15 on t I0 la l.length sa xs.length m (some (blk k)) (some (blk j)) sec p w27 w28 (R0 W) w := by
  unfold almL.J15
  refine Q01 fun w44 e44 => ?_
  have X44 : Ext no w w44 := (Ext.refl _ _).x_drew e44
  have s44 := Step.of_no X44 h.st.ok
  have h44 := h.step0 s44
  obtain ⟨x, hx⟩ : ∃ x, l[t]? = some x := ⟨_, List.getElem?_eq_getElem ht⟩
  have rl : Row W (fun _ => none) la (PP.Cs l) := ⟨hl, fun _ _ _ => rfl⟩
  have r44 := (rl.step h44.st).1
  obtain ⟨ad, rfl⟩ := hl.faddr PP.len (by decide) ht
  show _ ∧ _
  refine ⟨by omega, by omega, x.x.e.w, x.x.e.i, x.x.e.pv, x.x.e.t, x.x.e.tw, x.x.e.ep, x.x.a, x.x.e.body.length, x.x.c, x.x.e.sg, row_x r44 hx, ?_⟩
  show _ ∧ _
  refine ⟨by omega, by omega, x.y.e.w, x.y.e.i, x.y.e.pv, x.y.e.t, x.y.e.tw, x.y.e.ep, x.y.a, x.y.e.body.length, x.y.c, x.y.e.sg, row_y r44 hx, Q01 fun w63 e63 => ?_⟩
  have hb63 : Blk w63 w44.heap.size 36 (PE.Cs [x.x, x.y]) := Blk.of_new (cs := PE.Cs [x.x, x.y]) e63
  have X63 : Ext no w44 w63 := (Ext.refl _ _).x_alloc e63
  refine (Q3J (l := [x.x, x.y]) (RowAt.of_blk hb63) (by simp)).mono fun e w66 ⟨he, hw⟩ => ⟨_, he, ?_⟩
  subst hw
  cases hsh : ([x.x, x.y].all fun p => decide (p.e.body.length ≤ 1500)) with
  | false =>
    rw [show (!false) = true from rfl, cond_true]
    refine (Q1c w66).mono fun e w69 ⟨he, X69⟩ => ⟨_, he, rfl, h44.out (X63.trans X69)⟩
  | true =>
    rw [show (!true) = false from rfl, cond_false]
    have hsh2 : x.x.e.body.length ≤ 1500 ∧ x.y.e.body.length ≤ 1500 := by simpa using hsh
    exact Q2J ap (h44.step0 (Step.of_no X63 h44.st.ok)) hn hl hs hx (hg x (List.mem_of_getElem? hx)) hsh2.1 hsh2.2 hon e27 e28 nx
def ppz : PP := ⟨⟨Ent.zero, none, 0⟩, ⟨Ent.zero, none, 0⟩⟩
theorem Q3d (hl20 : l.length ≤ 20) (hl : RowAt W la (PP.Cs l)) (hg : ∀ x ∈ l, x.good W) (hs : RowAt W sa (xs.map i64V)) : almL.J16 la l.length sa xs.length (R0 W) W := by
  unfold almL.J16
  have ok0 : Tags W (fun _ => none) := fun b j _ h => by cases h
  refine (NewO (l := []) (c := 0) ok0 (RowAt.nil _ _) (by simp)).mono fun v w20 ⟨k, o20, hx, hk, s20, P20⟩ => ⟨_, hx, ?_⟩
  have i0 : OInv (OS.init []) := OInv.init (by simp)
  refine (PairO P20 s20.ok i0.ok (by decide)).mono fun v w24 ⟨o24, hx, s24', P24⟩ => ⟨_, _, hx, ?_⟩
  have i1 := (Q3v i0).1
  have u1 := (Q1Z i0.ok).2
  have z0 : (OS.init []).used.length = 0 := rfl
  have s24 : Step no W (fun _ => none) w24 o24 := s20.trans' s24' fun i hi => .inr (by omega)
  generalize pairOf (OS.init []) = PR at *
  obtain ⟨⟨sec, p⟩, S⟩ := PR
  dsimp only at P24 i1 u1 ⊢
  refine (Q1y s24.ok).mono fun v w27 ⟨j, o27, hx, hj, s27', A27⟩ => ⟨_, hx, Q01 fun w28 e28 => Q01 fun w29 e29 => ?_⟩
  have s27 := s24.trans s27'
  have P27 := P24.step s27' id
  have lk := P24.lt
  have lj := A27.lt
  have X28 : Ext no w27 w28 := (Ext.refl _ _).x_alloc e28
  have hb28 : Blk w28 w27.heap.size 39 (PP.Cs (List.replicate 8 ppz)) := Blk.of_new (cs := PP.Cs (List.replicate 8 ppz)) e28
  have s28' : Step no w27 o27 w28 _ := (Step.of_no X28 s27.ok).tag (Nat.le_refl _) hb28.lt
  have s28 := s27.trans s28'
  have X29 : Ext no w28 w29 := (Ext.refl _ _).x_alloc e29
  have hb29 : Blk w29 w28.heap.size 40 (hasL []) := Blk.of_new (cs := hasL []) e29
  have s29' : Step no w28 _ w29 _ := (Step.of_no X29 s28.ok).tag (Nat.le_refl _) hb29.lt
  have s29 := s28.trans s29'
  have lW24 := s24.size
  have lW27 := s27.size
  have l2427 := s27'.size
  have lq := hb28.lt
  have ap : Apart4 W k j w27.heap.size w28.heap.size := ⟨hk, by omega, lW27, by omega, by omega, by omega, by omega, by omega, by omega, by omega⟩
  have tq : tag (grow w27 o27) w27.heap.size w27.heap.size w27.heap.size = some w27.heap.size := Q0O
  have A29 : AI W k j w27.heap.size w28.heap.size S 100 [] [] w29 _ :=
    ⟨s29, (P27.step s28' id).step s29' id, i1, by omega, (A27.step s28' id).step s29' id,
      ⟨List.replicate 8 ppz, s29'.blk hb28 tq id, by simp, fun y hy => by
        rw [List.eq_of_mem_replicate hy]
        exact ⟨Row.nil _ _ _, Row.nil _ _ _, Nat.le_refl _, Nat.le_refl _⟩, fun i y hy => by
        have := List.eq_of_mem_replicate (List.mem_of_getElem? hy)
        rw [this]; rfl⟩, (s29'.own lq).trans tq, hb29, Q0O, Fine.nil, Fine.nil⟩
  refine ⟨fun m vs w1 => ∃ (t : Nat) (on : Bool) (S : OS) (al : AL) (o1 : Own), vs = [.bool on, .int .i64 t] ∧ m + t = l.length ∧ on = decide (al ≠ []) ∧ AI W k j w27.heap.size w28.heap.size S (100 + 2 * t) al al w1 o1, l.length,
    ⟨0, false, S, [], _, rfl, rfl, by simp, A29⟩, ?_⟩
  rintro m w34 on i ⟨t, on', S, al, o1, hv, hm, hon, h⟩
  simp only [List.cons.injEq, Value.bool.injEq, Value.int.injEq, true_and, and_true] at hv
  obtain ⟨rfl, rfl⟩ := hv
  by_cases ht : t < l.length
  · rw [decide_eq_true (by omega), cond_true]
    refine Q35 ap h (by omega) hl hg hs ht hon rfl rfl fun S al on w o hA hon => ⟨m - 1, by omega, t + 1, on, S, al, o, ?_, by omega, hon, hA.more (by omega)⟩
    rw [w64 (by omega) (by omega)]; simp
  · rw [decide_eq_false (by omega), cond_false]
    refine (Of_nil 0).mono fun e w830 ⟨he, X830⟩ => ⟨0, 0, 0, 0, 0, 0, none, 0, 0, 0, 0, 0, 0, 0, 0, 0, none, 0, 0, 0, false, he, Q01 fun w831 e831 => ?_⟩
    refine Q1g (vs := ppz.C) e831 rfl fun w832 X832 hb832 => ?_
    refine (Q4c (a := Ent.zero) (aa := none) (ac := 0) (b := Ent.zero) (ba := none) (bc := 0) p (some (blk k))).mono fun e w835 ⟨he, X835⟩ => ⟨23, he, ?_⟩
    rw [show ((23 : Int) == 23) = true from rfl, cond_true]
    refine On_nil.mono fun e w838 ⟨he, hw⟩ => ⟨false, he, ?_⟩
    subst hw
    rw [show (!false) = true from rfl, cond_true]
    refine Q3F.mono fun e w841 ⟨he, hw⟩ => ⟨none, 0, 0, he, ?_⟩
    subst hw
    rw [show (((0 : Nat) : Int) == 0) = true from rfl, cond_true, cond_true]
    refine (Q1c w841).mono fun e w844 ⟨he, X844⟩ => ⟨_, he, rfl, h.out (((X830.trans X832).trans X835).trans X844)⟩
end
theorem ForkcheckAlarms_walk (W : World) (a0 : Option Addr) (len0 cap0 : Nat) (a1 : Option Addr) (len1 cap1 : Nat) (o0 : TwosQ W [.slice a0 len0 cap0]) (o1 : IntsQ .i64 W [.slice a1 len1 cap1]) :
    Calls Try.prog 3 #[.slice a0 len0 cap0, .slice a1 len1 cap1] W (Ret (.bool true) fun w' => Ext no W w') := by
  obtain ⟨_, c0, l, e0, l0, _, r0, g0⟩ := o0
  obtain ⟨_, c1, xs, e1, l1, _, r1, g1⟩ := o1
  cases e0; cases e1
  refine (almL.ok a0 l.length cap0 a1 xs.length cap1 (R := R0 W) ?_).mono fun e w' ⟨v, he, hv, X⟩ => ⟨by rw [he, hv], X⟩
  unfold almL.M
  by_cases h20 : l.length ≤ 20
  · rw [decide_eq_false (by omega), cond_false]
    exact Q3d h20 r0 g0 r1
  · rw [decide_eq_true (by omega), cond_true]
    exact (Q1c W).mono fun e w5 ⟨he, X5⟩ => ⟨_, he, rfl, X5⟩
end Go.Proofs.Ytebghegecofmhaa