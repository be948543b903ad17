/- Disk: settle, Sync, Restart, Copy, New. -/
import Derived.Test.YtgelicciggjpaaaZB
import Derived.Test.YtgelicciggjpaaaZA
set_option linter.unusedVariables false
set_option linter.unusedSimpArgs false
set_option maxRecDepth 20000
set_option maxHeartbeats 4000000
namespace Go.Proofs.Ytgelicciggjpaaa
open Go Go.Mx Go.Proofs
open W (OwnB)
section
variable {K : Nat → Prop} {w w' w1 : World} {o o' o1 : Own} {g g2 m : Nat} {d : DS} {i : Int} {a : Option Addr} {c : Nat} {l : List Wt}
/-- a disk in memory whose rows lie where they lay. -/
structure DGa (w : World) (o : Own) (g : Nat) (d : DS) (ga : Option Addr) (gc : Nat) (pa : Option Addr) (pc : Nat) : Prop where
  b : Blk w g 58 (d.V ga gc pa pc)
  hg : SRw w o g ga gc d.good
  hp : WRw w o g pa pc d.pend
  tg : o g = some g
variable {ga pa : Option Addr} {gc pc : Nat}
theorem DGa.dg (h : DGa w o g d ga gc pa pc) : DG w o g d := ⟨⟨ga, gc, pa, pc, h.b, h.hg, h.hp⟩, h.tg⟩
theorem DGa.step (h : DGa w o g d ga gc pa pc) (s : Step K w o w' o') (hk : ¬ K g) : DGa w' o' g d ga gc pa pc :=
  ⟨s.blk h.b h.tg hk, h.hg.step s hk, h.hp.step s hk, by rw [s.own h.b.lt]; exact h.tg⟩
/-- a sector of its stored. -/
theorem DGa.put (h : DGa w o g d ga gc pa pc) (ok : Tags w o) {j : Nat} (hj : j < d.good.length) (s : Sec) {ad : Addr} (ha : ga = some ad) {Φ : World → Prop}
    (hΦ : ∀ w' o', Step (fun i => i = g) w o w' o' → DGa w' o' g { d with good := d.good.set j s } ga gc pa pc → Φ w') : storesK (ad.add (j * 65)) s.C 0 w Φ := by
  have hne : d.good.flatMap Sec.C ≠ [] := fun e => by
    have := congrArg List.length e
    rw [flat_length Sec.len] at this; simp at this; omega
  obtain ⟨b, cur, hb, hbb, hle, hob, hbl, hput⟩ := Grows.put (j := j * 65) (vs := s.C) h.hg ok hne
  rw [ha] at hb
  cases hb
  rw [flat_length Sec.len] at hle
  have h2 : (j + 1) * 65 ≤ d.good.length * 65 := Nat.mul_le_mul_right _ hj
  refine storesK_blk (k := j * 65) (j := 0) hbb (by rw [s.len]; omega) s.one fun w' X hb' => ?_
  obtain ⟨st, hg2⟩ := hput w' X hb'
  rw [setAll_flat Sec.len s hj] at hg2
  have hgb : g ≠ b := fun e => h.hg.ne h.b (by decide) (blk b) ha (by rw [e])
  refine hΦ w' _ st ⟨?_, by unfold SRw; rw [List.length_set]; exact hg2, h.hp.keep X (fun ad2 h3 h4 => h.hp.apart h.hg (by decide) ad2 (blk b) h3 ha h4) (fun b hb => st.own hb), by rw [st.own h.b.lt]; exact h.tg⟩
  have e : DS.V { d with good := d.good.set j s } ga gc pa pc = d.V ga gc pa pc := by unfold DS.V; simp
  rw [e]
  exact h.b.ext X hgb
theorem settleL_len (k : Nat → Bool) : ∀ (l : List Wt) (t : Nat) (gl : List Sec), (settleL k t gl l).length = gl.length
  | [], _, _ => rfl
  | x :: r, t, gl => by
    rw [settleL, settleL_len k r]
    split
    · rw [List.length_set]
    · rfl
theorem settle_spec (h : DG w o g d) (ok : Tags w o) (hd : d.ok m) (hm : m < 100000) {kk : Nat} {kf kg : Array Value} {k : Nat → Bool}
    (hk : ∀ (t : Nat) w1 o1, t < d.pend.length → Step (fun j => j = g) w o w1 o1 → enters Try.prog kk = true ∧ Calls Try.prog kk (kf.toList ++ ([.int .i64 (t : Int)] : List Value) ++ kg.toList).toArray w1 (Ret (.bool (k t)) fun w2 => w2 = w1)) :
    Calls Try.prog 27 #[.pointer (some (blk g)), .func (.func kk) kf kg] w (Ret (.tuple #[]) fun w' => ∃ o', Step (fun j => j = g) w o w' o' ∧ DG w' o' g (settleD d k)) := by
  refine disk_Disk_settle.run _ _ _ _ ?_
  unfold disk_Disk_settle.N
  obtain ⟨⟨ga, gc, pa, pc, hb, hg, hp⟩, tg⟩ := h
  have hpl := hd.pl
  refine ⟨_, rfl, pa, _, pc, hb.celli 1 rfl rfl, fun q vs w1 => ∃ (t : Nat) (gl : List Sec) (o1 : Own), vs = [.int .i64 t] ∧ q + t = d.pend.length ∧ Step (fun j => j = g) w o w1 o1 ∧ DGa w1 o1 g { d with good := gl } ga gc pa pc ∧ gl.length = d.good.length ∧ settleL k t gl (d.pend.drop t) = settleL k 0 d.good d.pend, d.pend.length, ⟨0, d.good, o, rfl, rfl, Step.refl _ ok, ⟨hb, hg, hp, tg⟩, rfl, rfl⟩, ?_⟩
  rintro q w9 t0 ⟨t, gl, o9, hi, hq, s9, D, hgl, hset⟩
  simp only [List.cons.injEq, Value.int.injEq, true_and, and_true] at hi
  subst hi
  refine ⟨fun ht => ?_, fun ht => ?_⟩
  · have htl : t < d.pend.length := by omega
    have hgp : d.pend[t]? = some d.pend[t] := List.getElem?_eq_getElem htl
    have hat := hd.at_ _ (List.getElem_mem htl)
    rw [List.drop_eq_getElem_cons htl, settleL] at hset
    generalize d.pend[t] = x at *
    have hpr := D.hp.row
    obtain ⟨pd, hpd⟩ := hpr.faddr Wt.len (by decide) htl
    subst hpd
    refine ⟨pd, rfl, by omega, by omega, x.C.toArray, x.arr, by rw [Int.toNat_natCast]; exact hpr.floads Wt.len hgp, fun w14 q15 X14 hb14 hq1 hq2 => ⟨x.arr, stores_all hb14 (by rw [x.len]; simp) x.one fun w16 X16 hb16 => ?_⟩⟩
    have s14 := (Step.of_no X14 s9.ok).tag (j := q15) hq1 hq2
    have M14 : Mine [q15] w14 (tag (grow w9 o9) q15 q15) := fun p hp => by rw [show p = q15 by simpa using hp]; exact ⟨hq2, tag_self⟩
    have s16' := Step.stores X16 s14.ok M14 (by simp)
    have s16 : Step no w9 o9 w16 _ := s14.trans' s16' fun j hj => .inr (by simp at hj; omega)
    have sw16 := s9.trans s16.none
    obtain ⟨hen, hcall⟩ := hk t w16 _ htl sw16
    have D16 := D.step s16 id
    refine ⟨hen, hcall.mono fun e w19 ⟨he, hw⟩ => ⟨_, he, fun hr => ?_, fun hr => ?_⟩⟩
    all_goals subst hw
    · rw [if_pos hr] at hset
      have hgr := D16.hg.row
      obtain ⟨gd, hgd⟩ := hgr.faddr Sec.len (by decide) (i := x.i.toNat) (by show _ < gl.length; omega)
      subst hgd
      refine ⟨some gd, _, gc, D16.b.celli 0 rfl rfl, x.i, hb16.celli 0 rfl rfl, x.s.C.toArray, x.s.arr, cellsAt_blk (k := 1) hb16 _ 0 fun n v hv => by rw [show 1 + 0 + n = n + 1 by omega]; exact hv, gd, rfl, hat.1, by show x.i < ((gl.length : Nat) : Int); omega, fun w21 X21 => ⟨x.s.arr, ?_⟩⟩
      have s21' := Step.of_no X21 sw16.ok
      have D21 := D16.step s21' id
      refine D21.put s21'.ok (j := x.i.toNat) (by show _ < gl.length; omega) x.s rfl fun w29 o29 s29 D29 => ⟨by omega, by omega, q - 1, by omega, t + 1, gl.set x.i.toNat x.s, o29, rfl, by omega, (sw16.trans s21'.none).trans s29, D29, by rw [List.length_set]; exact hgl, hset⟩
    · rw [if_neg (by rw [hr]; decide)] at hset
      exact ⟨by omega, by omega, q - 1, by omega, t + 1, gl, _, rfl, by omega, sw16, D16, hgl, hset⟩
  · have htt : t = d.pend.length := by omega
    rw [List.drop_eq_nil_of_le (by omega)] at hset
    refine ⟨D.b.cani 1 rfl rfl, thenW_in fun w32 e32 => ?_⟩
    have X32 := (Ext.refl (fun b => b = g) w9).x_set (q := g) (i := 1) rfl (.inl rfl) e32
    have b32 := D.b.seti 1 (v := .slice none 0 0) rfl e32
    obtain ⟨s32, D32⟩ := DG.turn (d2 := { d with good := gl, pend := [] }) D.hg (Grows.nil _ _ _ _ _) D.tg D.b s9.ok X32 b32
    refine ⟨rfl, _, s9.trans s32, ?_⟩
    have e : settleD d k = { d with good := gl, pend := [] } := by
      unfold settleD; rw [← hset]; rfl
    rw [e]; exact D32
theorem settleD_ok (hd : d.ok m) (k : Nat → Bool) : (settleD d k).ok m := by
  have h := settleL_len k d.pend 0 d.good
  exact ⟨by show 1 ≤ (settleL _ _ _ _).length; rw [h]; exact hd.n1, by show (settleL _ _ _ _).length ≤ 400; rw [h]; exact hd.n2, fun x hx => (by cases hx), Nat.zero_le _, hd.cl, hd.left⟩
theorem dSync_spec (h : DG w o g d) (ok : Tags w o) (hd : d.ok m) (hm : m < 100000) : Calls Try.prog 12 #[.pointer (some (blk g))] w (Ret (.int .i64 (syncD d).2) fun w' => ∃ o', Step (fun j => j = g) w o w' o' ∧ DG w' o' g (syncD d).1) := by
  refine disk_Disk_Sync.run _ ?_
  unfold disk_Disk_Sync.N
  refine (is_spec h).mono fun e w4 ⟨he, hw⟩ => ⟨_, he, fun hn => ?_, fun h0 => ?_⟩
  all_goals subst hw
  · unfold isD at hn ⊢; unfold syncD
    cases hdn : d.down
    · rw [hdn] at hn; exact absurd rfl hn
    · exact ⟨rfl, o, Step.refl _ ok, h⟩
  · have hS : syncD d = (settleD d fun _ => true, 0) := by
      unfold syncD; rw [if_neg]
      intro hdn; unfold isD at h0; rw [if_pos hdn] at h0; cases h0
    rw [hS]
    refine (settle_spec h ok hd hm (k := fun _ => true) fun t w1 o1 ht s => ⟨by kernel_rfl, by refine disk_Disk_Sync_1.run _ ?_; exact ⟨rfl, rfl⟩⟩).mono fun e w7 ⟨he, o', s, D⟩ => ⟨he, rfl, o', s, D⟩
def boolsV (l : List Bool) : List Value := l.map Value.bool
theorem cHas_spec {ka : Option Addr} {kc : Nat} {kl : List Bool} (hr : RowAt w ka (boolsV kl)) (t : Nat) : Calls Try.prog 31 #[.slice ka kl.length kc, .int .i64 t] w (Ret (.bool (keepF kl t)) fun w' => w' = w) := by
  refine disk_choice_has.run _ _ _ _ ?_
  unfold disk_choice_has.N keepF
  refine ⟨fun ht => ?_, fun ht => ?_⟩
  · have htl : t < kl.length := by omega
    have hg : kl[t]? = some kl[t] := List.getElem?_eq_getElem htl
    have hgv : (boolsV kl)[t]? = some (.bool kl[t]) := by unfold boolsV; rw [List.getElem?_map, hg]; rfl
    rw [hg]
    obtain ⟨ad, rfl⟩ := hr.addr fun e => by rw [e] at hgv; cases hgv
    refine ⟨ad, rfl, by omega, by omega, kl[t], by rw [Int.toNat_natCast, Nat.mul_one]; exact hr.at_ hgv, rfl, rfl⟩
  · rw [List.getElem?_eq_none (by omega)]
    exact ⟨rfl, rfl⟩
theorem dRestart_spec (h : DG w o g d) (ok : Tags w o) (hd : d.ok m) (hm : m < 100000) {ka : Option Addr} {kc : Nat} {kl : List Bool} (hr : Row w o ka (boolsV kl)) : Calls Try.prog 15 #[.pointer (some (blk g)), .slice ka kl.length kc] w (Ret (.int .i64 0) fun w' => ∃ o', Step (fun j => j = g) w o w' o' ∧ DG w' o' g (restartD d kl)) := by
  refine disk_Disk_Restart.run _ _ _ _ ?_
  unfold disk_Disk_Restart.N
  refine ⟨fun h => (by cases h), fun _ => ?_⟩
  refine (settle_spec h ok hd hm (k := keepF kl) fun t w1 o1 ht s => ⟨by kernel_rfl, by exact cHas_spec (hr.step s).1 t⟩).mono fun e w5 ⟨he, o5, s5, D⟩ => ⟨he, _, rfl, ?_⟩
  obtain ⟨⟨ga, gc, pa, pc, hb, hg, hp⟩, tg⟩ := D
  refine ⟨hb.cani 4 rfl rfl, thenW_in fun w7 e7 => ?_⟩
  have X7 := (Ext.refl (fun b => b = g) w5).x_set (q := g) (i := 4) rfl (.inl rfl) e7
  have b7 := hb.seti 4 (v := .int .i64 0) rfl e7
  refine ⟨b7.cani 3 rfl rfl, thenW_in fun w8 e8 => ?_⟩
  have X8 := X7.x_set (q := g) (i := 3) rfl (.inl rfl) e8
  have b8 := b7.seti 3 (v := .bool false) rfl e8
  obtain ⟨s8, D8⟩ := DG.turn (d2 := restartD d kl) hg hp tg hb s5.ok X8 b8
  exact ⟨rfl, _, s5.trans s8, D8⟩
theorem Secs.one {l : List Sec} : ∀ u ∈ l.flatMap Sec.C, u.oneCell' = true := fun u hu => by
  obtain ⟨x, _, h⟩ := List.mem_flatMap.1 hu
  exact x.one u h
theorem cloneS_spec (ok : Tags w o) (hg : g < w.heap.size) {l : List Sec} (hr : RowAt w a (l.flatMap Sec.C)) (hl : l.length < 1000000) :
    Calls Try.prog 29 #[.slice a l.length c] w (fun x w' => ∃ o' a' c', x = .returned (.slice a' l.length c') ∧ Step (fun j => j = g) w o w' o' ∧ SRw w' o' g a' c' l ∧ Ext no w w') := by
  refine (slices_Clone_disk_sector_disk_sector.go _ _ _ (R := fun v w' => ∃ o' a' c', v = (.slice a' l.length c') ∧ Step (fun j => j = g) w o w' o' ∧ SRw w' o' g a' c' l ∧ Ext no w w') ?_).mono fun x w' ⟨v, he, o', a', c', hv, hw⟩ => ⟨o', a', c', by rw [he, hv], hw⟩
  unfold slices_Clone_disk_sector_disk_sector.N
  refine ⟨fun hn => ?_, fun hn w3 q X hb hq hq' => ?_⟩
  · subst hn
    have h0 := hr.none_nil
    have : l = [] := by
      have := flat_length (f := Sec.C) Sec.len l
      rw [h0] at this
      exact List.eq_nil_of_length_eq_zero (by simp at this; omega)
    subst this
    exact ⟨o, none, 0, rfl, Step.refl _ ok, Grows.nil _ _ _ _ _, Ext.refl _ _⟩
  · obtain ⟨i, hi, hz, hsz, hby⟩ := info_of inf61
    have s3 := (Step.of_no X ok).tag (j := g) hq (Nat.lt_of_lt_of_le hg X.size)
    have g3 : Grows 61 65 w3 (tag (grow w o) q g) g (some (blk q)) 0 0 [] := ⟨owns_of_blk hb rfl (Nat.zero_le _), fun ad ha => by cases ha; exact ⟨tag_self, hq'⟩⟩
    obtain ⟨a', c', w6, o6, hrun, s6, hrow, hkk, _⟩ := g3.push (ty := 54) Try.underlying54 hi hz hsz hby rfl (by decide) s3.ok (Nat.lt_of_lt_of_le hg X.size) (xa := a) (m := l.length) (xc := c) (news := l.flatMap Sec.C) (flat_length Sec.len l) (hr.no X) Secs.one (by omega) (by omega)
    rw [Nat.zero_add, List.nil_append] at hrow
    rw [Nat.zero_add] at hrun
    have X6 : Ext (fun b => b = q) w3 w6 := ⟨s6.ext.os, s6.ext.tape, s6.ext.output, s6.ext.size, fun b hb hn => hkk b hb fun ad ha hb' => hn (by cases ha; exact hb')⟩
    exact ⟨a', _, c', w6, hrun, o6, a', c', rfl, s3.none.trans s6, hrow, X.then X6 fun b hb => .inr (by omega)⟩
theorem cloneW_spec (ok : Tags w o) (hg : g < w.heap.size) (hr : RowAt w a (l.flatMap Wt.C)) (hl : l.length < 1000000) :
    Calls Try.prog 30 #[.slice a l.length c] w (fun x w' => ∃ o' a' c', x = .returned (.slice a' l.length c') ∧ Step (fun j => j = g) w o w' o' ∧ WRw w' o' g a' c' l ∧ Ext no w w') := by
  refine (slices_Clone_disk_write_disk_write.go _ _ _ (R := fun v w' => ∃ o' a' c', v = (.slice a' l.length c') ∧ Step (fun j => j = g) w o w' o' ∧ WRw w' o' g a' c' l ∧ Ext no w w') ?_).mono fun x w' ⟨v, he, o', a', c', hv, hw⟩ => ⟨o', a', c', by rw [he, hv], hw⟩
  unfold slices_Clone_disk_write_disk_write.N
  refine ⟨fun hn => ?_, fun hn w3 q X hb hq hq' => ?_⟩
  · subst hn
    have h0 := hr.none_nil
    have : l = [] := by
      have := flat_length (f := Wt.C) Wt.len l
      rw [h0] at this
      exact List.eq_nil_of_length_eq_zero (by simp at this; omega)
    subst this
    exact ⟨o, none, 0, rfl, Step.refl _ ok, Grows.nil _ _ _ _ _, Ext.refl _ _⟩
  · have s3 := (Step.of_no X ok).tag (j := g) hq (Nat.lt_of_lt_of_le hg X.size)
    have g3 : WRw w3 (tag (grow w o) q g) g (some (blk q)) 0 [] := ⟨owns_of_blk hb rfl (Nat.zero_le _), fun ad ha => by cases ha; exact ⟨tag_self, hq'⟩⟩
    obtain ⟨a', n', c', w6, o6, hrun, hn', s6, hrow, X6⟩ := g3.push s3.ok (Nat.lt_of_lt_of_le hg X.size) (by simp) (xa := a) (xc := c) (hr.no X) hl
    rw [List.nil_append] at hrow hn'
    exact ⟨a', n', c', w6, hrun, o6, a', c', by rw [hn'], s3.none.trans s6, hrow, X.then X6 fun b ⟨ad, h1, h2⟩ => .inr (by cases h1; rw [h2]; exact hq)⟩
theorem dCopy_spec (h : DG w o g d) (ok : Tags w o) (hd : d.ok m) (hm : m < 100000) : Calls Try.prog 13 #[.pointer (some (blk g))] w (fun x w' => ∃ q o', x = .returned (.pointer (some (blk q))) ∧ w.heap.size ≤ q ∧ Step no w o w' o' ∧ DG w' o' q d) := by
  refine (disk_Disk_Copy.go _ (R := fun v w' => ∃ q o', v = (.pointer (some (blk q))) ∧ w.heap.size ≤ q ∧ Step no w o w' o' ∧ DG w' o' q d) ?_).mono fun x w' ⟨v, he, q, o', hv, hw⟩ => ⟨q, o', by rw [he, hv], hw⟩
  unfold disk_Disk_Copy.N
  refine ⟨fun h => (by cases h), fun _ => ?_⟩
  have hpl := hd.pl
  have hn2 := hd.n2
  obtain ⟨⟨ga, gc, pa, pc, hb, hg, hp⟩, tg⟩ := h
  refine ⟨_, rfl, ga, _, gc, pa, _, pc, d.left, d.armed, stI d.down, d.count, ⟨hb.celli 0 rfl rfl, hb.celli 1 rfl rfl, hb.celli 2 rfl rfl, hb.celli 3 rfl rfl, hb.celli 4 rfl rfl, hb.celli 5 rfl rfl, trivial⟩, fun w11 q12 X11 hb11 hq hq' => ?_⟩
  have hgq : g ≠ q12 := by have := hb.lt; omega
  have s11 := (Step.of_no X11 ok).tag (j := q12) hq hq'
  have M11 : Mine [q12] w11 (tag (grow w o) q12 q12) := fun p hp => by rw [show p = q12 by simpa using hp]; exact ⟨hq', tag_self⟩
  refine ⟨hb11.cani 0 rfl rfl, thenW_in fun w13 e13 => ?_⟩
  have X13 := (Ext.refl (fun b => b = q12) w11).x_set (q := q12) (i := 0) rfl (.inl rfl) e13
  have b13 := hb11.seti 0 (v := .slice ga d.good.length gc) rfl e13
  refine ⟨b13.cani 1 rfl rfl, thenW_in fun w14 e14 => ?_⟩
  have X14 := X13.x_set (q := q12) (i := 1) rfl (.inl rfl) e14
  have b14 := b13.seti 1 (v := .slice pa d.pend.length pc) rfl e14
  refine ⟨b14.cani 2 rfl rfl, thenW_in fun w15 e15 => ?_⟩
  have X15 := X14.x_set (q := q12) (i := 2) rfl (.inl rfl) e15
  have b15 := b14.seti 2 (v := .int .i64 d.left) rfl e15
  refine ⟨b15.cani 3 rfl rfl, thenW_in fun w16 e16 => ?_⟩
  have X16 := X15.x_set (q := q12) (i := 3) rfl (.inl rfl) e16
  have b16 := b15.seti 3 (v := .bool d.armed) rfl e16
  refine ⟨b16.cani 4 rfl rfl, thenW_in fun w17 e17 => ?_⟩
  have X17 := X16.x_set (q := q12) (i := 4) rfl (.inl rfl) e17
  have b17 := b16.seti 4 (v := .int .i64 (stI d.down)) rfl e17
  refine ⟨b17.cani 5 rfl rfl, thenW_in fun w18 e18 => ?_⟩
  have X18 := X17.x_set (q := q12) (i := 5) rfl (.inl rfl) e18
  have b18 := b17.seti 5 (v := .int .i64 d.count) rfl e18
  have s18' := Step.stores X18 s11.ok M11 (by simp)
  have s18 : Step no w o w18 _ := s11.trans' s18' fun j hj => .inr (by simp at hj; omega)
  have M18 := M11.step s18'
  have hb18 := s18.blk hb tg id
  refine ⟨ga, _, gc, hb18.celli 0 rfl rfl, pa, _, pc, hb18.celli 1 rfl rfl, fun w19 X19 => ?_⟩
  have s19' := Step.of_no X19 s18'.ok
  have s19 := s18.trans s19'
  have b19 := s19'.blk b18 (M18 q12 (by simp)).2 id
  have M19 := M18.step s19'
  have hq19 := M19.lt (p := q12) (by simp)
  refine (cloneS_spec (g := q12) s19'.ok hq19 (hg.step s19 id).row (by omega)).mono fun e w26 ⟨o26, a26, c26, he, s26, r26, X26⟩ => ⟨_, _, _, he, ?_⟩
  have s26w : Step no w o w26 o26 := s19.trans' s26 fun j hj => .inr (by omega)
  refine ⟨(s26w.blk hb tg id).celli 1 rfl rfl, (cloneW_spec (g := q12) s26.ok (Nat.lt_of_lt_of_le hq19 s26.size) (hp.step s26w id).row (by omega)).mono fun e w30 ⟨o30, a30, c30, he, s30, r30, X30⟩ => ⟨_, _, _, he, ?_⟩⟩
  have hq26 := Nat.lt_of_lt_of_le hq19 s26.size
  have s30w : Step no w o w30 o30 := s26w.trans' s30 fun j hj => .inr (by omega)
  have t26 : o26 q12 = some q12 := by rw [s26.own hq19]; exact (M19 q12 (by simp)).2
  have t30 : o30 q12 = some q12 := by rw [s30.own hq26]; exact t26
  have b30 := (b19.ext X26 fun h => h).ext X30 fun h => h
  refine ⟨b30.cani 0 rfl rfl, thenW_in fun w31 e31 => ?_⟩
  have X31 := (Ext.refl (fun b => b = q12) w30).x_set (q := q12) (i := 0) rfl (.inl rfl) e31
  have b31 := b30.seti 0 (v := .slice a26 d.good.length c26) rfl e31
  refine ⟨b31.cani 1 rfl rfl, thenW_in fun w32 e32 => ?_⟩
  have X32 := X31.x_set (q := q12) (i := 1) rfl (.inl rfl) e32
  have b32 := b31.seti 1 (v := .slice a30 d.pend.length c30) rfl e32
  have r26' : SRw w30 o30 q12 a26 c26 d.good := r26.keep X30 (fun _ _ h => h) fun b hb => s30.own hb
  obtain ⟨s32, D32⟩ := DG.turn (d2 := d) r26' r30 t30 b30 s30.ok X32 b32
  exact ⟨q12, _, rfl, hq, s30w.trans' s32 fun j hj => .inr (by omega), D32⟩
theorem zero_sectors (n : Nat) (z : Array Value) (hz : z.toList = Sec.z.C) : madeCells z (n * 65) = ((List.replicate n Sec.z).flatMap Sec.C).toArray := by
  apply Array.ext'
  apply List.ext_getElem?
  intro j
  have hzs : z.size = 65 := by rw [← Array.length_toList, hz, Sec.len]
  by_cases hj : j < n * 65
  · have h1 : j / 65 < n := by omega
    have h2 : (List.replicate n Sec.z)[j / 65]? = some Sec.z := by rw [List.getElem?_replicate, if_pos h1]
    have h3 := flat_get Sec.len h2 (j % 65) (by omega)
    rw [show j / 65 * 65 + j % 65 = j by omega] at h3
    show _ = ((List.replicate n Sec.z).flatMap Sec.C)[j]?
    rw [h3]
    have h4 : j % 65 < z.size := by omega
    have h5 : (madeCells z (n * 65)).toList[j]? = some (z[j % z.size]!) := by
      unfold madeCells
      simp [hj]
    rw [h5, hzs, getElem!_pos z (j % 65) h4, ← hz, List.getElem?_eq_getElem (by simpa using h4)]
    simp
  · rw [List.getElem?_eq_none (by unfold madeCells; simp; omega), List.getElem?_eq_none (by show ((List.replicate n Sec.z).flatMap Sec.C).length ≤ j; rw [flat_length Sec.len]; simp; omega)]
def newDS (n : Nat) : DS := ⟨List.replicate n Sec.z, [], 0, false, false, 0⟩
theorem dNew_spec (ok : Tags w o) {n : Nat} (h1 : 1 ≤ n) (h2 : n ≤ 400) : Calls Try.prog 9 #[.int .i64 n] w (fun x w' => ∃ q o', x = .returned (.tuple #[.pointer (some (blk q)), .int .i64 0]) ∧ w.heap.size ≤ q ∧ Step no w o w' o' ∧ DG w' o' q (newDS n)) := by
  refine (disk_New.go _ (R := fun v w' => ∃ q o', v = (.tuple #[.pointer (some (blk q)), .int .i64 0]) ∧ w.heap.size ≤ q ∧ Step no w o w' o' ∧ DG w' o' q (newDS n)) ?_).mono fun x w' ⟨v, he, q, o', hv, hw⟩ => ⟨q, o', by rw [he, hv], hw⟩
  unfold disk_New.N
  obtain ⟨i, hi, hz, hs, hb⟩ := info_of inf61
  have hmk := run_makeSlice (P := Try.prog) (w := w) 54 61 i _ Try.underlying54 hi hz .i64 .i64 n n (by omega) (Int.le_refl _) (by rw [hs]; omega) (by rw [hb]; omega) (by omega)
  have hzz : madeCells (Value.agg (List.replicate 64 (Value.int IntKind.u8 0) ++ [Value.bool false]).toArray).cells (n * 65) = ((List.replicate n Sec.z).flatMap Sec.C).toArray := zero_sectors n _ rfl
  rw [hs, Int.toNat_natCast, hzz] at hmk
  refine ⟨fun h => by omega, fun _ => ⟨fun h => by omega, fun _ => ⟨_, _, _, _, hmk, fun w6 q7 X6 hb6 hq hq' => ?_⟩⟩⟩
  have X5 : Ext no w (w.alloc (.cells ((List.replicate n Sec.z).flatMap Sec.C).toArray 61)) := (Ext.refl _ _).alloc _
  have b5 : Blk (w.alloc (.cells ((List.replicate n Sec.z).flatMap Sec.C).toArray 61)) w.heap.size 61 ((List.replicate n Sec.z).flatMap Sec.C) := Blk.new _ _ _
  have b6 := b5.ext X6 fun h => h
  have hsz : (w.alloc (.cells ((List.replicate n Sec.z).flatMap Sec.C).toArray 61)).heap.size = w.heap.size + 1 := by simp
  rw [hsz] at hq
  have s6 := ((Step.of_no (X5.trans X6) ok).tag (p := w.heap.size) (j := q7) (Nat.le_refl _) hq').tag (p := q7) (j := q7) (by omega) hq'
  refine ⟨q7, _, rfl, by omega, s6, ⟨some (blk w.heap.size), n, none, 0, ?_, ⟨?_, fun ad ha => ?_⟩, Grows.nil _ _ _ _ _⟩, tag_self⟩
  · have e : (newDS n).V (some (blk w.heap.size)) n none 0 = [.slice (some (blk w.heap.size)) n n, .slice none 0 0, .int .i64 0, .bool false, .int .i64 0, .int .i64 0] := by unfold DS.V newDS; simp [stI]
    rw [e]; exact hb6
  · have hn : (newDS n).good.length = n := by unfold newDS; simp
    rw [hn]
    exact owns_of_blk b6 (by rw [flat_length Sec.len, hn]) (by unfold maxLen; omega)
  · cases ha
    exact ⟨by rw [tag_ne (by show w.heap.size ≠ q7; omega)]; exact tag_self, b6.lt⟩
end
end Go.Proofs.Ytgelicciggjpaaa

/- Disk: the statements' small functions: Sector, light, what is given, the chapter's example. -/
set_option linter.unusedVariables false
set_option linter.unusedSimpArgs false
set_option maxRecDepth 20000
set_option maxHeartbeats 4000000
namespace Go.Proofs.Ytgelicciggjpaaa
open Go Go.Mx Go.Proofs
open W (OwnB)
section
variable {K : Nat → Prop} {w w' w1 : World} {o o' o1 : Own} {g g2 m : Nat} {d : DS} {i : Int} {a : Option Addr} {c : Nat}
theorem dmk_bytes (w : World) (n : Nat) (hn : n < 1000000) : ∃ w', (Instr.makeSlice 33 (.int .i64 n) (.int .i64 n)).run Try.prog w = .ok (.slice (some (blk w.heap.size)) n n) w' ∧ Ext no w w' ∧ Blk w' w.heap.size 5 (bytesV (List.replicate n 0)) ∧ w.heap.size < w'.heap.size := by
  obtain ⟨i, hi, hz, hs, hb⟩ := info_of inf5
  have hmk := run_makeSlice (P := Try.prog) (w := w) 33 5 i _ Try.underlying33 hi hz .i64 .i64 n n (by omega) (Int.le_refl _) (by rw [hs]; omega) (by rw [hb]; omega) (by omega)
  rw [hs, Int.toNat_natCast] at hmk
  have hcells : (madeCells (Value.int .u8 0).cells (n * 1)) = (bytesV (List.replicate n 0)).toArray := by
    apply Array.ext'
    rw [show (Value.int .u8 0).cells = #[Value.int .u8 0] from rfl, toList_madeCells_one, Nat.mul_one]
    show _ = bytesV _
    rw [bytesV, List.map_replicate]; rfl
  rw [hcells] at hmk
  exact ⟨_, hmk, (Ext.refl _ _).alloc _, Blk.new _ _ _, by simp⟩
def byteOf (x : Int) : UInt8 := UInt8.ofNat x.toNat
theorem byteOf_V {x : Int} (h : 0 ≤ x ∧ x < 256) : Value.int .u8 x = Value.int .u8 ((byteOf x).toNat : Int) := by
  unfold byteOf
  have : (UInt8.ofNat x.toNat).toNat = x.toNat := by simp; omega
  rw [this]; congr 1; omega
def secB (x : Int) (short : Bool) : List UInt8 := List.replicate (if short then 63 else 64) (byteOf x)
theorem fill_row (w : World) (n : Nat) (v : UInt8) {q : Nat} {w9 : World} {t : Nat} (hb : Blk w9 q 5 (bytesV (List.replicate t v ++ List.replicate (n - t) 0))) (ht : t < n) {w12 : World} (e : w12 = w9.setCell ⟨q, t, none⟩ (.int .u8 (v.toNat : Int))) : Blk w12 q 5 (bytesV (List.replicate (t + 1) v ++ List.replicate (n - (t + 1)) 0)) := by
  have h := hb.seti t (v := .int .u8 (v.toNat : Int)) rfl e
  have e2 : (bytesV (List.replicate t v ++ List.replicate (n - t) 0)).set t (.int .u8 (v.toNat : Int)) = bytesV (List.replicate (t + 1) v ++ List.replicate (n - (t + 1)) 0) := by
    unfold bytesV
    rw [show (Value.int .u8 (v.toNat : Int)) = u8V v from rfl, ← List.map_set]
    congr 1
    rw [List.set_append_right _ _ (by simp), List.length_replicate, Nat.sub_self, show n - t = (n - (t + 1)) + 1 by omega, List.replicate_succ, List.set_cons_zero, List.replicate_succ']
    simp
  rw [e2] at h; exact h
theorem Sector_spec (ok : Tags w o) {x : Int} (hx : 0 ≤ x ∧ x < 256) (short : Bool) :
    Calls Try.prog 11 #[.int .u8 x, .bool short] w (fun y w' => ∃ a c o', y = .returned (.slice a (secB x short).length c) ∧ Step no w o w' o' ∧ Row w' o' a (bytesV (secB x short)) ∧ (secB x short).length ≤ c) := by
  refine (cachettelaw09_Sector.go _ _ (R := fun v w' => ∃ a c o', v = (.slice a (secB x short).length c) ∧ Step no w o w' o' ∧ Row w' o' a (bytesV (secB x short)) ∧ (secB x short).length ≤ c) ?_).mono fun y w' ⟨v, he, a, c, o', hv, hw⟩ => ⟨a, c, o', by rw [he, hv], hw⟩
  unfold cachettelaw09_Sector.N
  refine ⟨fun hs => ⟨by decide, by decide, ?_⟩, fun hs => ?_⟩
  · obtain ⟨w5, hmk, X5, b5, hlt⟩ := dmk_bytes w 63 (by decide)
    refine ⟨_, _, _, w5, hmk, fun m vs w1 => ∃ t : Nat, vs = [.int .i64 t] ∧ m + t = 63 ∧ Ext no w w1 ∧ Blk w1 w.heap.size 5 (bytesV (List.replicate t (byteOf x) ++ List.replicate (63 - t) 0)), 63, ⟨0, rfl, rfl, X5, b5⟩, ?_⟩
    rintro m w9 i ⟨t, hi, hm, X9, b9⟩
    simp only [List.cons.injEq, Value.int.injEq, true_and, and_true] at hi
    subst hi
    refine ⟨fun ht => ⟨_, rfl, by omega, by omega, ?_⟩, fun ht => ?_⟩
    · have e1 : (((blk w.heap.size).add (Int.toNat (t : Int) * 1)).add 0) = ⟨w.heap.size, t, none⟩ := by rw [add_add, add_blk]; congr 1; omega
      show canStore w9 (((blk w.heap.size).add (Int.toNat (t : Int) * 1)).add 0) ∧ thenW (w9.setCell (((blk w.heap.size).add (Int.toNat (t : Int) * 1)).add 0) (.int .u8 x)) _
      rw [e1, byteOf_V hx]
      have hc : t < (bytesV (List.replicate t (byteOf x) ++ List.replicate (63 - t) 0)).length := by rw [bytesV_length]; simp; omega
      refine ⟨by have := b9.cana (List.getElem?_eq_getElem hc); rwa [add_blk] at this, thenW_in fun w12 e12 => ⟨by omega, by omega, m - 1, by omega, t + 1, rfl, by omega, ?_, fill_row w 63 _ b9 (by omega) e12⟩⟩
      exact X9.then (Ext.x_set (m := fun b => b = w.heap.size) (q := w.heap.size) (i := t) (Ext.refl _ _) rfl (.inl rfl) e12) fun b hb => .inr (by omega)
    · have : t = 63 := by omega
      subst this
      have hS : secB x short = List.replicate 63 (byteOf x) ++ List.replicate (63 - 63) 0 := by unfold secB; rw [if_pos hs]; simp
      refine ⟨_, 63, grow w o, by rw [hS]; rfl, Step.of_no X9 ok, ?_, by rw [hS]; simp⟩
      rw [hS]
      exact ⟨RowAt.of_blk b9, fun _ ad ha => by cases ha; exact grow_ge (Nat.le_refl _)⟩
  · obtain ⟨w5, hmk, X5, b5, hlt⟩ := dmk_bytes w 64 (by decide)
    refine ⟨_, _, _, w5, hmk, fun m vs w1 => ∃ t : Nat, vs = [.int .i64 t] ∧ m + t = 64 ∧ Ext no w w1 ∧ Blk w1 w.heap.size 5 (bytesV (List.replicate t (byteOf x) ++ List.replicate (64 - t) 0)), 64, ⟨0, rfl, rfl, X5, b5⟩, ?_⟩
    rintro m w9 i ⟨t, hi, hm, X9, b9⟩
    simp only [List.cons.injEq, Value.int.injEq, true_and, and_true] at hi
    subst hi
    refine ⟨fun ht => ⟨_, rfl, by omega, by omega, ?_⟩, fun ht => ?_⟩
    · have e1 : (((blk w.heap.size).add (Int.toNat (t : Int) * 1)).add 0) = ⟨w.heap.size, t, none⟩ := by rw [add_add, add_blk]; congr 1; omega
      show canStore w9 (((blk w.heap.size).add (Int.toNat (t : Int) * 1)).add 0) ∧ thenW (w9.setCell (((blk w.heap.size).add (Int.toNat (t : Int) * 1)).add 0) (.int .u8 x)) _
      rw [e1, byteOf_V hx]
      have hc : t < (bytesV (List.replicate t (byteOf x) ++ List.replicate (64 - t) 0)).length := by rw [bytesV_length]; simp; omega
      refine ⟨by have := b9.cana (List.getElem?_eq_getElem hc); rwa [add_blk] at this, thenW_in fun w12 e12 => ⟨by omega, by omega, m - 1, by omega, t + 1, rfl, by omega, ?_, fill_row w 64 _ b9 (by omega) e12⟩⟩
      exact X9.then (Ext.x_set (m := fun b => b = w.heap.size) (q := w.heap.size) (i := t) (Ext.refl _ _) rfl (.inl rfl) e12) fun b hb => .inr (by omega)
    · have : t = 64 := by omega
      subst this
      have hS : secB x short = List.replicate 64 (byteOf x) ++ List.replicate (64 - 64) 0 := by unfold secB; rw [if_neg (by rw [hs]; decide)]; simp
      refine ⟨_, 64, grow w o, by rw [hS]; rfl, Step.of_no X9 ok, ?_, by rw [hS]; simp⟩
      rw [hS]
      exact ⟨RowAt.of_blk b9, fun _ ad ha => by cases ha; exact grow_ge (Nat.le_refl _)⟩
/-- a step of a script. -/
structure DOp where
  kd : Int
  n : Int
  by_ : Int
  short : Bool
  ka : Option Addr
  kc : Nat
  keep : List Bool
def DOp.C (x : DOp) : List Value := [.int .i64 x.kd, .int .i64 x.n, .int .u8 x.by_, .bool x.short, .slice x.ka x.keep.length x.kc]
theorem DOp.len (x : DOp) : x.C.length = 5 := rfl
structure DOp.good (W : World) (x : DOp) : Prop where
  nw : -9223372036854775808 ≤ x.n ∧ x.n < 9223372036854775808
  bw : 0 ≤ x.by_ ∧ x.by_ < 256
  row : RowAt W x.ka (boolsV x.keep)
  le : x.keep.length ≤ x.kc
def BoolsQ (W : World) (cs : List Value) : Prop := ∃ (a : Option Addr) (c : Nat) (l : List Bool), cs = [.slice a l.length c] ∧ l.length ≤ c ∧ c ≤ maxLen ∧ RowAt W a (boolsV l)
theorem flat_bools (l : List Bool) : (l.flatMap fun b => [Value.bool b]) = boolsV l := by
  unfold boolsV
  induction l with
  | nil => rfl
  | cons x r ih => rw [List.flatMap_cons, ih]; rfl
theorem opens_bools : Opens Try.prog 23 BoolsQ := (opens_rows (size := 1) (f := fun b => [Value.bool b]) (G := fun _ _ => True) Try.underlying23 (by kernel_rfl) ((opens_bool Try.underlying4).mono fun W cs ⟨b, h⟩ => ⟨b, h, trivial⟩)).mono
  fun W cs ⟨a, c, l, h1, h2, h3, h4, _⟩ => ⟨a, c, l, h1, h2, h3, by rw [← flat_bools]; exact h4⟩
theorem opens_op : Opens Try.prog 31 fun W cs => ∃ x : DOp, cs = x.C ∧ x.good W :=
  (opens_seq (qs := [(1, _), (1, _), (1, _), (1, _), (1, _)]) (size := 5) Try.underlying31 (by kernel_rfl)
    ⟨⟨rfl, by kernel_rfl, opens_int Try.underlying3⟩, ⟨rfl, by kernel_rfl, opens_int Try.underlying3⟩, ⟨rfl, by kernel_rfl, opens_int Try.underlying5⟩, ⟨rfl, by kernel_rfl, opens_bool Try.underlying4⟩,
     ⟨rfl, by kernel_rfl, opens_bools⟩, rfl⟩).mono
    fun W cs ⟨_, _, e0, _, ⟨kd, q0, _⟩, _, _, e1, _, ⟨n, q1, fn⟩, _, _, e2, _, ⟨by_, q2, fb⟩, _, _, e3, _, ⟨sh, q3⟩, _, _, e4, _, ⟨ka, kc, keep, q4, lk, _, rk⟩, q5⟩ => by
      subst q0; subst q1; subst q2; subst q3; subst q4; subst q5; subst e4; subst e3; subst e2; subst e1; subst e0
      exact ⟨⟨kd, n, by_, sh, ka, kc, keep⟩, rfl, wf_i64 fn, wf_u8 fb, rk, lk⟩
def DOpsQ (W : World) (cs : List Value) : Prop := ∃ (a : Option Addr) (c : Nat) (l : List DOp), cs = [.slice a l.length c] ∧ l.length ≤ c ∧ c ≤ maxLen ∧ RowAt W a (l.flatMap DOp.C) ∧ ∀ x ∈ l, x.good W
theorem opens_ops : Opens Try.prog 22 DOpsQ := opens_rows (size := 5) Try.underlying22 (by kernel_rfl) opens_op
def light9 (l : List DOp) : Bool := decide (l.length ≤ 60) && l.all fun x => decide (x.keep.length ≤ 60)
theorem light9_of {l : List DOp} (h : light9 l = true) : l.length ≤ 60 ∧ ∀ x ∈ l, x.keep.length ≤ 60 := by
  unfold light9 at h
  simp only [Bool.and_eq_true, decide_eq_true_eq, List.all_eq_true] at h
  exact h
theorem light9_spec {W : World} {la : Option Addr} {lc : Nat} {l : List DOp} (hl : RowAt W la (l.flatMap DOp.C)) : Calls Try.prog 7 #[.slice la l.length lc] W (Ret (.bool (light9 l)) fun w' => w' = W) := by
  refine cachettelaw09_light.run _ _ _ ?_
  unfold cachettelaw09_light.N
  refine ⟨fun h => ⟨?_, rfl⟩, fun h => ?_⟩
  · unfold light9; rw [decide_eq_false (by omega)]; rfl
  refine ⟨fun m vs w1 => ∃ t : Nat, vs = [.int .i64 t] ∧ m + t = l.length ∧ w1 = W ∧ ∀ x ∈ l.take t, x.keep.length ≤ 60, l.length, ⟨0, rfl, rfl, rfl, by simp⟩, ?_⟩
  rintro m w6 i ⟨t, hi, hm, rfl, hall⟩
  simp only [List.cons.injEq, Value.int.injEq, true_and, and_true] at hi
  subst hi
  refine ⟨fun ht => ?_, fun ht => ⟨?_, rfl⟩⟩
  · have htl : t < l.length := by omega
    have hg : l[t]? = some l[t] := List.getElem?_eq_getElem htl
    have hmem := List.getElem_mem htl
    have htk : l.take (t + 1) = l.take t ++ [l[t]] := by rw [List.take_add_one, hg]; rfl
    generalize l[t] = x at *
    obtain ⟨ad, rfl⟩ := hl.faddr DOp.len (by decide) htl
    refine ⟨ad, rfl, by omega, by omega, x.ka, x.keep.length, x.kc, by rw [Int.toNat_natCast]; exact hl.fcell DOp.len hg 4 rfl, fun h60 => ⟨?_, rfl⟩, fun h60 => ⟨by omega, by omega, m - 1, by omega, t + 1, rfl, by omega, rfl, fun y hy => ?_⟩⟩
    · congr 1
      cases hh : light9 l
      · rfl
      · have := (light9_of hh).2 x hmem; omega
    · rw [htk] at hy
      rcases List.mem_append.1 hy with hy | hy
      · exact hall y hy
      · simp at hy; subst hy; omega
  · have : t = l.length := by omega
    subst this
    rw [List.take_length] at hall
    have : light9 l = true := by
      unfold light9
      rw [decide_eq_true (show l.length ≤ 60 by omega), Bool.true_and, List.all_eq_true]
      exact fun x hx => decide_eq_true (hall x hx)
    rw [this]
end
end Go.Proofs.Ytgelicciggjpaaa

/- Disk: the chapter's example; DiskArms. -/
set_option linter.unusedVariables false
set_option linter.unusedSimpArgs false
set_option maxRecDepth 20000
set_option maxHeartbeats 4000000
namespace Go.Proofs.Ytgelicciggjpaaa
open Go Go.Mx Go.Proofs
open W (OwnB)
section
variable {K : Nat → Prop} {w w' w1 : World} {o o' o1 : Own} {g g2 m : Nat} {d : DS} {i : Int} {a : Option Addr} {c : Nat}
theorem DS.ok.up {n : Nat} (h : d.ok m) (hm : m ≤ n) : d.ok n := ⟨h.n1, h.n2, h.at_, by have := h.pl; omega, by have := h.cl; omega, h.left⟩
theorem newDS_ok {n : Nat} (h1 : 1 ≤ n) (h2 : n ≤ 400) : (newDS n).ok 0 := by
  have hn : (newDS n).good.length = n := by unfold newDS; simp
  exact ⟨by omega, by omega, fun x hx => (by cases hx), Nat.le_refl _, ⟨Int.le_refl _, Int.le_refl _⟩, by show (0 : Int) ≤ 0; decide, by show (0 : Int) < _; decide⟩
theorem armD_ok (h : d.ok m) {n : Int} (hn : n < 9223372036854775808) : (armD d n).1.ok m := by
  unfold armD
  split
  · exact h
  · split
    · exact h
    · exact ⟨h.n1, h.n2, h.at_, h.pl, h.cl, by show 0 ≤ n; omega, hn⟩
theorem syncD_ok (h : d.ok m) : (syncD d).1.ok m := by
  unfold syncD
  split
  · exact h
  · exact settleD_ok h _
theorem restartD_ok (h : d.ok m) (l : List Bool) : (restartD d l).ok m := by
  have k := settleD_ok h (keepF l)
  exact ⟨k.n1, k.n2, k.at_, k.pl, k.cl, k.left⟩
theorem writeD_ok (h : d.ok m) (i : Int) (b : List UInt8) : (writeD d i b).1.ok (m + 1) := by
  have hpl := h.pl
  have hcl := h.cl
  have hl := h.left
  have hu := h.up (Nat.le_succ m)
  have key : ∀ (s : Sec), hasD d i = 0 → ∀ x ∈ d.pend ++ [⟨i, s⟩], 0 ≤ x.i ∧ x.i < (d.good.length : Int) := fun s h0 x hx => by
    rcases List.mem_append.1 hx with hx | hx
    · exact h.at_ x hx
    · simp at hx; subst hx; exact (hasD_0 h0).2
  unfold writeD
  split
  · rename_i h0
    split
    · split
      · split
        · exact ⟨h.n1, h.n2, key _ h0, by show (d.pend ++ [_]).length ≤ _; rw [List.length_append]; show d.pend.length + 1 ≤ m + 1; omega, by show 0 ≤ d.count ∧ d.count ≤ ((m + 1 : Nat) : Int); omega, hl⟩
        · exact ⟨h.n1, h.n2, key _ h0, by show (d.pend ++ [_]).length ≤ _; rw [List.length_append]; show d.pend.length + 1 ≤ m + 1; omega, by show 0 ≤ d.count + 1 ∧ d.count + 1 ≤ ((m + 1 : Nat) : Int); omega, by show 0 ≤ d.left - 1 ∧ d.left - 1 < 9223372036854775808; omega⟩
      · exact ⟨h.n1, h.n2, key _ h0, by show (d.pend ++ [_]).length ≤ _; rw [List.length_append]; show d.pend.length + 1 ≤ m + 1; omega, by show 0 ≤ d.count + 1 ∧ d.count + 1 ≤ ((m + 1 : Nat) : Int); omega, hl⟩
    · exact hu
  · exact hu
def exD1 : DS := (writeD (newDS 2) 0 (secB 1 false)).1
def exD2 : DS := (syncD exD1).1
def exD3 : DS := (writeD exD2 0 (secB 2 false)).1
def exD4 : DS := restartD exD3 [false]
theorem exD4_read : readD exD4 0 = (secB 1 false, 0) := rfl
theorem alive9_spec (w : World) : Calls Try.prog 8 #[] w (Ret (.bool true) fun w' => Ext no w w') := by
  refine cachettelaw09_alive.run ?_
  unfold cachettelaw09_alive.N
  have ok0 : Tags w (fun _ => none) := fun b j _ h => by cases h
  have k0 := newDS_ok (n := 2) (by decide) (by decide)
  refine (dNew_spec (n := 2) ok0 (by decide) (by decide)).mono fun e w4 ⟨q, o4, he, hq, s4, D4⟩ => ⟨_, _, he, ?_⟩
  refine (Sector_spec s4.ok (x := 1) (by decide) false).mono fun e w7 ⟨a7, c7, o7, he, s7', r7, _⟩ => ⟨_, _, _, he, ?_⟩
  have s7 := s4.trans s7'
  refine (dWrite_spec (D4.step s7' id) s7.ok k0 (by decide) 0 r7.1).mono fun e w10 ⟨he, o10, s10', D10⟩ => ⟨_, he, ?_⟩
  have s10 : Step no w (fun _ => none) w10 o10 := s7.trans' s10' fun j hj => .inr (by omega)
  have k1 := writeD_ok k0 0 (secB 1 false)
  refine (dSync_spec (d := exD1) D10 s10.ok k1 (by decide)).mono fun e w13 ⟨he, o13, s13', D13⟩ => ⟨_, he, ?_⟩
  have s13 : Step no w (fun _ => none) w13 o13 := s10.trans' s13' fun j hj => .inr (by omega)
  have k2 : exD2.ok 1 := syncD_ok k1
  refine (Sector_spec s13.ok (x := 2) (by decide) false).mono fun e w16 ⟨a16, c16, o16, he, s16', r16, _⟩ => ⟨_, _, _, he, ?_⟩
  have s16 := s13.trans s16'
  refine (dWrite_spec (d := exD2) (D13.step s16' id) s16.ok k2 (by decide) 0 r16.1).mono fun e w19 ⟨he, o19, s19', D19⟩ => ⟨_, he, fun w20 q21 X20 hb20 hq1 hq2 => ?_⟩
  have s19 : Step no w (fun _ => none) w19 o19 := s16.trans' s19' fun j hj => .inr (by omega)
  have k3 : exD3.ok 2 := writeD_ok k2 0 (secB 2 false)
  have s20' := Step.of_no X20 s19.ok
  have s20 := s19.trans s20'
  have r20 : Row w20 (grow w19 o19) (some (blk q21)) (boolsV [false]) := ⟨RowAt.of_blk hb20, fun _ ad ha => by cases ha; exact grow_ge hq1⟩
  refine (dRestart_spec (d := exD3) (D19.step s20' id) s20.ok k3 (by decide) (kl := [false]) (kc := 1) r20).mono fun e w24 ⟨he, o24, s24', D24⟩ => ⟨_, he, ?_⟩
  have s24 : Step no w (fun _ => none) w24 o24 := s20.trans' s24' fun j hj => .inr (by omega)
  have k4 : exD4.ok 2 := restartD_ok k3 _
  refine (dRead_spec (d := exD4) D24 s24.ok 0 (by have := k4.pl; omega)).mono fun e w28 ⟨ra, rn, rc, o28, he, hn, hle, s28, hbad, hgood⟩ => ⟨_, _, _, _, he, fun _ => ⟨fun h0 => ⟨fun h64 => ?_, fun h64 => ?_⟩, fun hne => absurd (by rw [exD4_read]) hne⟩, fun h => absurd rfl h⟩
  · obtain ⟨rq, t, rfl, hb, hl, hlt, _⟩ := hgood (by rw [exD4_read])
    rw [exD4_read] at hb
    refine ⟨_, rfl, by omega, 1, hb.celli 0 rfl rfl, rfl, ?_⟩
    have := s24.trans s28
    exact this.ext.mono fun b ⟨_, _, h⟩ _ => h
  · exfalso
    rw [exD4_read] at hn
    exact h64 (by rw [hn]; rfl)
end
end Go.Proofs.Ytgelicciggjpaaa

/- DiskSafe. -/
set_option linter.unusedVariables false
set_option linter.unusedSimpArgs false
set_option maxRecDepth 20000
set_option maxHeartbeats 4000000
namespace Go.Proofs.Ytgelicciggjpaaa
open Go Go.Mx Go.Proofs
open W (OwnB)
section
variable {K : Nat → Prop} {w w' w1 w2 : World} {o o' o1 o2 : Own} {g g2 m : Nat} {d : DS} {i : Int} {a : Option Addr} {n c : Nat}
theorem RdD.row {r : List UInt8 × Int} (h : RdD w o r a n c w' o') (s : Step no w' o' w2 o2) : RowAt w2 a (bytesV r.1) := by
  obtain ⟨h1, h2, h3, h4, h5⟩ := h
  by_cases hr : r.2 = 0
  · obtain ⟨q, t, ha, hb, hl, hq, ho⟩ := h5 hr
    subst ha
    have := (RowAt.of_blk (s.blk hb ho id)).take 64
    rwa [List.take_append_of_le_length (by rw [bytesV_length, hl]; exact Nat.le_refl _), List.take_of_length_le (by rw [bytesV_length, hl]; exact Nat.le_refl _)] at this
  · rw [(h4 hr).2]; exact RowAt.nil _ _
theorem RdD.st {r : List UInt8 × Int} (h : RdD w o r a n c w' o') : Step no w o w' o' := h.2.2.1
theorem RdD.nn {r : List UInt8 × Int} (h : RdD w o r a n c w' o') : n = r.1.length := h.1
theorem readD_len (d : DS) (i : Int) : (readD d i).1.length ≤ 64 := by
  unfold readD
  split
  · split
    · simp
    · rw [(readS d i).h]; exact Nat.le_refl _
  · simp
end
end Go.Proofs.Ytgelicciggjpaaa

/- Disk: the reference's answers, and how the two stand side by side. -/
set_option linter.unusedVariables false
set_option linter.unusedSimpArgs false
set_option maxRecDepth 20000
set_option maxHeartbeats 4000000
namespace Go.Proofs.Ytgelicciggjpaaa
open Go Go.Mx Go.Proofs
/-- a write, as the reference has it. -/
structure RV where
  i : Int
  b : List UInt8
  torn : Bool
structure RS where
  n : Int
  good : List RV
  pend : List RV
  armed : Int
  down : Bool
  midst : Bool
  count : Int
def Sec.p (s : Sec) : List UInt8 × Bool := (s.b, s.torn)
def Wt.v (x : Wt) : RV := ⟨x.i, x.s.b, x.s.torn⟩
def RV.tf (x : RV) : RV := { x with torn := false }
def tearL (m : Bool) : List RV → List RV
  | [] => []
  | [x] => [{ x with torn := m }]
  | x :: y :: r => x.tf :: tearL m (y :: r)
def keptL (k : Nat → Bool) : Nat → List RV → List RV
  | _, [] => []
  | t, x :: r => if k t then x :: keptL k (t + 1) r else keptL k (t + 1) r
def lastQ (i : Int) : Option RV → List RV → Option RV
  | a, [] => a
  | a, x :: r => lastQ i (if x.i = i then some x else a) r
def valOf : Option RV → List UInt8 × Bool
  | none => (List.replicate 64 0, false)
  | some y => (y.b, y.torn)
def readR (r : RS) (i : Int) : List UInt8 × Int :=
  if r.down then ([], 19) else if i < 0 then ([], 2) else if r.n ≤ i then ([], 2) else
    match lastQ i none (r.good ++ r.pend) with
    | none => (List.replicate 64 0, 0)
    | some y => if y.torn then ([], 5) else (y.b, 0)
def writeR (r : RS) (i : Int) (b : List UInt8) : RS × Int :=
  if r.down then (r, 19) else if i < 0 then (r, 2) else if r.n ≤ i then (r, 2) else if b.length ≠ 64 then (r, 1) else
    if r.armed = 0 then ({ r with pend := r.pend ++ [⟨i, b, false⟩], down := true, midst := true }, 19)
    else if 0 < r.armed then ({ r with pend := r.pend ++ [⟨i, b, false⟩], armed := r.armed - 1, count := r.count + 1 }, 0)
    else ({ r with pend := r.pend ++ [⟨i, b, false⟩], count := r.count + 1 }, 0)
def syncR (r : RS) : RS × Int := if r.down then (r, 19) else ({ r with good := r.good ++ r.pend, pend := [] }, 0)
def armR (r : RS) (n : Int) : RS × Int := if r.down then (r, 19) else if n < 0 then (r, 1) else ({ r with armed := n }, 0)
def restartR (r : RS) (l : List Bool) : RS := { r with good := r.good ++ keptL (keepF l) 0 (tearL r.midst r.pend), pend := [], armed := -1, down := false, midst := false }
def newRS (n : Int) : RS := ⟨n, [], [], -1, false, false, 0⟩
/-- side by side. -/
structure SimD (d : DS) (r : RS) : Prop where
  n : r.n = d.good.length
  down : r.down = d.down
  count : r.count = d.count
  pt : r.pend.map RV.tf = r.pend
  pend : d.pend.map Wt.v = tearL r.midst r.pend
  mid : r.midst = true → d.down = true
  arm : r.armed = if d.armed then d.left else -1
  left : 0 ≤ d.left
  good : ∀ (j : Nat) s, d.good[j]? = some s → s.p = valOf (lastQ j none r.good)
section
variable {d : DS} {r : RS}
theorem tearL_snoc (m : Bool) (x : RV) : ∀ l : List RV, tearL m (l ++ [x]) = l.map RV.tf ++ [{ x with torn := m }]
  | [] => rfl
  | [y] => rfl
  | y :: z :: r => by
    have := tearL_snoc m x (z :: r)
    show y.tf :: tearL m (z :: (r ++ [x])) = _
    rw [show z :: (r ++ [x]) = (z :: r) ++ [x] from rfl, this]; rfl
theorem tearL_false : ∀ l : List RV, tearL false l = l.map RV.tf
  | [] => rfl
  | [y] => rfl
  | y :: z :: r => by
    show y.tf :: tearL false (z :: r) = _
    rw [tearL_false (z :: r)]; rfl
theorem tearL_len (m : Bool) : ∀ l : List RV, (tearL m l).length = l.length
  | [] => rfl
  | [y] => rfl
  | y :: z :: r => by
    show (tearL m (z :: r)).length + 1 = _
    rw [tearL_len m (z :: r)]; rfl
theorem SimD.pv (h : SimD d r) (hd : d.down = false) : d.pend.map Wt.v = r.pend ∧ r.midst = false := by
  have hm : r.midst = false := by
    cases hm : r.midst
    · rfl
    · rw [h.mid hm] at hd; cases hd
  have := h.pend
  rw [hm, tearL_false, h.pt] at this
  exact ⟨this, hm⟩
theorem lastQ_app (i : Int) : ∀ (l : List RV) (a : Option RV) (m : List RV), lastQ i a (l ++ m) = lastQ i (lastQ i a l) m
  | [], _, _ => rfl
  | x :: r, a, m => lastQ_app i r _ m
theorem lastP_Q (i : Int) : ∀ (l : List Wt) (s : Sec) (a : Option RV), s.p = valOf a → (lastP i s l).p = valOf (lastQ i a (l.map Wt.v))
  | [], _, _, h => h
  | x :: r, s, a, h => by
    show (lastP i (if x.i = i then x.s else s) r).p = valOf (lastQ i (if x.v.i = i then some x.v else a) (r.map Wt.v))
    refine lastP_Q i r _ _ ?_
    show _ = valOf (if x.i = i then some x.v else a)
    by_cases hx : x.i = i
    · rw [if_pos hx, if_pos hx]; rfl
    · rw [if_neg hx, if_neg hx]; exact h
theorem settle_Q (k : Nat → Bool) (j : Nat) : ∀ (l : List Wt) (t : Nat) (g : List Sec) (a : Option RV), (∀ x ∈ l, 0 ≤ x.i) → (∀ s, g[j]? = some s → s.p = valOf a) → ∀ s, (settleL k t g l)[j]? = some s → s.p = valOf (lastQ j a (keptL k t (l.map Wt.v)))
  | [], _, _, _, _, h => h
  | x :: r, t, g, a, hx, h => by
    intro s hs
    rw [settleL] at hs
    show _ = valOf (lastQ j a (if k t then x.v :: keptL k (t + 1) (r.map Wt.v) else keptL k (t + 1) (r.map Wt.v)))
    cases hk : k t
    · rw [hk, if_neg (by decide)] at hs
      rw [if_neg (by decide)]
      exact settle_Q k j r (t + 1) g a (fun y hy => hx y (by simp [hy])) h s hs
    · rw [hk, if_pos rfl] at hs
      rw [if_pos rfl, lastQ]
      refine settle_Q k j r (t + 1) (g.set x.i.toNat x.s) _ (fun y hy => hx y (by simp [hy])) (fun s2 hs2 => ?_) s hs
      have h0 := hx x (by simp)
      show _ = valOf (if x.i = (j : Int) then some x.v else a)
      by_cases hj : x.i = (j : Int)
      · rw [if_pos hj]
        have e : x.i.toNat = j := by omega
        rw [e] at hs2
        have hlt : j < g.length := by have := (List.getElem?_eq_some_iff.1 hs2).1; rwa [List.length_set] at this
        rw [List.getElem?_set_self hlt] at hs2
        cases hs2; rfl
      · rw [if_neg hj]
        rw [List.getElem?_set_ne (by omega)] at hs2
        exact h s2 hs2
theorem keptL_all : ∀ (l : List RV) (t : Nat), keptL (fun _ => true) t l = l
  | [], _ => rfl
  | x :: r, t => by rw [keptL, if_pos rfl, keptL_all r]
theorem hasD_cases (d : DS) (i : Int) : (d.down = true ∧ hasD d i = 19) ∨ (d.down = false ∧ i < 0 ∧ hasD d i = 2) ∨ (d.down = false ∧ ¬ i < 0 ∧ (d.good.length : Int) ≤ i ∧ hasD d i = 2) ∨ (d.down = false ∧ ¬ i < 0 ∧ ¬ (d.good.length : Int) ≤ i ∧ hasD d i = 0) := by
  unfold hasD
  cases hd : d.down
  · rw [if_neg (c := false = true) (by decide)]
    by_cases h1 : i < 0
    · exact .inr (.inl ⟨rfl, h1, if_pos (.inl h1)⟩)
    by_cases h2 : (d.good.length : Int) ≤ i
    · exact .inr (.inr (.inl ⟨rfl, h1, h2, if_pos (.inr h2)⟩))
    · exact .inr (.inr (.inr ⟨rfl, h1, h2, if_neg fun h => h.elim h1 h2⟩))
  · exact .inl ⟨rfl, if_pos rfl⟩
theorem read_simD (h : SimD d r) (i : Int) : readD d i = readR r i := by
  have hrd := h.down
  rcases hasD_cases d i with ⟨hd, hh⟩ | ⟨hd, h1, hh⟩ | ⟨hd, h1, h2, hh⟩ | ⟨hd, h1, h2, hh⟩
  · unfold readD readR
    rw [hh, if_neg (by decide), if_pos (by rw [hrd]; exact hd)]
  · unfold readD readR
    rw [hh, if_neg (by decide), if_neg (by rw [hrd, hd]; decide), if_pos h1]
  · unfold readD readR
    rw [hh, if_neg (by decide), if_neg (by rw [hrd, hd]; decide), if_neg h1, if_pos (by rw [h.n]; exact h2)]
  · unfold readD readR
    rw [hh, if_pos rfl, if_neg (c := r.down = true) (by rw [hrd, hd]; decide), if_neg (c := i < 0) h1, if_neg (c := r.n ≤ i) (by rw [h.n]; exact h2)]
    have hlt : i.toNat < d.good.length := by omega
    have hg : d.good[i.toNat]? = some d.good[i.toNat] := List.getElem?_eq_getElem hlt
    have h3 := h.good i.toNat _ hg
    have h4 := lastP_Q i d.pend _ _ h3
    rw [(h.pv hd).1] at h4
    have hi : ((i.toNat : Nat) : Int) = i := by omega
    rw [hi, ← lastQ_app] at h4
    have e : readS d i = lastP i d.good[i.toNat] d.pend := by unfold readS; rw [hg]; rfl
    rw [e]
    have h5 := congrArg Prod.fst h4
    have h6 := congrArg Prod.snd h4
    cases hl : lastQ i none (r.good ++ r.pend) with
    | none =>
      rw [hl] at h5 h6
      have h6' : (lastP i d.good[i.toNat] d.pend).torn = false := h6
      have h5' : (lastP i d.good[i.toNat] d.pend).b = List.replicate 64 0 := h5
      rw [h6', h5']; rfl
    | some y =>
      rw [hl] at h5 h6
      have h6' : (lastP i d.good[i.toNat] d.pend).torn = y.torn := h6
      have h5' : (lastP i d.good[i.toNat] d.pend).b = y.b := h5
      rw [h6', h5']
theorem write_simD (h : SimD d r) (i : Int) (b : List UInt8) : (writeD d i b).2 = (writeR r i b).2 ∧ SimD (writeD d i b).1 (writeR r i b).1 := by
  have hrd := h.down
  have same : ∀ k, writeD d i b = (d, k) → writeR r i b = (r, k) → (writeD d i b).2 = (writeR r i b).2 ∧ SimD (writeD d i b).1 (writeR r i b).1 := fun k e1 e2 => by rw [e1, e2]; exact ⟨rfl, h⟩
  rcases hasD_cases d i with ⟨hd, hh⟩ | ⟨hd, h1, hh⟩ | ⟨hd, h1, h2, hh⟩ | ⟨hd, h1, h2, hh⟩
  · exact same 19 (by unfold writeD; rw [hh, if_neg (by decide)]) (by unfold writeR; rw [if_pos (by rw [hrd]; exact hd)])
  · exact same 2 (by unfold writeD; rw [hh, if_neg (by decide)]) (by unfold writeR; rw [if_neg (by rw [hrd, hd]; decide), if_pos h1])
  · exact same 2 (by unfold writeD; rw [hh, if_neg (by decide)]) (by unfold writeR; rw [if_neg (by rw [hrd, hd]; decide), if_neg h1, if_pos (by rw [h.n]; exact h2)])
  · have n1 : ¬ r.down = true := by rw [hrd, hd]; decide
    have n2 : ¬ r.n ≤ i := by rw [h.n]; exact h2
    by_cases hb : b.length = 64
    · obtain ⟨hpv, hm⟩ := h.pv hd
      have hv : ∀ t, (d.pend ++ [(⟨i, ⟨b, t, hb⟩⟩ : Wt)]).map Wt.v = tearL t (r.pend ++ [⟨i, b, false⟩]) := fun t => by
        rw [List.map_append, hpv, tearL_snoc, h.pt]; rfl
      have hpt : (r.pend ++ [(⟨i, b, false⟩ : RV)]).map RV.tf = r.pend ++ [⟨i, b, false⟩] := by
        rw [List.map_append, h.pt]; rfl
      have hl := h.left
      have nb : ¬ b.length ≠ 64 := fun hn => hn hb
      by_cases ha : d.armed = true
      · have har : r.armed = d.left := by rw [h.arm, if_pos ha]
        by_cases hz : d.left = 0
        · have e1 : writeD d i b = ({ d with pend := d.pend ++ [⟨i, ⟨b, true, hb⟩⟩], down := true }, 19) := by unfold writeD; rw [if_pos hh, dif_pos hb, if_pos ha, if_pos hz]
          have e2 : writeR r i b = ({ r with pend := r.pend ++ [⟨i, b, false⟩], down := true, midst := true }, 19) := by unfold writeR; rw [if_neg n1, if_neg h1, if_neg n2, if_neg nb, if_pos (by rw [har]; exact hz)]
          rw [e1, e2]
          exact ⟨rfl, ⟨h.n, rfl, h.count, hpt, hv true, fun _ => rfl, h.arm, hl, h.good⟩⟩
        · have e1 : writeD d i b = ({ d with pend := d.pend ++ [⟨i, ⟨b, false, hb⟩⟩], left := d.left - 1, count := d.count + 1 }, 0) := by unfold writeD; rw [if_pos hh, dif_pos hb, if_pos ha, if_neg hz]
          have e2 : writeR r i b = ({ r with pend := r.pend ++ [⟨i, b, false⟩], armed := r.armed - 1, count := r.count + 1 }, 0) := by unfold writeR; rw [if_neg n1, if_neg h1, if_neg n2, if_neg nb, if_neg (by rw [har]; exact hz), if_pos (by rw [har]; omega)]
          rw [e1, e2]
          exact ⟨rfl, ⟨h.n, h.down, by show r.count + 1 = d.count + 1; rw [h.count], hpt, by show _ = tearL r.midst _; rw [hm]; exact hv false, fun h => (by have h' : r.midst = true := h; rw [hm] at h'; cases h'), by show r.armed - 1 = if d.armed = true then d.left - 1 else -1; rw [if_pos ha, har], by show 0 ≤ d.left - 1; omega, h.good⟩⟩
      · have har : r.armed = -1 := by rw [h.arm, if_neg ha]
        have e1 : writeD d i b = ({ d with pend := d.pend ++ [⟨i, ⟨b, false, hb⟩⟩], count := d.count + 1 }, 0) := by unfold writeD; rw [if_pos hh, dif_pos hb, if_neg ha]
        have e2 : writeR r i b = ({ r with pend := r.pend ++ [⟨i, b, false⟩], count := r.count + 1 }, 0) := by unfold writeR; rw [if_neg n1, if_neg h1, if_neg n2, if_neg nb, if_neg (by rw [har]; decide), if_neg (by rw [har]; decide)]
        rw [e1, e2]
        exact ⟨rfl, ⟨h.n, h.down, by show r.count + 1 = d.count + 1; rw [h.count], hpt, by show _ = tearL r.midst _; rw [hm]; exact hv false, fun h => (by have h' : r.midst = true := h; rw [hm] at h'; cases h'), h.arm, hl, h.good⟩⟩
    · exact same 1 (by unfold writeD; rw [if_pos hh, dif_neg hb]) (by unfold writeR; rw [if_neg n1, if_neg h1, if_neg n2, if_pos hb])
theorem arm_simD (h : SimD d r) (n : Int) : (armD d n).2 = (armR r n).2 ∧ SimD (armD d n).1 (armR r n).1 := by
  by_cases hd : d.down = true
  · have e1 : armD d n = (d, 19) := by unfold armD; rw [if_pos hd]
    have e2 : armR r n = (r, 19) := by unfold armR; rw [if_pos (by rw [h.down]; exact hd)]
    rw [e1, e2]; exact ⟨rfl, h⟩
  · have hrd : ¬ r.down = true := by rw [h.down]; exact hd
    by_cases hn : n < 0
    · have e1 : armD d n = (d, 1) := by unfold armD; rw [if_neg hd, if_pos hn]
      have e2 : armR r n = (r, 1) := by unfold armR; rw [if_neg hrd, if_pos hn]
      rw [e1, e2]; exact ⟨rfl, h⟩
    · have e1 : armD d n = ({ d with left := n, armed := true }, 0) := by unfold armD; rw [if_neg hd, if_neg hn]
      have e2 : armR r n = ({ r with armed := n }, 0) := by unfold armR; rw [if_neg hrd, if_neg hn]
      rw [e1, e2]
      exact ⟨rfl, ⟨h.n, h.down, h.count, h.pt, h.pend, h.mid, rfl, by show 0 ≤ n; omega, h.good⟩⟩
theorem settle_good (h : SimD d r) (hx : ∀ x ∈ d.pend, 0 ≤ x.i) (k : Nat → Bool) (j : Nat) (s : Sec) (hs : (settleD d k).good[j]? = some s) : s.p = valOf (lastQ j none (r.good ++ keptL k 0 (tearL r.midst r.pend))) := by
  rw [lastQ_app, ← h.pend]
  exact settle_Q k j d.pend 0 d.good _ hx (h.good j) s hs
theorem sync_simD (h : SimD d r) (hx : ∀ x ∈ d.pend, 0 ≤ x.i) : (syncD d).2 = (syncR r).2 ∧ SimD (syncD d).1 (syncR r).1 := by
  by_cases hd : d.down = true
  · have e1 : syncD d = (d, 19) := by unfold syncD; rw [if_pos hd]
    have e2 : syncR r = (r, 19) := by unfold syncR; rw [if_pos (by rw [h.down]; exact hd)]
    rw [e1, e2]; exact ⟨rfl, h⟩
  · have e1 : syncD d = (settleD d fun _ => true, 0) := by unfold syncD; rw [if_neg hd]
    have e2 : syncR r = ({ r with good := r.good ++ r.pend, pend := [] }, 0) := by unfold syncR; rw [if_neg (by rw [h.down]; exact hd)]
    rw [e1, e2]
    have hd : d.down = false := by cases h : d.down <;> simp_all
    obtain ⟨hpv, hm⟩ := h.pv hd
    refine ⟨rfl, ⟨by show r.n = (settleL _ _ _ _).length; rw [settleL_len]; exact h.n, h.down, h.count, rfl, rfl, h.mid, h.arm, h.left, fun j s hs => ?_⟩⟩
    have := settle_good h hx (fun _ => true) j s hs
    rwa [keptL_all, hm, tearL_false, h.pt] at this
theorem restart_simD (h : SimD d r) (hx : ∀ x ∈ d.pend, 0 ≤ x.i) (l : List Bool) : SimD (restartD d l) (restartR r l) :=
  ⟨by show r.n = (settleL _ _ _ _).length; rw [settleL_len]; exact h.n, rfl, h.count, rfl, rfl, fun h => (by cases h), rfl, h.left, fun j s hs => settle_good h hx (keepF l) j s hs⟩
theorem new_simD (n : Nat) : SimD (newDS n) (newRS n) :=
  ⟨by show (n : Int) = ((List.replicate n Sec.z).length : Nat); rw [List.length_replicate], rfl, rfl, rfl, rfl, fun h => (by cases h), rfl, Int.le_refl _, fun j s hs => by
    have : s = Sec.z := by
      have := List.mem_of_getElem? hs
      exact List.eq_of_mem_replicate this
    subst this; rfl⟩
end
end Go.Proofs.Ytgelicciggjpaaa

/- Disk: the reference's functions. -/
set_option linter.unusedVariables false
set_option linter.unusedSimpArgs false
set_option maxRecDepth 20000
set_option maxHeartbeats 4000000
namespace Go.Proofs.Ytgelicciggjpaaa
open Go Go.Mx Go.Proofs
open W (OwnB)
theorem inf71 : (Try.prog.info? 71).map (fun i => (i.zero, i.size, i.bytes)) = some (some (.agg #[.int .i64 0, .slice none 0 0, .bool false]), 3, 40) := by kernel_rfl
/-- a write of the reference's, and where its bytes lie. -/
structure RW where
  i : Int
  a : Option Addr
  c : Nat
  b : List UInt8
  torn : Bool
def RW.C (x : RW) : List Value := [.int .i64 x.i, .slice x.a x.b.length x.c, .bool x.torn]
def RW.v (x : RW) : RV := ⟨x.i, x.b, x.torn⟩
theorem RW.len (x : RW) : x.C.length = 3 := rfl
theorem RW.one (x : RW) : ∀ u ∈ x.C, u.oneCell' = true := fun u hu => by
  simp only [RW.C, List.mem_cons, List.not_mem_nil, or_false] at hu
  rcases hu with rfl | rfl | rfl <;> rfl
theorem RWs.one {l : List RW} : ∀ u ∈ l.flatMap RW.C, u.oneCell' = true := fun u hu => by
  obtain ⟨x, _, h⟩ := List.mem_flatMap.1 hu
  exact x.one u h
abbrev QRw (w : World) (o : Own) (g : Nat) (a : Option Addr) (c : Nat) (l : List RW) : Prop := Grows 71 3 w o g a l.length c (l.flatMap RW.C)
def RS.V (r : RS) (ga : Option Addr) (gn gc : Nat) (pa : Option Addr) (pn pc : Nat) : List Value := [.int .i64 r.n, .slice ga gn gc, .slice pa pn pc, .int .i64 r.armed, .bool r.down, .bool r.midst, .int .i64 r.count]
def rwOk (w : World) (o : Own) (x : RW) : Prop := Row w o x.a (bytesV x.b) ∧ x.b.length ≤ x.c
structure RGa (w : World) (o : Own) (h : Nat) (r : RS) (gl pl : List RW) (ga : Option Addr) (gc : Nat) (pa : Option Addr) (pc : Nat) : Prop where
  b : Blk w h 51 (r.V ga gl.length gc pa pl.length pc)
  gv : gl.map RW.v = r.good
  pv : pl.map RW.v = r.pend
  hg : QRw w o h ga gc gl
  hp : QRw w o h pa pc pl
  ap : ∀ x y, ga = some x → pa = some y → x.block ≠ y.block
  row : ∀ x ∈ gl ++ pl, rwOk w o x
  tg : o h = some h
def RG (w : World) (o : Own) (h : Nat) (r : RS) : Prop := ∃ gl pl ga gc pa pc, RGa w o h r gl pl ga gc pa pc
structure RS.ok (r : RS) (m : Nat) : Prop where
  n : r.n ≤ 400
  gp : r.good.length + r.pend.length ≤ m
  cl : 0 ≤ r.count ∧ r.count ≤ m
  arm : -1 ≤ r.armed ∧ r.armed < 9223372036854775808
section
variable {K : Nat → Prop} {w w' w1 : World} {o o' o1 : Own} {h g m : Nat} {r : RS} {gl pl : List RW} {ga pa : Option Addr} {gc pc : Nat} {i : Int}
theorem rwOk.step {x : RW} (hx : rwOk w o x) (s : Step K w o w' o') : rwOk w' o' x := ⟨hx.1.step s, hx.2⟩
theorem RGa.step (h1 : RGa w o h r gl pl ga gc pa pc) (s : Step K w o w' o') (hk : ¬ K h) : RGa w' o' h r gl pl ga gc pa pc :=
  ⟨s.blk h1.b h1.tg hk, h1.gv, h1.pv, h1.hg.step s hk, h1.hp.step s hk, h1.ap, fun x hx => (h1.row x hx).step s, by rw [s.own h1.b.lt]; exact h1.tg⟩
theorem RG.step (h1 : RG w o h r) (s : Step K w o w' o') (hk : ¬ K h) : RG w' o' h r := by
  obtain ⟨gl, pl, ga, gc, pa, pc, D⟩ := h1
  exact ⟨gl, pl, ga, gc, pa, pc, D.step s hk⟩
theorem RGa.turn {cs0 : List Value} {r2 : RS} (hb0 : Blk w h 51 cs0) (gv : gl.map RW.v = r2.good) (pv : pl.map RW.v = r2.pend) (hg : QRw w o h ga gc gl) (hp : QRw w o h pa pc pl) (ap : ∀ x y, ga = some x → pa = some y → x.block ≠ y.block) (row : ∀ x ∈ gl ++ pl, rwOk w o x) (tg : o h = some h) (ok : Tags w o)
    (X : Ext (fun b => b = h) w w') (hb : Blk w' h 51 (r2.V ga gl.length gc pa pl.length pc)) : Step (fun j => j = h) w o w' (grow w o) ∧ RGa w' (grow w o) h r2 gl pl ga gc pa pc := by
  have s : Step (fun j => j = h) w o w' (grow w o) := Step.of_ext X ok fun b hb _ => by subst hb; exact tg
  exact ⟨s, hb, gv, pv, hg.keep X (hg.ne hb0 (by decide)) fun b hb => s.own hb, hp.keep X (hp.ne hb0 (by decide)) fun b hb => s.own hb, ap, fun x hx => (row x hx).step s, by rw [s.own hb0.lt]; exact tg⟩
theorem QRw.push {a : Option Addr} {c : Nat} {l : List RW} (h1 : QRw w o g a c l) (ok : Tags w o) (hg : g < w.heap.size) (hl : l.length < 1000000) {xa : Option Addr} {xc : Nat} {q : List RW} (hr : RowAt w xa (q.flatMap RW.C)) (hrl : q.length < 1000000) :
    ∃ a' n' c' w' o', (Builtin.append_ #[49, 49] 49 #[.slice a l.length c, .slice xa q.length xc]).run Try.prog w = .ok (.slice a' n' c') w' ∧ n' = (l ++ q).length ∧ Step (fun j => j = g) w o w' o' ∧ QRw w' o' g a' c' (l ++ q) ∧ Ext (fun b => ∃ ad, a = some ad ∧ b = ad.block) w w' ∧ (∀ ad, a' = some ad → (∃ b, a = some b ∧ ad.block = b.block) ∨ ad.block = w.heap.size) := by
  obtain ⟨i, hi, hz, hsz, hby⟩ := info_of inf71
  obtain ⟨a', c', w', o', hrun, s2, hrow, hk, hf⟩ := Grows.push (ty := 49) Try.underlying49 hi hz hsz hby rfl (by decide) h1 ok hg (xa := xa) (m := q.length) (xc := xc) (news := q.flatMap RW.C) (flat_length RW.len q) hr RWs.one (by omega) (by omega)
  exact ⟨a', _, c', w', o', hrun, by simp, s2, by unfold QRw; rw [List.length_append, List.flatMap_append]; exact hrow, ⟨s2.ext.os, s2.ext.tape, s2.ext.output, s2.ext.size, fun b hb hn => hk b hb fun ad ha hb' => hn ⟨ad, ha, hb'⟩⟩, hf⟩
theorem rNew_spec (ok : Tags w o) {n : Int} (h1 : 1 ≤ n) (h2 : n ≤ 400) : Calls Try.prog 20 #[.int .i64 n] w (fun x w' => ∃ q o', x = .returned (.tuple #[.pointer (some (blk q)), .int .i64 0]) ∧ w.heap.size ≤ q ∧ Step no w o w' o' ∧ RG w' o' q (newRS n)) := by
  refine (cachetteref09_New.go _ (R := fun v w' => ∃ q o', v = (.tuple #[.pointer (some (blk q)), .int .i64 0]) ∧ w.heap.size ≤ q ∧ Step no w o w' o' ∧ RG w' o' q (newRS n)) ?_).mono fun x w' ⟨v, he, q, o', hv, hw⟩ => ⟨q, o', by rw [he, hv], hw⟩
  unfold cachetteref09_New.N
  refine ⟨fun h => by omega, fun _ => ⟨fun h => by omega, fun _ w4 q5 X4 hb hq hq' => ?_⟩⟩
  have s4 := (Step.of_no X4 ok).tag (j := q5) hq hq'
  exact ⟨q5, _, rfl, hq, s4, [], [], none, 0, none, 0, hb, rfl, rfl, Grows.nil _ _ _ _ _, Grows.nil _ _ _ _ _, fun x y h => (by cases h), fun x hx => (by cases hx), tag_self⟩
theorem lastQ_none {i : Int} : ∀ {l : List RV} {a : Option RV}, (∀ x ∈ l, x.i ≠ i) → lastQ i a l = a
  | [], _, _ => rfl
  | x :: r, a, h => by rw [lastQ, if_neg (h x (by simp)), lastQ_none fun y hy => h y (by simp [hy])]
theorem lastQ_hit {i : Int} {l : List RV} {t : Nat} {x : RV} (hx : l[t]? = some x) (hi : x.i = i) (h : ∀ y ∈ l.drop (t + 1), y.i ≠ i) : lastQ i none l = some x := by
  obtain ⟨ht, e⟩ := List.getElem?_eq_some_iff.1 hx
  have : l = l.take t ++ (x :: l.drop (t + 1)) := by rw [← e, ← List.drop_eq_getElem_cons ht, List.take_append_drop]
  rw [this, lastQ_app, lastQ, if_pos hi, lastQ_none]
  intro y hy
  exact h y hy
theorem rRead_spec (D : RG w o h r) (ok : Tags w o) (k : r.ok m) (hm : m < 100000) (i : Int) : Calls Try.prog 22 #[.pointer (some (blk h)), .int .i64 i] w (fun x w' => ∃ a c o', x = .returned (.tuple #[.slice a (readR r i).1.length c, .int .i64 (readR r i).2]) ∧ Step no w o w' o' ∧ Row w' o' a (bytesV (readR r i).1)) := by
  refine (cachetteref09_Disk_Read.go _ _ (R := fun v w' => ∃ a c o', v = (.tuple #[.slice a (readR r i).1.length c, .int .i64 (readR r i).2]) ∧ Step no w o w' o' ∧ Row w' o' a (bytesV (readR r i).1)) ?_).mono fun x w' ⟨v, he, a, c, o', hv, hw⟩ => ⟨a, c, o', by rw [he, hv], hw⟩
  unfold cachetteref09_Disk_Read.N
  obtain ⟨gl, pl, ga, gc, pa, pc, D⟩ := D
  have nil : ∀ {w1 : World} {o1 : Own} (e : Int), readR r i = ([], e) → Step no w o w1 o1 → ∃ a c o', Value.tuple #[.slice none 0 0, .int .i64 e] = (.tuple #[.slice a (readR r i).1.length c, .int .i64 (readR r i).2]) ∧ Step no w o w1 o' ∧ Row w1 o' a (bytesV (readR r i).1) := fun e he s => by
    rw [he]; exact ⟨none, 0, _, rfl, s, Row.nil _ _ _⟩
  refine ⟨_, rfl, r.down, D.b.celli 4 rfl rfl, fun hd => nil 19 (by unfold readR; rw [if_pos hd]) (Step.refl _ ok), fun hd => ⟨fun hi => nil 2 (by unfold readR; rw [if_neg (by rw [hd]; decide), if_pos hi]) (Step.refl _ ok), fun hi => ⟨r.n, D.b.celli 0 rfl rfl, fun hn => nil 2 (by unfold readR; rw [if_neg (by rw [hd]; decide), if_neg (by omega), if_pos (by omega)]) (Step.refl _ ok), fun hn => ?_⟩⟩⟩
  have hR : readR r i = match lastQ i none (r.good ++ r.pend) with | none => (List.replicate 64 0, 0) | some y => if y.torn then ([], 5) else (y.b, 0) := by
    unfold readR; rw [if_neg (by rw [hd]; decide), if_neg (by omega), if_neg (by omega)]
    try (cases lastQ i none (r.good ++ r.pend) <;> rfl)
  have hgn : gl.length = r.good.length := by rw [← D.gv]; simp
  have hpn : pl.length = r.pend.length := by rw [← D.pv]; simp
  have hgp := k.gp
  refine ⟨ga, _, gc, D.b.celli 1 rfl rfl, pa, _, pc, D.b.celli 2 rfl rfl, fun w16 q17 X16 hb16 hq hq' => ?_⟩
  have s16 := (Step.of_no X16 ok).tag (j := q17) hq hq'
  have D16 := D.step s16 id
  have g16 : QRw w16 (tag (grow w o) q17 q17) q17 (some (blk q17)) 0 [] := ⟨owns_of_blk hb16 rfl (Nat.zero_le _), fun ad ha => by cases ha; exact ⟨tag_self, hq'⟩⟩
  obtain ⟨a21, n21, c21, w21, o21, hrun1, hn1, s21', r21, _, _⟩ := g16.push s16.ok hq' (by decide) (xa := ga) (xc := gc) D16.hg.row (by omega)
  have s21 : Step no w o w21 o21 := s16.trans' s21' fun j hj => .inr (by omega)
  have D21 := D.step s21 id
  rw [List.nil_append] at hn1 r21
  subst hn1
  have hl21 := s21'.size
  obtain ⟨a24, n24, c24, w24, o24, hrun2, hn2, s24', r24, _, _⟩ := r21.push s21.ok (by omega) (by omega) (xa := pa) (xc := pc) D21.hp.row (by omega)
  subst hn2
  have s24 : Step no w o w24 o24 := s21.trans' s24' fun j hj => .inr (by omega)
  have D24 := D.step s24 id
  have hlen : (gl ++ pl).length = gl.length + pl.length := List.length_append
  have hall : (gl ++ pl).map RW.v = r.good ++ r.pend := by rw [List.map_append, D.gv, D.pv]
  refine ⟨D16.b.celli 2 rfl rfl, D16.b.celli 1 rfl rfl, a21, _, c21, w21, hrun1, D21.b.celli 2 rfl rfl, a24, _, c24, w24, hrun2, by omega, by omega, fun q vs w1 => ∃ t : Nat, vs = [.int .i64 ((t : Int) - 1)] ∧ q = t ∧ t ≤ (gl ++ pl).length ∧ w1 = w24 ∧ ∀ x ∈ (gl ++ pl).drop t, x.i ≠ i, (gl ++ pl).length, ⟨_, rfl, rfl, Nat.le_refl _, rfl, fun x hx => by rw [List.drop_length] at hx; cases hx⟩, ?_⟩
  rintro q w28 k0 ⟨t, hi', rfl, ht, rfl, hno⟩
  simp only [List.cons.injEq, Value.int.injEq, true_and, and_true] at hi'
  subst hi'
  have hrow := r24.row
  have hrw := D24.row
  generalize gl ++ pl = al at *
  refine ⟨fun h0 => ?_, fun h0 => ?_⟩
  · have htl : q - 1 < al.length := by omega
    have hg : al[q - 1]? = some al[q - 1] := List.getElem?_eq_getElem htl
    have hxr := hrw _ (List.getElem_mem htl)
    have hdr := List.drop_eq_getElem_cons htl
    generalize al[q - 1] = x at *
    obtain ⟨ad, rfl⟩ := hrow.faddr RW.len (by decide) htl
    have e1 : ((q : Int) - 1).toNat = q - 1 := by omega
    have e2 : q - 1 + 1 = q := by omega
    rw [e2] at hdr
    have next : x.i ≠ i → ∃ m42, m42 < q ∧ ∃ t : Nat, [Value.int .i64 ((q : Int) - 1 - 1)] = [.int .i64 ((t : Int) - 1)] ∧ m42 = t ∧ t ≤ al.length ∧ w28 = w28 ∧ ∀ x ∈ al.drop t, x.i ≠ i := fun hx => ⟨q - 1, by omega, q - 1, by rw [show ((q - 1 : Nat) : Int) - 1 = (q : Int) - 1 - 1 by omega], rfl, by omega, rfl, fun y hy => by
      rw [hdr] at hy
      rcases List.mem_cons.1 hy with h | h
      · rw [h]; exact hx
      · exact hno y h⟩
    have hit : x.i = i → lastQ i none (r.good ++ r.pend) = some x.v := fun hx => by
      rw [← hall]
      refine lastQ_hit (t := q - 1) (by rw [List.getElem?_map, hg]; rfl) hx fun y hy => ?_
      rw [e2, ← List.map_drop] at hy
      obtain ⟨z, hz, rfl⟩ := List.mem_map.1 hy
      exact hno z hz
    have c0 := hrow.fcell RW.len hg 0 (v := .int .i64 x.i) rfl
    have c1 := hrow.fcell RW.len hg 1 (v := .slice x.a x.b.length x.c) rfl
    have c2 := hrow.fcell RW.len hg 2 (v := .bool x.torn) rfl
    have fin : x.i = i → x.torn = false → ∃ a c o', Value.tuple #[.slice x.a x.b.length x.c, .int .i64 0] = (.tuple #[.slice a (readR r i).1.length c, .int .i64 (readR r i).2]) ∧ Step no w o w28 o' ∧ Row w28 o' a (bytesV (readR r i).1) := fun hx ht => by
      have : readR r i = (x.b, 0) := by rw [hR, hit hx]; show (if x.torn then _ else _) = _; rw [if_neg (by rw [ht]; decide)]; rfl
      rw [this]
      exact ⟨x.a, x.c, _, rfl, s24, hxr.1⟩
    refine ⟨ad, rfl, by omega, by omega, x.i, by rw [e1]; exact c0, fun hx => ⟨by omega, by omega, x.torn, by rw [e1]; exact c2, fun ht => nil 5 (by rw [hR, hit hx]; show (if x.torn then _ else _) = _; rw [if_pos ht]) s24, fun ht => ⟨by omega, by omega, x.i, by rw [e1]; exact c0, fun _ => ⟨by omega, by omega, x.a, x.b.length, x.c, by rw [e1]; exact c1, fin hx ht⟩, fun h => absurd hx h⟩⟩, fun hx => ⟨by omega, by omega, x.i, by rw [e1]; exact c0, fun h => absurd h hx, fun _ => ⟨by omega, by omega, next hx⟩⟩⟩
  · have : q = 0 := by omega
    subst this
    rw [List.drop_zero] at hno
    have hn0 : lastQ i none (r.good ++ r.pend) = none := by
      rw [← hall]
      refine lastQ_none fun y hy => ?_
      obtain ⟨z, hz, rfl⟩ := List.mem_map.1 hy
      exact hno z hz
    obtain ⟨w50, hmk, X50, b50, hlt⟩ := dmk_bytes w28 64 (by decide)
    have : readR r i = (List.replicate 64 0, 0) := by rw [hR, hn0]
    rw [this]
    refine ⟨_, _, _, w50, hmk, _, _, grow w28 o24, by rw [List.length_replicate], s24.trans (Step.of_no X50 s24.ok), RowAt.of_blk b50, fun _ ad ha => by cases ha; exact grow_ge (Nat.le_refl _)⟩
end
end Go.Proofs.Ytgelicciggjpaaa

/- Disk: the reference's Write, Sync, Arm, Restart. -/
set_option linter.unusedVariables false
set_option linter.unusedSimpArgs false
set_option maxRecDepth 20000
set_option maxHeartbeats 4000000
namespace Go.Proofs.Ytgelicciggjpaaa
open Go Go.Mx Go.Proofs
open W (OwnB)
section
variable {K : Nat → Prop} {w w' w1 : World} {o o' o1 : Own} {h g m : Nat} {r : RS} {gl pl : List RW} {ga pa : Option Addr} {gc pc : Nat} {i : Int}
theorem rWrite_spec (D : RG w o h r) (ok : Tags w o) (k : r.ok m) (hm : m < 100000) (i : Int) {ba : Option Addr} {bc : Nat} {b : List UInt8} (hb : RowAt w ba (bytesV b)) :
    Calls Try.prog 32 #[.pointer (some (blk h)), .int .i64 i, .slice ba b.length bc] w (Ret (.int .i64 (writeR r i b).2) fun w' => ∃ o', Step (fun j => j = h) w o w' o' ∧ RG w' o' h (writeR r i b).1) := by
  refine cachetteref09_Disk_Write.run _ _ _ _ _ ?_
  unfold cachetteref09_Disk_Write.N
  have hD := D
  obtain ⟨gl, pl, ga, gc, pa, pc, D⟩ := D
  have bad : ∀ (e : Int), writeR r i b = (r, e) → Value.int .i64 e = .int .i64 (writeR r i b).2 ∧ ∃ o', Step (fun j => j = h) w o w o' ∧ RG w o' h (writeR r i b).1 := fun e he => by
    rw [he]; exact ⟨rfl, o, Step.refl _ ok, hD⟩
  refine ⟨_, rfl, r.down, D.b.celli 4 rfl rfl, fun hd => bad 19 (by unfold writeR; rw [if_pos hd]), fun hd => ⟨fun hi => bad 2 (by unfold writeR; rw [if_neg (by rw [hd]; decide), if_pos hi]), fun hi => ⟨r.n, D.b.celli 0 rfl rfl, fun hn => bad 2 (by unfold writeR; rw [if_neg (by rw [hd]; decide), if_neg (by omega), if_pos (by omega)]), fun hn => ⟨fun hbl => bad 1 (by unfold writeR; rw [if_neg (by rw [hd]; decide), if_neg (by omega), if_neg (by omega), if_pos (by omega)]), fun hbl => ?_⟩⟩⟩⟩
  have n1 : ¬ r.down = true := by rw [hd]; decide
  have n2 : ¬ i < 0 := by omega
  have n3 : ¬ r.n ≤ i := by omega
  have n4 : ¬ b.length ≠ 64 := by omega
  have hpn : pl.length = r.pend.length := by rw [← D.pv]; simp
  have hgp := k.gp
  refine ⟨pa, _, pc, D.b.celli 2 rfl rfl, fun w16 q17 X16 hb16 hq hq' => ?_⟩
  have D16 := D.step (Step.of_no X16 ok) (K := no) id
  have O16 : OwnB w.heap.size w16 (some (blk q17)) 0 [] := ⟨owns_of_blk hb16 rfl (Nat.zero_le _), fun ad ha => by cases ha; exact ⟨hq, hq'⟩⟩
  obtain ⟨a20, c20, w20, hrun20, O20, X20⟩ := O16.append (ty := 33) Try.underlying33 X16.size (xc := bc) (hb.no X16) (by simp; omega)
  rw [List.nil_append] at hrun20 O20
  have X020 : Ext no w w20 := X16.then X20 fun b hb => .inr hb
  have s20 := Step.of_no X020 ok
  have D20 := D.step s20 (K := no) id
  have row20 : rwOk w20 (grow w o) ⟨i, a20, c20, b, false⟩ := ⟨⟨O20.row, fun _ ad ha => grow_ge (O20.fr ad ha).1⟩, O20.le⟩
  refine ⟨D16.b.celli 2 rfl rfl, a20, _, c20, w20, hrun20, D20.b.celli 2 rfl rfl, fun w22 q23 X22 hb22 hq23 hq23' => ?_⟩
  have s22' := Step.of_no X22 s20.ok
  have D22 := D20.step s22' (K := no) id
  have row22 := row20.step s22'
  obtain ⟨a26, n26, c26, w26, o26, hrun26, hn26, s26, hp26, X26, hf26⟩ := D22.hp.push s22'.ok D22.b.lt (by omega) (xa := some (blk q23)) (xc := 1) (q := [⟨i, a20, c20, b, false⟩]) (by simpa using (RowAt.of_blk hb22 : RowAt w22 (some (blk q23)) (RW.C ⟨i, a20, c20, b, false⟩))) (by simp)
  subst hn26
  have b26 : Blk w26 h 51 (r.V ga gl.length gc pa pl.length pc) := D22.b.ext X26 fun ⟨ad, h1, h2⟩ => D22.hp.ne D22.b (by decide) ad h1 h2.symm
  have hg26 : QRw w26 o26 h ga gc gl := D22.hg.keep X26 (fun ad ha ⟨ad', h1, h2⟩ => D22.ap ad ad' ha h1 h2) fun b hb => s26.own hb
  have tg26 : o26 h = some h := by rw [s26.own D22.b.lt]; exact D22.tg
  have ap26 : ∀ x y, ga = some x → a26 = some y → x.block ≠ y.block := fun x y hx hy hxy => by
    rcases hf26 y hy with ⟨z, hz, hyz⟩ | hyz
    · exact D22.ap x z hx hz (hxy.trans hyz)
    · have := (D22.hg.tg x hx).2; omega
  have row26 : ∀ x ∈ gl ++ (pl ++ [⟨i, a20, c20, b, false⟩]), rwOk w26 o26 x := fun x hx => by
    rw [← List.append_assoc] at hx
    rcases List.mem_append.1 hx with hx | hx
    · exact (D22.row x hx).step s26
    · simp at hx; subst hx; exact row22.step s26
  have pv26 : (pl ++ [(⟨i, a20, c20, b, false⟩ : RW)]).map RW.v = r.pend ++ [⟨i, b, false⟩] := by rw [List.map_append, D.pv]; rfl
  have s026 := (s20.trans s22').none.trans s26
  refine ⟨D22.b.celli 2 rfl rfl, a26, _, c26, w26, hrun26, b26.cani 2 rfl rfl, thenW_in fun w27 e27 => ?_⟩
  have X27 := (Ext.refl (fun b => b = h) w26).x_set (q := h) (i := 2) rfl (.inl rfl) e27
  have b27 := b26.seti 2 (v := .slice a26 (pl ++ [(⟨i, a20, c20, b, false⟩ : RW)]).length c26) rfl e27
  have hk := k.arm
  have hc := k.cl
  have done : ∀ {w' : World} {r2 : RS}, r2.good = r.good → r2.pend = r.pend ++ [⟨i, b, false⟩] → Ext (fun b => b = h) w26 w' → Blk w' h 51 (r2.V ga gl.length gc a26 (pl ++ [(⟨i, a20, c20, b, false⟩ : RW)]).length c26) → ∃ o', Step (fun j => j = h) w o w' o' ∧ RG w' o' h r2 := fun e1 e2 X hbb => by
    obtain ⟨s, D2⟩ := RGa.turn b26 (by rw [e1]; exact D.gv) (by rw [e2]; exact pv26) hg26 hp26 ap26 row26 tg26 s26.ok X hbb
    exact ⟨_, s026.trans s, _, _, _, _, _, _, D2⟩
  refine ⟨r.armed, b27.celli 3 rfl rfl, fun ha => ⟨b27.cani 4 rfl rfl, thenW_in fun w31 e31 => ?_⟩, fun ha => ⟨r.armed, b27.celli 3 rfl rfl, fun hp => ⟨r.armed, b27.celli 3 rfl rfl, by omega, by omega, b27.cani 3 rfl rfl, thenW_in fun w38 e38 => ?_⟩, fun hp => ⟨r.count, b27.celli 6 rfl rfl, by omega, by omega, b27.cani 6 rfl rfl, thenW_in fun w44 e44 => ?_⟩⟩⟩
  · have e : writeR r i b = ({ r with pend := r.pend ++ [⟨i, b, false⟩], down := true, midst := true }, 19) := by unfold writeR; rw [if_neg n1, if_neg n2, if_neg n3, if_neg n4, if_pos ha]
    have X31 := X27.x_set (q := h) (i := 4) rfl (.inl rfl) e31
    have b31 := b27.seti 4 (v := .bool true) rfl e31
    refine ⟨b31.cani 5 rfl rfl, thenW_in fun w32 e32 => ?_⟩
    have X32 := X31.x_set (q := h) (i := 5) rfl (.inl rfl) e32
    have b32 := b31.seti 5 (v := .bool true) rfl e32
    rw [e]
    exact ⟨rfl, done rfl rfl X32 b32⟩
  · have e : writeR r i b = ({ r with pend := r.pend ++ [⟨i, b, false⟩], armed := r.armed - 1, count := r.count + 1 }, 0) := by unfold writeR; rw [if_neg n1, if_neg n2, if_neg n3, if_neg n4, if_neg ha, if_pos (by omega)]
    have X38 := X27.x_set (q := h) (i := 3) rfl (.inl rfl) e38
    have b38 := b27.seti 3 (v := .int .i64 (r.armed - 1)) rfl e38
    refine ⟨r.count, b38.celli 6 rfl rfl, by omega, by omega, b38.cani 6 rfl rfl, thenW_in fun w41 e41 => ?_⟩
    have X41 := X38.x_set (q := h) (i := 6) rfl (.inl rfl) e41
    have b41 := b38.seti 6 (v := .int .i64 (r.count + 1)) rfl e41
    rw [e]
    exact ⟨rfl, done rfl rfl X41 b41⟩
  · have e : writeR r i b = ({ r with pend := r.pend ++ [⟨i, b, false⟩], count := r.count + 1 }, 0) := by unfold writeR; rw [if_neg n1, if_neg n2, if_neg n3, if_neg n4, if_neg ha, if_neg (by omega)]
    have X44 := X27.x_set (q := h) (i := 6) rfl (.inl rfl) e44
    have b44 := b27.seti 6 (v := .int .i64 (r.count + 1)) rfl e44
    rw [e]
    exact ⟨rfl, done rfl rfl X44 b44⟩
theorem rSync_spec (D : RG w o h r) (ok : Tags w o) (k : r.ok m) (hm : m < 100000) : Calls Try.prog 33 #[.pointer (some (blk h))] w (Ret (.int .i64 (syncR r).2) fun w' => ∃ o', Step (fun j => j = h) w o w' o' ∧ RG w' o' h (syncR r).1) := by
  refine cachetteref09_Disk_Sync.run _ ?_
  unfold cachetteref09_Disk_Sync.N
  have hD := D
  obtain ⟨gl, pl, ga, gc, pa, pc, D⟩ := D
  have hgn : gl.length = r.good.length := by rw [← D.gv]; simp
  have hpn : pl.length = r.pend.length := by rw [← D.pv]; simp
  have hgp := k.gp
  refine ⟨_, rfl, r.down, D.b.celli 4 rfl rfl, fun hd => ?_, fun hd => ?_⟩
  · have e : syncR r = (r, 19) := by unfold syncR; rw [if_pos hd]
    rw [e]; exact ⟨rfl, o, Step.refl _ ok, hD⟩
  · have e : syncR r = ({ r with good := r.good ++ r.pend, pend := [] }, 0) := by unfold syncR; rw [if_neg (by rw [hd]; decide)]
    rw [e]
    refine ⟨ga, _, gc, D.b.celli 1 rfl rfl, pa, _, pc, D.b.celli 2 rfl rfl, fun w6 X6 => ?_⟩
    have s6 := Step.of_no X6 ok
    have D6 := D.step s6 (K := no) id
    obtain ⟨a12, n12, c12, w12, o12, hrun, hn, s12, hg12, X12, hf⟩ := D6.hg.push s6.ok D6.b.lt (by omega) (xa := pa) (xc := pc) D6.hp.row (by omega)
    subst hn
    have b12 : Blk w12 h 51 (r.V ga gl.length gc pa pl.length pc) := D6.b.ext X12 fun ⟨ad, h1, h2⟩ => D6.hg.ne D6.b (by decide) ad h1 h2.symm
    have tg12 : o12 h = some h := by rw [s12.own D6.b.lt]; exact D6.tg
    refine ⟨a12, _, c12, w12, hrun, b12.cani 1 rfl rfl, thenW_in fun w13 e13 => ?_⟩
    have X13 := (Ext.refl (fun b => b = h) w12).x_set (q := h) (i := 1) rfl (.inl rfl) e13
    have b13 := b12.seti 1 (v := .slice a12 (gl ++ pl).length c12) rfl e13
    refine ⟨b13.cani 2 rfl rfl, thenW_in fun w14 e14 => ?_⟩
    have X14 := X13.x_set (q := h) (i := 2) rfl (.inl rfl) e14
    have b14 := b13.seti 2 (v := .slice none 0 0) rfl e14
    obtain ⟨s, D2⟩ := RGa.turn (r2 := { r with good := r.good ++ r.pend, pend := [] }) (pl := []) (pa := none) (pc := 0) b12 (by show (gl ++ pl).map RW.v = r.good ++ r.pend; rw [List.map_append, D.gv, D.pv]) rfl hg12 (Grows.nil _ _ _ _ _) (fun x y _ h => (by cases h)) (fun x hx => (D6.row x (by simpa using hx)).step s12) tg12 s12.ok X14 b14
    exact ⟨rfl, _, (s6.none.trans s12).trans s, _, _, _, _, _, _, D2⟩
theorem rArm_spec (D : RG w o h r) (ok : Tags w o) (n : Int) : Calls Try.prog 34 #[.pointer (some (blk h)), .int .i64 n] w (Ret (.int .i64 (armR r n).2) fun w' => ∃ o', Step (fun j => j = h) w o w' o' ∧ RG w' o' h (armR r n).1) := by
  refine cachetteref09_Disk_Arm.run _ _ ?_
  unfold cachetteref09_Disk_Arm.N
  have hD := D
  obtain ⟨gl, pl, ga, gc, pa, pc, D⟩ := D
  refine ⟨_, rfl, r.down, D.b.celli 4 rfl rfl, fun hd => ?_, fun hd => ⟨fun hn => ?_, fun hn => ⟨D.b.cani 3 rfl rfl, thenW_in fun w8 e8 => ?_⟩⟩⟩
  · have e : armR r n = (r, 19) := by unfold armR; rw [if_pos hd]
    rw [e]; exact ⟨rfl, o, Step.refl _ ok, hD⟩
  · have e : armR r n = (r, 1) := by unfold armR; rw [if_neg (by rw [hd]; decide), if_pos hn]
    rw [e]; exact ⟨rfl, o, Step.refl _ ok, hD⟩
  · have e : armR r n = ({ r with armed := n }, 0) := by unfold armR; rw [if_neg (by rw [hd]; decide), if_neg (by omega)]
    rw [e]
    have X8 := (Ext.refl (fun b => b = h) w).x_set (q := h) (i := 3) rfl (.inl rfl) e8
    have b8 := D.b.seti 3 (v := .int .i64 n) rfl e8
    obtain ⟨s, D2⟩ := RGa.turn (r2 := { r with armed := n }) D.b D.gv D.pv D.hg D.hp D.ap D.row D.tg ok X8 b8
    exact ⟨rfl, _, s, _, _, _, _, _, _, D2⟩
theorem tearL_get (mid : Bool) : ∀ (l : List RV) (t : Nat) (x : RV), (∀ y ∈ l, y.torn = false) → l[t]? = some x → (tearL mid l)[t]? = some { x with torn := mid && (t + 1 == l.length) }
  | [], _, _, _, h => by simp at h
  | [y], 0, x, _, h => by
    simp only [List.getElem?_cons_zero, Option.some.injEq] at h
    subst h
    simp [tearL]
  | [y], t + 1, x, _, h => by simp at h
  | y :: z :: r, 0, x, hf, h => by
    simp only [List.getElem?_cons_zero, Option.some.injEq] at h
    subst h
    have e : ((0 + 1 == (y :: z :: r).length) : Bool) = false := by simp
    rw [e, Bool.and_false]
    rfl
  | y :: z :: r, t + 1, x, hf, h => by
    have := tearL_get mid (z :: r) t x (fun u hu => hf u (by simp [hu])) (by simpa using h)
    show (tearL mid (z :: r))[t]? = _
    rw [this]
    congr 3
    simp
theorem keptL_len (k : Nat → Bool) : ∀ (l : List RV) (t : Nat), (keptL k t l).length ≤ l.length
  | [], _ => Nat.le_refl _
  | x :: r, t => by
    have := keptL_len k r (t + 1)
    rw [keptL]
    split <;> simp <;> omega
theorem rRestart_spec (D : RG w o h r) (ok : Tags w o) (k : r.ok m) (hm : m < 100000) (hpt : r.pend.map RV.tf = r.pend) {ka : Option Addr} {kc : Nat} {kl : List Bool} (hr : Row w o ka (boolsV kl)) : Calls Try.prog 35 #[.pointer (some (blk h)), .slice ka kl.length kc] w (Ret (.tuple #[]) fun w' => ∃ o', Step (fun j => j = h) w o w' o' ∧ RG w' o' h (restartR r kl)) := by
  refine cachetteref09_Disk_Restart.run _ _ _ _ ?_
  unfold cachetteref09_Disk_Restart.N
  obtain ⟨gl, pl, ga, gc, pa, pc, D⟩ := D
  have hgn : gl.length = r.good.length := by rw [← D.gv]; simp
  have hpn : pl.length = r.pend.length := by rw [← D.pv]; simp
  have hgp := k.gp
  have htf : ∀ y ∈ r.pend, y.torn = false := fun y hy => by
    rw [← hpt] at hy
    obtain ⟨z, _, rfl⟩ := List.mem_map.1 hy
    rfl
  refine ⟨fun q vs w1 => ∃ (t : Nat) (gl1 : List RW) (ga1 : Option Addr) (gc1 : Nat) (o1 : Own), vs = [.int .i64 t] ∧ q + t = pl.length ∧ Step (fun j => j = h) w o w1 o1 ∧ RGa w1 o1 h { r with good := gl1.map RW.v } gl1 pl ga1 gc1 pa pc ∧ gl1.map RW.v ++ keptL (keepF kl) t ((tearL r.midst r.pend).drop t) = r.good ++ keptL (keepF kl) 0 (tearL r.midst r.pend) ∧ gl1.length ≤ gl.length + t, pl.length, ⟨0, gl, ga, gc, o, rfl, rfl, Step.refl _ ok, by rw [D.gv]; exact D, by rw [D.gv]; rfl, Nat.le_refl _⟩, ?_⟩
  rintro q w6 i0 ⟨t, gl1, ga1, gc1, o6, hi, hq, s6, D6, hkeep, hgl1⟩
  simp only [List.cons.injEq, Value.int.injEq, true_and, and_true] at hi
  subst hi
  refine ⟨_, rfl, pa, _, pc, D6.b.celli 2 rfl rfl, fun ht => ?_, fun ht => ?_⟩
  · have htl : t < pl.length := by omega
    have hg : pl[t]? = some pl[t] := List.getElem?_eq_getElem htl
    have hxr := D6.row _ (List.mem_append.2 (.inr (List.getElem_mem htl)))
    have hpv : r.pend[t]? = some pl[t].v := by rw [← D.pv, List.getElem?_map, hg]; rfl
    have htg := tearL_get r.midst r.pend t _ htf hpv
    obtain ⟨htt, hte⟩ := List.getElem?_eq_some_iff.1 htg
    rw [List.drop_eq_getElem_cons htt, hte, keptL] at hkeep
    generalize pl[t] = x at *
    have hlr := hr.step s6
    refine ⟨fun hk => ?_, fun hk => ?_⟩
    · have e : keepF kl t = false := by unfold keepF; rw [List.getElem?_eq_none (by omega)]; rfl
      rw [e, if_neg (by decide)] at hkeep
      exact ⟨by omega, by omega, q - 1, by omega, t + 1, gl1, ga1, gc1, o6, rfl, by omega, s6, D6, hkeep, by omega⟩
    have hkl : t < kl.length := by omega
    have hgk : kl[t]? = some kl[t] := List.getElem?_eq_getElem hkl
    have hgv : (boolsV kl)[t]? = some (.bool kl[t]) := by unfold boolsV; rw [List.getElem?_map, hgk]; rfl
    have ek : keepF kl t = kl[t] := by unfold keepF; rw [hgk]; rfl
    obtain ⟨kd, rfl⟩ := hlr.1.addr fun e => by rw [e] at hgv; cases hgv
    refine ⟨kd, rfl, by omega, by omega, kl[t], by rw [Int.toNat_natCast, Nat.mul_one]; exact hlr.1.at_ hgv, fun hf => ?_, fun htr => ?_⟩
    · rw [ek, hf, if_neg (by decide)] at hkeep
      exact ⟨by omega, by omega, q - 1, by omega, t + 1, gl1, ga1, gc1, o6, rfl, by omega, s6, D6, hkeep, by omega⟩
    rw [ek, htr, if_pos rfl] at hkeep
    obtain ⟨pd, rfl⟩ := D6.hp.row.faddr RW.len (by decide) htl
    refine ⟨some pd, _, pc, D6.b.celli 2 rfl rfl, pd, rfl, by omega, by omega, x.i, x.a, x.b.length, x.c, x.torn, by rw [Int.toNat_natCast]; exact D6.hp.row.floads RW.len hg, r.midst, D6.b.celli 5 rfl rfl, ?_⟩
    -- one that is kept
    have psh : ∀ (tn : Bool), tn = (r.midst && (t + 1 == r.pend.length)) → ∀ (w38 : World) (q39 : Nat), Ext no w6 w38 → Blk w38 q39 71 [.int .i64 x.i, .slice x.a x.b.length x.c, .bool tn] → w6.heap.size ≤ q39 → q39 < w38.heap.size →
        w38.cell? ((blk h).add 1) = some (.slice ga1 gl1.length gc1) ∧ ∃ (a42a : Option Addr) (a42n : Nat) (a42c : Nat) (w43 : World), (Builtin.append_ #[49, 49] 49 #[.slice ga1 gl1.length gc1, .slice (some (blk q39)) 1 1]).run Try.prog w38 = .ok (.slice a42a a42n a42c) w43 ∧
          canStore w43 (((blk h).add 1).add 0) ∧ thenW (w43.setCell (((blk h).add 1).add 0) (.slice a42a a42n a42c)) fun w44 => (-9223372036854775808 : Int) ≤ ((t : Int) + 1) ∧ ((t : Int) + 1) < 9223372036854775808 ∧ ∃ m45, m45 < q ∧ ∃ (t' : Nat) (gl1 : List RW) (ga1 : Option Addr) (gc1 : Nat) (o1 : Own), [Value.int .i64 ((t : Int) + 1)] = [.int .i64 t'] ∧ m45 + t' = pl.length ∧ Step (fun j => j = h) w o w44 o1 ∧ RGa w44 o1 h { r with good := gl1.map RW.v } gl1 pl ga1 gc1 (some pd) pc ∧ gl1.map RW.v ++ keptL (keepF kl) t' ((tearL r.midst r.pend).drop t') = r.good ++ keptL (keepF kl) 0 (tearL r.midst r.pend) ∧ gl1.length ≤ gl.length + t' := by
      intro tn htn w38 q39 X38 hb38 hq39 hq39'
      have s38 := Step.of_no X38 s6.ok
      have D38 := D6.step s38 (K := no) id
      obtain ⟨a43, n43, c43, w43, o43, hrun, hn43, s43, hg43, X43, hf43⟩ := D38.hg.push s38.ok D38.b.lt (by omega) (xa := some (blk q39)) (xc := 1) (q := [⟨x.i, x.a, x.c, x.b, tn⟩]) (by simpa using (RowAt.of_blk hb38 : RowAt w38 (some (blk q39)) (RW.C ⟨x.i, x.a, x.c, x.b, tn⟩))) (by simp)
      subst hn43
      have b43 : Blk w43 h 51 _ := D38.b.ext X43 fun ⟨ad, h1, h2⟩ => D38.hg.ne D38.b (by decide) ad h1 h2.symm
      have tg43 : o43 h = some h := by rw [s43.own D38.b.lt]; exact D38.tg
      have hp43 : QRw w43 o43 h (some pd) pc pl := D38.hp.keep X43 (fun ad ha ⟨ad', h1, h2⟩ => D38.ap ad' ad h1 ha h2.symm) fun b hb => s43.own hb
      have ap43 : ∀ u v, a43 = some u → some pd = some v → u.block ≠ v.block := fun u v hu hv huv => by
        rcases hf43 u hu with ⟨z, hz, hyz⟩ | hyz
        · exact D38.ap z v hz hv (hyz.symm.trans huv)
        · have := (D38.hp.tg v hv).2; omega
      have row43 : ∀ y ∈ (gl1 ++ [(⟨x.i, x.a, x.c, x.b, tn⟩ : RW)]) ++ pl, rwOk w43 o43 y := fun y hy => by
        simp only [List.append_assoc, List.mem_append, List.mem_singleton] at hy
        rcases hy with hy | hy | hy
        · exact (D38.row y (List.mem_append.2 (.inl hy))).step s43
        · subst hy; exact ((hxr.step s38).step s43 : rwOk w43 o43 x)
        · exact (D38.row y (List.mem_append.2 (.inr hy))).step s43
      refine ⟨D38.b.celli 1 rfl rfl, a43, _, c43, w43, hrun, b43.cani 1 rfl rfl, thenW_in fun w44 e44 => ?_⟩
      have X44 := (Ext.refl (fun b => b = h) w43).x_set (q := h) (i := 1) rfl (.inl rfl) e44
      have b44 := b43.seti 1 (v := .slice a43 (gl1 ++ [(⟨x.i, x.a, x.c, x.b, tn⟩ : RW)]).length c43) rfl e44
      obtain ⟨s44, D44⟩ := RGa.turn (r2 := { r with good := (gl1 ++ [(⟨x.i, x.a, x.c, x.b, tn⟩ : RW)]).map RW.v }) b43 rfl D.pv hg43 hp43 ap43 row43 tg43 s43.ok X44 b44
      refine ⟨by omega, by omega, q - 1, by omega, t + 1, _, _, _, _, rfl, by omega, ((s6.trans s38.none).trans s43).trans s44, D44, ?_, by rw [List.length_append]; show gl1.length + 1 ≤ gl.length + (t + 1); omega⟩
      rw [List.map_append, List.append_assoc, htn]
      exact hkeep
    refine ⟨fun hmid => ⟨some pd, _, pc, D6.b.celli 2 rfl rfl, by omega, by omega, ga1, _, gc1, D6.b.celli 1 rfl rfl, psh _ ?_⟩, fun hmid => ⟨ga1, _, gc1, D6.b.celli 1 rfl rfl, psh _ (by rw [hmid]; rfl)⟩⟩
    rw [hmid, Bool.true_and, Bool.eq_iff_iff, beq_iff_eq, beq_iff_eq]
    omega
  · have htt : t = pl.length := by omega
    rw [List.drop_eq_nil_of_le (by rw [tearL_len]; omega)] at hkeep
    have hkeep : gl1.map RW.v = r.good ++ keptL (keepF kl) 0 (tearL r.midst r.pend) := by rw [← hkeep]; simp [keptL]
    refine ⟨D6.b.cani 2 rfl rfl, thenW_in fun w58 e58 => ?_⟩
    have X58 := (Ext.refl (fun b => b = h) w6).x_set (q := h) (i := 2) rfl (.inl rfl) e58
    have b58 := D6.b.seti 2 (v := .slice none 0 0) rfl e58
    refine ⟨b58.cani 3 rfl rfl, thenW_in fun w59 e59 => ?_⟩
    have X59 := X58.x_set (q := h) (i := 3) rfl (.inl rfl) e59
    have b59 := b58.seti 3 (v := .int .i64 (-1)) rfl e59
    refine ⟨b59.cani 4 rfl rfl, thenW_in fun w60 e60 => ?_⟩
    have X60 := X59.x_set (q := h) (i := 4) rfl (.inl rfl) e60
    have b60 := b59.seti 4 (v := .bool false) rfl e60
    refine ⟨b60.cani 5 rfl rfl, thenW_in fun w61 e61 => ?_⟩
    have X61 := X60.x_set (q := h) (i := 5) rfl (.inl rfl) e61
    have b61 := b60.seti 5 (v := .bool false) rfl e61
    obtain ⟨s, D2⟩ := RGa.turn (r2 := restartR r kl) (gl := gl1) (pl := []) (pa := none) (pc := 0) D6.b hkeep rfl D6.hg (Grows.nil _ _ _ _ _) (fun x y _ h => (by cases h)) (fun x hx => D6.row x (List.mem_append.2 (.inl (by simpa using hx)))) D6.tg s6.ok X61 b61
    exact ⟨rfl, _, s6.trans s, _, _, _, _, _, _, D2⟩
end
end Go.Proofs.Ytgelicciggjpaaa

/- Disk: a step of both; DiskPlays. -/
set_option linter.unusedVariables false
set_option linter.unusedSimpArgs false
set_option maxRecDepth 20000
set_option maxHeartbeats 4000000
namespace Go.Proofs.Ytgelicciggjpaaa
open Go Go.Mx Go.Proofs
open W (OwnB)
def stepD (d : DS) (x : DOp) : DS := if x.kd = 0 then (writeD d x.n (secB x.by_ x.short)).1 else if x.kd = 2 then (syncD d).1 else if x.kd = 3 then (armD d x.n).1 else if x.kd = 4 then restartD d x.keep else d
def stepR (r : RS) (x : DOp) : RS := if x.kd = 0 then (writeR r x.n (secB x.by_ x.short)).1 else if x.kd = 2 then (syncR r).1 else if x.kd = 3 then (armR r x.n).1 else if x.kd = 4 then restartR r x.keep else r
def stepB (d : DS) (r : RS) (x : DOp) : Bool :=
  if x.kd = 0 then ((writeD d x.n (secB x.by_ x.short)).2 == (writeR r x.n (secB x.by_ x.short)).2)
  else if x.kd = 1 then (decide ((readD d x.n).1 = (readR r x.n).1) && ((readD d x.n).2 == (readR r x.n).2))
  else if x.kd = 2 then ((syncD d).2 == (syncR r).2) else if x.kd = 3 then ((armD d x.n).2 == (armR r x.n).2) else true
section
variable {K : Nat → Prop} {w w' w1 : World} {o o' o1 : Own} {h g m : Nat} {d : DS} {r : RS} {x : DOp}
theorem stepD_ok (k : d.ok m) (hn : x.n < 9223372036854775808) : (stepD d x).ok (m + 1) := by
  unfold stepD
  split
  · exact writeD_ok k _ _
  split
  · exact (syncD_ok k).up (by omega)
  split
  · exact (armD_ok k hn).up (by omega)
  split
  · exact (restartD_ok k _).up (by omega)
  · exact k.up (by omega)
theorem RS.ok.up {n : Nat} (k : r.ok m) (hm : m ≤ n) : r.ok n := ⟨k.n, by have := k.gp; omega, by have := k.cl; omega, k.arm⟩
theorem stepR_ok (k : r.ok m) (hn : x.n < 9223372036854775808) : (stepR r x).ok (m + 1) := by
  have hg := k.gp
  have hc := k.cl
  have ha := k.arm
  have hl : ∀ y : RV, r.good.length + (r.pend ++ [y]).length ≤ m + 1 := fun y => by rw [List.length_append]; show r.good.length + (r.pend.length + 1) ≤ m + 1; omega
  unfold stepR
  split
  · unfold writeR
    split
    · exact k.up (by omega)
    split
    · exact k.up (by omega)
    split
    · exact k.up (by omega)
    split
    · exact k.up (by omega)
    split
    · exact ⟨k.n, hl _, by show 0 ≤ r.count ∧ r.count ≤ ((m + 1 : Nat) : Int); omega, ha⟩
    split
    · exact ⟨k.n, hl _, by show 0 ≤ r.count + 1 ∧ r.count + 1 ≤ ((m + 1 : Nat) : Int); omega, by show -1 ≤ r.armed - 1 ∧ r.armed - 1 < 9223372036854775808; omega⟩
    · exact ⟨k.n, hl _, by show 0 ≤ r.count + 1 ∧ r.count + 1 ≤ ((m + 1 : Nat) : Int); omega, ha⟩
  split
  · unfold syncR
    split
    · exact k.up (by omega)
    · exact ⟨k.n, by show (r.good ++ r.pend).length + 0 ≤ m + 1; rw [List.length_append]; omega, by show 0 ≤ r.count ∧ r.count ≤ ((m + 1 : Nat) : Int); omega, ha⟩
  split
  · unfold armR
    split
    · exact k.up (by omega)
    split
    · exact k.up (by omega)
    · exact ⟨k.n, by show r.good.length + r.pend.length ≤ m + 1; omega, by show 0 ≤ r.count ∧ r.count ≤ ((m + 1 : Nat) : Int); omega, by show -1 ≤ x.n ∧ x.n < 9223372036854775808; omega⟩
  split
  · refine ⟨k.n, ?_, by show 0 ≤ r.count ∧ r.count ≤ ((m + 1 : Nat) : Int); omega, by show -1 ≤ (-1 : Int) ∧ (-1 : Int) < 9223372036854775808; decide⟩
    have := keptL_len (keepF x.keep) (tearL r.midst r.pend) 0
    rw [tearL_len] at this
    show (r.good ++ keptL (keepF x.keep) 0 (tearL r.midst r.pend)).length + 0 ≤ m + 1
    rw [List.length_append]; omega
  · exact k.up (by omega)
theorem step_sim (S : SimD d r) (hat : ∀ y ∈ d.pend, 0 ≤ y.i) : stepB d r x = true ∧ SimD (stepD d x) (stepR r x) := by
  unfold stepB stepD stepR
  split
  · obtain ⟨h1, h2⟩ := write_simD S x.n (secB x.by_ x.short)
    exact ⟨by rw [h1]; exact beq_self_eq_true _, h2⟩
  rename_i h0
  split
  · rename_i h1
    rw [if_neg (by omega), if_neg (by omega), if_neg (by omega), if_neg (by omega), if_neg (by omega), if_neg (by omega)]
    rw [read_simD S x.n]
    exact ⟨by simp, S⟩
  rename_i h1
  split
  · obtain ⟨h1, h2⟩ := sync_simD S hat
    exact ⟨by rw [h1]; exact beq_self_eq_true _, h2⟩
  split
  · obtain ⟨h1, h2⟩ := arm_simD S x.n
    exact ⟨by rw [h1]; exact beq_self_eq_true _, h2⟩
  split
  · exact ⟨rfl, restart_simD S hat _⟩
  · exact ⟨rfl, S⟩
theorem step_spec (D : DG w o g d) (R : RG w o h r) (hgh : g ≠ h) (ok : Tags w o) (kd : d.ok m) (kr : r.ok m) (hm : m < 100000) (hpt : r.pend.map RV.tf = r.pend) (hbw : 0 ≤ x.by_ ∧ x.by_ < 256) (hrow : Row w o x.ka (boolsV x.keep)) :
    Calls Try.prog 21 #[.pointer (some (blk g)), .pointer (some (blk h)), .agg #[.int .i64 x.kd, .int .i64 x.n, .int .u8 x.by_, .bool x.short, .slice x.ka x.keep.length x.kc]] w (Ret (.bool (stepB d r x)) fun w' => ∃ o', Step (fun j => j = g ∨ j = h) w o w' o' ∧ DG w' o' g (stepD d x) ∧ RG w' o' h (stepR r x)) := by
  refine cachettelaw09_step.run _ _ _ _ _ _ _ _ _ ?_
  unfold cachettelaw09_step.N
  have hlg := D.lt
  have hlh : h < w.heap.size := by
    obtain ⟨gl, pl, ga, gc, pa, pc, DR⟩ := R
    exact DR.b.lt
  refine ⟨fun h0 w8 p10 X8 hp => ?_, fun h0 => ⟨fun h1 w8 p22 X8 hp => ?_, fun h1 => ⟨fun h2 w8 X8 => ?_, fun h2 => ⟨fun h3 w44 p45 X44 hp => ?_, fun h3 => ⟨fun h4 w8 p53 X8 hp => ?_, fun h4 w8 X8 => ?_⟩⟩⟩⟩⟩
  · have eB : stepB d r x = ((writeD d x.n (secB x.by_ x.short)).2 == (writeR r x.n (secB x.by_ x.short)).2) := by unfold stepB; rw [if_pos h0]
    have eD : stepD d x = (writeD d x.n (secB x.by_ x.short)).1 := by unfold stepD; rw [if_pos h0]
    have eR : stepR r x = (writeR r x.n (secB x.by_ x.short)).1 := by unfold stepR; rw [if_pos h0]
    rw [eB, eD, eR]
    obtain ⟨s8, M8⟩ := Step.priv X8 hp ok
    have hp10 : w.heap.size ≤ p10 := (hp p10 (by simp)).1
    refine (Sector_spec s8.ok hbw x.short).mono fun e w13 ⟨ba, bc, o13, he, s13', rb, _⟩ => ⟨_, _, _, he, M8.keep s13' fun _ _ => id, fun w14 X14 => ?_⟩
    have s14' := Step.of_no X14 s13'.ok
    have s14 := (s8.trans s13').trans s14'
    have M14 := (M8.step s13').step s14'
    refine (dWrite_spec (D.step s14 id) s14.ok kd hm x.n (rb.step s14').1).mono fun e w17 ⟨he, o17, s17, D17⟩ => ⟨_, he, M14.keep s17 (fun p hp' => by simp at hp'; omega), ?_⟩
    have R17 := (R.step s14 id).step s17 (fun e => hgh e.symm)
    refine (rWrite_spec R17 s17.ok kr hm x.n ((rb.step s14').step s17).1).mono fun e w20 ⟨he, o20, s20, R20⟩ => ⟨_, he, rfl, o20, ?_, D17.step s20 hgh, R20⟩
    exact (s14.none.trans (s17.mono fun j hj _ => .inl hj)).trans (s20.mono fun j hj _ => .inr hj)
  · have eB : stepB d r x = (decide ((readD d x.n).1 = (readR r x.n).1) && ((readD d x.n).2 == (readR r x.n).2)) := by unfold stepB; rw [if_neg h0, if_pos h1]
    have eD : stepD d x = d := by unfold stepD; rw [if_neg h0, if_neg (by omega), if_neg (by omega), if_neg (by omega)]
    have eR : stepR r x = r := by unfold stepR; rw [if_neg h0, if_neg (by omega), if_neg (by omega), if_neg (by omega)]
    rw [eB, eD, eR]
    obtain ⟨s8, M8⟩ := Step.priv X8 hp ok
    refine (dRead_spec (D.step s8 id) s8.ok x.n (by have := kd.pl; omega)).mono fun e w26 ⟨ra, rn, rc, o26, he, R1⟩ => ⟨_, _, _, _, he, M8.keep R1.st fun _ _ => id, ?_⟩
    have s26 := s8.trans R1.st
    refine (rRead_spec (R.step s26 id) s26.ok kr hm x.n).mono fun e w30 ⟨sa, sc, o30, he, s30', row30⟩ => ⟨_, _, _, _, he, ?_⟩
    have s30 := s26.trans s30'
    have hn1 := R1.nn
    subst hn1
    refine (W.sameB_spec (R1.row s30') row30.1 (by have := readD_len d x.n; omega)).mono fun e w33 ⟨he, X33⟩ => ⟨_, he, fun ht => ?_, fun hf => ?_⟩
    all_goals have s33 := s30.trans (Step.of_no X33 s30.ok)
    · rw [ht, Bool.true_and]
      exact ⟨rfl, _, s33.none, D.step s33 id, R.step s33 id⟩
    · rw [hf, Bool.false_and]
      exact ⟨rfl, _, s33.none, D.step s33 id, R.step s33 id⟩
  · have eB : stepB d r x = ((syncD d).2 == (syncR r).2) := by unfold stepB; rw [if_neg h0, if_neg h1, if_pos h2]
    have eD : stepD d x = (syncD d).1 := by unfold stepD; rw [if_neg h0, if_pos h2]
    have eR : stepR r x = (syncR r).1 := by unfold stepR; rw [if_neg h0, if_pos h2]
    rw [eB, eD, eR]
    have s8 := Step.of_no X8 ok
    refine (dSync_spec (D.step s8 (K := no) id) s8.ok kd hm).mono fun e w39 ⟨he, o39, s39, D39⟩ => ⟨_, he, ?_⟩
    refine (rSync_spec ((R.step s8 (K := no) id).step s39 (fun e => hgh e.symm)) s39.ok kr hm).mono fun e w42 ⟨he, o42, s42, R42⟩ => ⟨_, he, rfl, o42, ?_, D39.step s42 hgh, R42⟩
    exact (s8.none.trans (s39.mono fun j hj _ => .inl hj)).trans (s42.mono fun j hj _ => .inr hj)
  · have eB : stepB d r x = ((armD d x.n).2 == (armR r x.n).2) := by unfold stepB; rw [if_neg h0, if_neg h1, if_neg h2, if_pos h3]
    have eD : stepD d x = (armD d x.n).1 := by unfold stepD; rw [if_neg h0, if_neg h2, if_pos h3]
    have eR : stepR r x = (armR r x.n).1 := by unfold stepR; rw [if_neg h0, if_neg h2, if_pos h3]
    rw [eB, eD, eR]
    obtain ⟨s8, M8⟩ := Step.priv X44 hp ok
    have hp10 : w.heap.size ≤ p45 := (hp p45 (by simp)).1
    refine (Arm_spec (D.step s8 id) s8.ok x.n).mono fun e w39 ⟨he, o39, s39, D39⟩ => ⟨_, he, M8.keep s39 (fun p hp' => by simp at hp'; omega), ?_⟩
    refine (rArm_spec ((R.step s8 id).step s39 (fun e => hgh e.symm)) s39.ok x.n).mono fun e w42 ⟨he, o42, s42, R42⟩ => ⟨_, he, rfl, o42, ?_, D39.step s42 hgh, R42⟩
    exact (s8.none.trans (s39.mono fun j hj _ => .inl hj)).trans (s42.mono fun j hj _ => .inr hj)
  · have eB : stepB d r x = true := by unfold stepB; rw [if_neg h0, if_neg h1, if_neg h2, if_neg h3]
    have eD : stepD d x = restartD d x.keep := by unfold stepD; rw [if_neg h0, if_neg h2, if_neg h3, if_pos h4]
    have eR : stepR r x = restartR r x.keep := by unfold stepR; rw [if_neg h0, if_neg h2, if_neg h3, if_pos h4]
    rw [eB, eD, eR]
    obtain ⟨s8, M8⟩ := Step.priv X8 hp ok
    have hp10 : w.heap.size ≤ p53 := (hp p53 (by simp)).1
    refine (rRestart_spec (R.step s8 id) s8.ok kr hm hpt (hrow.step s8)).mono fun e w55 ⟨he, o55, s55, R55⟩ => ⟨he, M8.keep s55 (fun p hp' => by simp at hp'; omega), ?_⟩
    refine (dRestart_spec ((D.step s8 id).step s55 hgh) s55.ok kd hm ((hrow.step s8).step s55)).mono fun e w58 ⟨he, o58, s58, D58⟩ => ⟨_, he, rfl, o58, ?_, D58, R55.step s58 (fun e => hgh e.symm)⟩
    exact (s8.none.trans (s55.mono fun j hj _ => .inr hj)).trans (s58.mono fun j hj _ => .inl hj)
  · have eB : stepB d r x = true := by unfold stepB; rw [if_neg h0, if_neg h1, if_neg h2, if_neg h3]
    have eD : stepD d x = d := by unfold stepD; rw [if_neg h0, if_neg h2, if_neg h3, if_neg h4]
    have eR : stepR r x = r := by unfold stepR; rw [if_neg h0, if_neg h2, if_neg h3, if_neg h4]
    rw [eB, eD, eR]
    have s8 := Step.of_no X8 ok
    exact ⟨rfl, _, s8.none, D.step s8 (K := no) id, R.step s8 (K := no) id⟩
end
end Go.Proofs.Ytgelicciggjpaaa

/- DiskCopies. -/
set_option linter.unusedVariables false
set_option linter.unusedSimpArgs false
set_option maxRecDepth 20000
set_option maxHeartbeats 4000000
namespace Go.Proofs.Ytgelicciggjpaaa
open Go Go.Mx Go.Proofs
open W (OwnB)
section
variable {K : Nat → Prop} {w w' w1 : World} {o o' o1 : Own} {h g m : Nat} {d : DS} {r : RS} {x : DOp}
theorem copies_end {Φ : Bool → World → Prop} {n : Int} (D : DG w o g d) (R : RG w o h r) (S : SimD d r) (ok : Tags w o) (kd : d.pend.length < 100000) (kr : r.ok m) (hm : m < 100000) (hn : (d.pend.length : Int) = n) (hΦ : ∀ w' o' w2, Step no w o w' o' → Ext no w' w2 → Φ true w2) :
    Calls Try.prog 16 #[.pointer (some (blk g)), .int .i64 0] w fun ee78 ww79 => ∃ (read76a : Option Addr) (read76n : Nat) (read76c : Nat) (read77 : Int), ee78 = .returned (.tuple #[.slice read76a read76n read76c, .int .i64 read77]) ∧
      Calls Try.prog 22 #[.pointer (some (blk h)), .int .i64 0] ww79 fun ee82 ww83 => ∃ (read80a : Option Addr) (read80n : Nat) (read80c : Nat) (read81 : Int), ee82 = .returned (.tuple #[.slice read80a read80n read80c, .int .i64 read81]) ∧
      (read77 = read81 → ∀ (ww84 : World), Ext no ww83 ww84 →
        Calls Try.prog 17 #[.slice read76a read76n read76c, .slice read80a read80n read80c] ww84 fun ee87 ww88 => ∃ (same86 : Bool), ee87 = .returned (.bool same86) ∧
        (same86 = true → Calls Try.prog 19 #[.pointer (some (blk g))] ww88 fun ee91 ww92 => ∃ (pending90 : Int), ee91 = .returned (.int .i64 pending90) ∧
          (pending90 = n → ∃ a94 : Addr, (some (blk h)) = some a94 ∧ ∃ (IsDown96 : Bool), ww92.cell? (a94.add 4) = some (.bool IsDown96) ∧
            Calls Try.prog 18 #[.pointer (some (blk g))] ww92 fun ee98 ww99 => ∃ (down97 : Bool), ee98 = .returned (.bool down97) ∧ ww99.cell? (a94.add 4) = some (.bool IsDown96) ∧
            (down97 = IsDown96 → Calls Try.prog 8 #[] ww99 fun ee103 ww104 => ∃ (alive102 : Bool), ee103 = .returned (.bool alive102) ∧ Φ alive102 ww104) ∧
            (down97 ≠ IsDown96 → Φ false ww99)) ∧
          (pending90 ≠ n → Φ false ww92)) ∧
        (same86 = false → Φ false ww88)) ∧
      (read77 ≠ read81 → ∀ (ww84 : World), Ext no ww83 ww84 → Φ false ww84) := by
  refine (dRead_spec D ok 0 (by omega)).mono fun e w79 ⟨ra, rn, rc, o79, he, R1⟩ => ⟨_, _, _, _, he, ?_⟩
  have s79 := R1.st
  refine (rRead_spec (R.step s79 id) s79.ok kr hm 0).mono fun e w83 ⟨sa, sc, o83, he, s83', row83⟩ => ⟨_, _, _, _, he, ?_⟩
  have s83 := s79.trans s83'
  have hn1 := R1.nn
  subst hn1
  have hrs := read_simD S 0
  refine ⟨fun _ w84 X84 => ?_, fun hne => absurd (by rw [hrs]) hne⟩
  have s84' := Step.of_no X84 s83.ok
  have s84 := s83.trans s84'
  refine (W.sameB_spec (R1.row (s83'.trans s84')) (row83.step s84').1 (by have := readD_len d 0; omega)).mono fun e w88 ⟨he, X88⟩ => ⟨_, he, fun _ => ?_, fun hf => absurd (by rw [hrs]) (of_decide_eq_false hf)⟩
  have s88 := s84.trans (Step.of_no X88 s84.ok)
  have D88 := D.step s88 id
  refine (Pending_spec D88).mono fun e w92 ⟨he, hw⟩ => ⟨_, he, fun _ => ?_, fun hne => absurd hn hne⟩
  subst hw
  obtain ⟨gl, pl, ga, gc, pa, pc, DR⟩ := R.step s88 id
  refine ⟨_, rfl, r.down, DR.b.celli 4 rfl rfl, (Down_spec D88).mono fun e w99 ⟨he, hw⟩ => ⟨_, he, ?_⟩⟩
  subst hw
  exact ⟨DR.b.celli 4 rfl rfl, fun _ => (alive9_spec _).mono fun e w104 ⟨he, X⟩ => ⟨_, he, hΦ _ _ _ s88 X⟩, fun hne => absurd S.down.symm hne⟩
theorem DiskCopies_spec (W : World) {la ma : Option Addr} {lc mc : Nat} {l more : List DOp} (hl : RowAt W la (l.flatMap DOp.C)) (hlg : ∀ p ∈ l, p.good W) (hm : RowAt W ma (more.flatMap DOp.C)) (hmg : ∀ p ∈ more, p.good W) :
    Calls Try.prog 4 #[.slice la l.length lc, .slice ma more.length mc] W (Ret (.bool true) fun w' => Ext no W w') := by
  refine cachettelaw09_DiskCopies.run _ _ _ _ _ _ ?_
  unfold cachettelaw09_DiskCopies.N
  have ok0 : Tags W (fun _ => none) := fun b j _ h => by cases h
  have fin : ∀ {w1 w' : World} {o1 : Own}, Step no W (fun _ => none) w1 o1 → Ext no w1 w' → Ext no W w' := fun s X => (s.ext.mono fun b ⟨_, _, h⟩ _ => h).trans X
  refine (light9_spec hl).mono fun e w5 ⟨he, hw⟩ => ⟨_, he, fun _ => ?_, fun hL => ?_⟩
  · subst hw
    exact (alive9_spec _).mono fun e w9 ⟨he, X⟩ => ⟨_, he, rfl, X⟩
  subst hw
  refine (light9_spec hm).mono fun e w5 ⟨he, hw⟩ => ⟨_, he, fun _ => ?_, fun hL2 => ?_⟩
  · subst hw
    exact (alive9_spec _).mono fun e w9 ⟨he, X⟩ => ⟨_, he, rfl, X⟩
  subst hw
  obtain ⟨hl1, hl2⟩ := light9_of hL
  obtain ⟨hm1, hm2⟩ := light9_of hL2
  have hlr : Row w5 (fun _ => none) la (l.flatMap DOp.C) := ⟨hl, fun _ _ _ => rfl⟩
  have hmr : Row w5 (fun _ => none) ma (more.flatMap DOp.C) := ⟨hm, fun _ _ _ => rfl⟩
  have k0 := newDS_ok (n := 6) (by decide) (by decide)
  refine (dNew_spec (n := 6) ok0 (by decide) (by decide)).mono fun e w13 ⟨g, o13, he, hg, s13, D13⟩ => ⟨_, _, he, ?_⟩
  refine (rNew_spec s13.ok (n := 6) (by decide) (by decide)).mono fun e w17 ⟨h, o17, he, hh, s17', R17⟩ => ⟨_, _, he, fun h => absurd rfl h, fun _ => ?_⟩
  have s17 := s13.trans s17'
  have hg13 := D13.lt
  have hs13 := s13.size
  have hgh : g ≠ h := by omega
  have hhW : w5.heap.size ≤ h := by omega
  have r0 : (newRS 6).ok 0 := ⟨by show (6 : Int) ≤ 400; decide, Nat.le_refl _, by show (0 : Int) ≤ 0 ∧ (0 : Int) ≤ 0; decide, by show -1 ≤ (-1 : Int) ∧ (-1 : Int) < 9223372036854775808; decide⟩
  refine ⟨fun m vs w1 => ∃ (t : Nat) (d : DS) (r : RS) (o1 : Own), vs = [.int .i64 t] ∧ m + t = l.length ∧ Step no w5 (fun _ => none) w1 o1 ∧ DG w1 o1 g d ∧ RG w1 o1 h r ∧ SimD d r ∧ d.ok t ∧ r.ok t, l.length, ⟨0, _, _, o17, rfl, rfl, s17, D13.step s17' id, R17, new_simD 6, k0, r0⟩, ?_⟩
  rintro m w29 i0 ⟨t, d, r, o29, hi, hmt, s29, D29, R29, S, kd, kr⟩
  simp only [List.cons.injEq, Value.int.injEq, true_and, and_true] at hi
  subst hi
  refine ⟨fun ht => ?_, fun ht => ?_⟩
  · have htl : t < l.length := by omega
    have hgt : l[t]? = some l[t] := List.getElem?_eq_getElem htl
    have hxg := hlg _ (List.getElem_mem htl)
    generalize l[t] = x at *
    obtain ⟨ad, rfl⟩ := hl.faddr DOp.len (by decide) htl
    have kn := hxg.nw
    have hkr : Row w5 (fun _ => none) x.ka (boolsV x.keep) := ⟨hxg.row, fun _ _ _ => rfl⟩
    refine ⟨ad, rfl, by omega, by omega, x.kd, x.n, x.by_, x.short, x.ka, x.keep.length, x.kc, by rw [Int.toNat_natCast]; exact (hlr.step s29).1.floads DOp.len hgt, ?_⟩
    refine (step_spec D29 R29 hgh s29.ok kd kr (by omega) S.pt hxg.bw (hkr.step s29)).mono fun e w40 ⟨he, o40, s40', D40, R40⟩ => ⟨_, he, by omega, by omega, m - 1, by omega, t + 1, _, _, o40, rfl, by omega, s29.trans' s40' fun j hj => .inr (by omega), D40, R40, (step_sim S fun y hy => (kd.at_ y hy).1).2, stepD_ok kd (by omega), stepR_ok kr (by omega)⟩
  have hpl := kd.pl
  refine (dCopy_spec D29 s29.ok kd (by omega)).mono fun e w44 ⟨gc, o44, he, hgc, s44', C44⟩ => ⟨_, he, ?_⟩
  have s44 := s29.trans s44'
  have D44 := D29.step s44' id
  have R44 := R29.step s44' id
  have hg29 := D29.lt
  have hh29 : h < w29.heap.size := by
    obtain ⟨_, _, _, _, _, _, DR⟩ := R29
    exact DR.b.lt
  have hs29 := s29.size
  have hs44 := s44'.size
  have hgc44 := C44.lt
  refine (Pending_spec D44).mono fun e w47 ⟨he, hw⟩ => ⟨_, he, ?_⟩
  subst hw
  refine ⟨fun m vs w1 => ∃ (u : Nat) (c : DS) (o1 : Own), vs = [.int .i64 u] ∧ m + u = more.length ∧ Step no w5 (fun _ => none) w1 o1 ∧ w47.heap.size ≤ w1.heap.size ∧ DG w1 o1 g d ∧ RG w1 o1 h r ∧ DG w1 o1 gc c ∧ c.ok (t + u), more.length, ⟨0, d, o44, rfl, rfl, s44, Nat.le_refl _, D44, R44, C44, kd⟩, ?_⟩
  rintro m2 w51 i0 ⟨u, c, o51, hi, hmu, s51, hsz, D51, R51, C51, kc⟩
  simp only [List.cons.injEq, Value.int.injEq, true_and, and_true] at hi
  subst hi
  refine ⟨fun hu w53 q54 X53 hb53 hq hq' => ?_, fun hu => ?_⟩
  · have hul : u < more.length := by omega
    have hgu : more[u]? = some more[u] := List.getElem?_eq_getElem hul
    have hxg := hmg _ (List.getElem_mem hul)
    generalize more[u] = x at *
    obtain ⟨ad, rfl⟩ := hm.faddr DOp.len (by decide) hul
    have kn := hxg.nw
    have hkr : Row w5 (fun _ => none) x.ka (boolsV x.keep) := ⟨hxg.row, fun _ _ _ => rfl⟩
    have s53' := (Step.of_no X53 s51.ok).tag (j := q54) hq hq'
    have s53 := s51.trans s53'
    have Rz : RG w53 (tag (grow w51 o51) q54 q54) q54 ⟨0, [], [], 0, false, false, 0⟩ := ⟨[], [], none, 0, none, 0, hb53, rfl, rfl, Grows.nil _ _ _ _ _, Grows.nil _ _ _ _ _, fun x y h => (by cases h), fun x hx => (by cases hx), tag_self⟩
    have kz : RS.ok ⟨0, [], [], 0, false, false, 0⟩ (t + u) := ⟨by show (0 : Int) ≤ 400; decide, Nat.zero_le _, by show (0 : Int) ≤ 0 ∧ (0 : Int) ≤ _; omega, by show -1 ≤ (0 : Int) ∧ (0 : Int) < 9223372036854775808; decide⟩
    have hgcq := C51.lt
    have hg51 := D51.lt
    have hh51 : h < w51.heap.size := by
      obtain ⟨_, _, _, _, _, _, DR⟩ := R51
      exact DR.b.lt
    have hs51 := s51.size
    refine ⟨ad, rfl, by omega, by omega, x.kd, x.n, x.by_, x.short, x.ka, x.keep.length, x.kc, by rw [Int.toNat_natCast]; exact (hmr.step s53).1.floads DOp.len hgu, ?_⟩
    refine (step_spec (C51.step s53' id) Rz (by omega) s53.ok kc kz (by omega) rfl hxg.bw (hkr.step s53)).mono fun e w64 ⟨he, o64, s64, C64, _⟩ => ⟨_, he, by omega, by omega, m2 - 1, by omega, u + 1, _, o64, rfl, by omega, s53.trans' s64 fun j hj => .inr (by omega), ?_, (D51.step s53' id).step s64 (by omega), (R51.step s53' id).step s64 (by omega), C64, stepD_ok kc (by omega)⟩
    exact Nat.le_trans hsz (Nat.le_trans s53'.size s64.size)
  · have hs51 := s51.size
    refine (dRead_spec D51 s51.ok 0 (by omega)).mono fun e w69 ⟨ra, rn, rc, o69, he, R1⟩ => ⟨_, _, _, _, he, ?_⟩
    have s69' := R1.st
    have s69 := s51.trans s69'
    have D69 := D51.step s69' id
    have R69 := R51.step s69' id
    have hend : ∀ {w75 : World} {o75 : Own}, Step no w5 (fun _ => none) w75 o75 → DG w75 o75 g d → RG w75 o75 h r → _ := fun {w75} {o75} s D R => copies_end (Φ := fun b w' => Value.bool b = .bool true ∧ Ext no w5 w') D R S s.ok (by omega) kr (by omega) rfl fun w' o' w2 s2 X => ⟨rfl, fin (s.trans s2) X⟩
    refine ⟨fun h0 => ⟨fun hlen => ?_, fun hlen => hend s69 D69 R69⟩, fun h0 => hend s69 D69 R69⟩
    obtain ⟨h1, h2, h3, h4, h5⟩ := R1
    obtain ⟨q, tt, rfl, hbq, hlq, hqw, hoq⟩ := h5 h0
    have hcl : (bytesV (readD d 0).1 ++ [Value.bool tt]).length = 65 := by rw [List.length_append, bytesV_length, hlq]; rfl
    obtain ⟨b0, hb0⟩ : ∃ b0 : UInt8, (readD d 0).1[0]? = some b0 := ⟨_, List.getElem?_eq_getElem (by omega)⟩
    have hc0 : (bytesV (readD d 0).1 ++ [Value.bool tt])[0]? = some (.int .u8 (b0.toNat : Int)) := by
      rw [List.getElem?_append_left (by rw [bytesV_length]; omega)]
      unfold bytesV
      rw [List.getElem?_map, hb0]; rfl
    refine ⟨_, rfl, by omega, (b0.toNat : Int), hbq.celli 0 rfl hc0, by omega, hbq.cani 0 rfl hc0, thenW_in fun w75 e75 => ?_⟩
    have X75 := (Ext.refl (fun b => b = q) w69).x_set (q := q) (i := 0) rfl (.inl rfl) e75
    have s75 : Step (fun j => j = q) w69 o69 w75 (grow w69 o69) := Step.of_ext X75 s69.ok fun b hb _ => by subst hb; exact hoq
    have hg51 := D51.lt
    have hh51 : h < w51.heap.size := by
      obtain ⟨_, _, _, _, _, _, DR⟩ := R51
      exact DR.b.lt
    exact hend (s69.trans' s75 fun j hj => .inr (by omega)) (D69.step s75 (by omega)) (R69.step s75 (by omega))
theorem DiskCopies_walk (W : World) (a0 : Option Addr) (len0 cap0 : Nat) (a1 : Option Addr) (len1 cap1 : Nat) (o0 : DOpsQ W [.slice a0 len0 cap0]) (o1 : DOpsQ W [.slice a1 len1 cap1]) :
    Calls Try.prog 4 #[.slice a0 len0 cap0, .slice a1 len1 cap1] W (Ret (.bool true) fun w' => Ext no W w') := by
  obtain ⟨_, c0, l, e0, p1, p2, r0, f0⟩ := o0
  obtain ⟨_, c1, m, e1, q1, q2, r1, f1⟩ := o1
  cases e0; cases e1
  exact DiskCopies_spec W r0 f0 r1 f1
end
end Go.Proofs.Ytgelicciggjpaaa
