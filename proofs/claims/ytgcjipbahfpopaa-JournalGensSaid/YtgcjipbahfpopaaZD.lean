/- JournalCrash: acts; a list of records that grows. -/
import Derived.Test.YtgcjipbahfpopaaZC
set_option linter.unusedVariables false
set_option linter.unusedSimpArgs false
set_option maxRecDepth 20000
set_option maxHeartbeats 4000000
namespace Go.Proofs.Ytgcjipbahfpopaa
open Go Go.Mx Go.Proofs
open W (OwnB GivesW)
/-- a list of records of one owner. -/
structure WL (w : World) (o : Own) (k : Nat) (a : Option Addr) (c : Nat) (l : List BS) : Prop where
  row : Grows 23 1 w o k a l.length c (l.map BS.v)
  oks : ∀ x ∈ l, BSok w o x
theorem topX {K : Nat → Prop} {W w : World} {o : Own} (s : Step K W (fun _ => none) w o) : Ext no W w := s.ext.mono fun b ⟨_, h, _⟩ _ => by cases h
section
variable {w w' w1 : World} {o o' o1 : Own} {q g n N k : Nat} {K : Nat → Prop} {b s : List UInt8} {a : Option Addr} {c : Nat} {l : List BS}
theorem WL.nil (w : World) (o : Own) (k : Nat) : WL w o k none 0 [] := ⟨Grows.nil _ _ _ _ _, fun x h => (by cases h)⟩
theorem WL.step (h : WL w o k a c l) (s : Step K w o w' o') (hk : ¬ K k) : WL w' o' k a c l := ⟨h.row.step s hk, fun x hx => (h.oks x hx).step s⟩
theorem WL.push (h : WL w o k a c l) (ok : Tags w o) (hk : k < w.heap.size) (hl : l.length < 1000000) {x : BS} (hx : BSok w o x) {ww : World} {qq : Nat} (X : Ext no w ww) (hb : Blk ww qq 23 [x.v]) :
    ∃ a' c' w' o', (Builtin.append_ #[25, 25] 25 #[.slice a l.length c, .slice (some (blk qq)) 1 1]).run Try.prog ww = .ok (.slice a' (l ++ [x]).length c') w' ∧ Step (fun j => j = k) w o w' o' ∧ WL w' o' k a' c' (l ++ [x]) := by
  have s1 := Step.of_no X ok
  have hr := h.row.step s1 id
  obtain ⟨i, hi, hz, hsz, hby⟩ := info_of inf23
  obtain ⟨a', c', w', o', hrun, s2, hrow, _, _⟩ := hr.push (ty := 25) Try.underlying25 hi hz hsz hby rfl (by decide) s1.ok (Nat.lt_of_lt_of_le hk X.size) (xa := some (blk qq)) (m := 1) (xc := 1) (news := [x.v]) rfl (RowAt.of_blk hb) (fun u hu => by simp at hu; subst hu; rfl) (by omega) (by omega)
  refine ⟨a', c', w', o', by rw [List.length_append]; exact hrun, s1.none.trans s2, ⟨?_, fun y hy => ?_⟩⟩
  · rw [List.length_append, List.map_append]; exact hrow
  · rcases List.mem_append.1 hy with hy | hy
    · exact ((h.oks y hy).step s1).step s2
    · simp at hy; subst hy; exact (hx.step s1).step s2
end
end Go.Proofs.Ytgcjipbahfpopaa

/- JournalCrash. -/
set_option linter.unusedVariables false
set_option linter.unusedSimpArgs false
set_option maxRecDepth 20000
set_option maxHeartbeats 8000000
namespace Go.Proofs.Ytgcjipbahfpopaa
open Go Go.Mx Go.Proofs
open W (OwnB GivesW)
theorem dg_owner {w : World} {o : Own} {g : Nat} {d : DS} (h : DG w o g d) (hl : d.good ≠ []) : ∃ k, k ≠ g ∧ k < w.heap.size := by
  obtain ⟨⟨ga, gc, pa, pc, hb, hg, hp⟩, tg⟩ := h
  have hr := hg.row
  cases hd : d.good with
  | nil => exact absurd hd hl
  | cons x r =>
    rw [hd] at hr
    have hx : ∃ v, ((x :: r).flatMap Sec.C)[0]? = some v := by
      have : 0 < ((x :: r).flatMap Sec.C).length := by rw [List.flatMap_cons, List.length_append, x.len]; omega
      exact ⟨_, List.getElem?_eq_getElem this⟩
    obtain ⟨v, hv⟩ := hx
    obtain ⟨ad, ha, _⟩ := hr 0 v hv
    exact ⟨ad.block, hg.ne hb (by decide) ad ha, (hg.tg ad ha).2⟩
end Go.Proofs.Ytgcjipbahfpopaa

/- JournalGens, plainly: a journal that is made anew. -/
set_option linter.unusedVariables false
set_option linter.unusedSimpArgs false
set_option maxRecDepth 20000
set_option maxHeartbeats 2000000
namespace Go.Proofs.Ytgcjipbahfpopaa
open Go Go.Mx Go.Proofs
def framesOf (gen R : Nat) : Nat → List (List UInt8) → List (List UInt8)
  | _, [] => []
  | s, b :: r => frameL gen R s b ++ framesOf gen R (s + 1) r
theorem framesOf_snoc (gen R : Nat) (b : List UInt8) : ∀ (l : List (List UInt8)) (s : Nat), framesOf gen R s (l ++ [b]) = framesOf gen R s l ++ frameL gen R (s + l.length) b
  | [], s => by simp [framesOf]
  | x :: r, s => by
    show frameL gen R s x ++ framesOf gen R (s + 1) (r ++ [b]) = _
    rw [framesOf_snoc gen R b r (s + 1)]
    show _ = frameL gen R s x ++ framesOf gen R (s + 1) r ++ frameL gen R (s + (r.length + 1)) b
    rw [List.append_assoc, show s + 1 + r.length = s + (r.length + 1) by omega]
theorem scan_frames {gen R : Nat} (hg : gen ≠ 0) (hR : R ≠ 0) (hR2 : R < 4294967296) (X : List (List UInt8)) : ∀ (l : List (List UInt8)) (s k : Nat), (∀ b ∈ l, b.length ≤ 4000) → l.length ≤ k → ∃ r, (scanG gen k (framesOf gen R s l ++ X) s).1 = l ++ r
  | [], s, k, _, _ => ⟨_, rfl⟩
  | b :: r, s, 0, _, h => by simp at h
  | b :: r, s, k + 1, hb, h => by
    have hb0 := hb b (by simp)
    have hp := partsN_pos hb0
    have hst := frame_stands (seq := s) hg hR hR2 hb0 (framesOf gen R (s + 1) r ++ X)
    have e : framesOf gen R s (b :: r) ++ X = frameL gen R s b ++ (framesOf gen R (s + 1) r ++ X) := by
      show (frameL gen R s b ++ framesOf gen R (s + 1) r) ++ X = _
      rw [List.append_assoc]
    obtain ⟨z, hz⟩ := scan_frames hg hR hR2 X r (s + 1) k (fun x hx => hb x (by simp [hx])) (by rw [List.length_cons] at h; omega)
    refine ⟨z, ?_⟩
    have hd : (frameL gen R s b ++ (framesOf gen R (s + 1) r ++ X)).drop (partsN b.length) = framesOf gen R (s + 1) r ++ X := by
      have hl := frameL_len gen R s b
      rw [List.drop_append_of_le_length (by omega), List.drop_of_length_le (by omega), List.nil_append]
    rw [e]
    simp only [scanG, hst, if_neg (show ¬ partsN b.length = 0 by omega), hd, hz]
    rfl
/-- what a journal that was made anew has on its sectors. -/
structure JP (L : List (List UInt8)) (gen R : Nat) (want : List (List UInt8)) (T : Nat) (Q : Prop) : Prop where
  fr : L.take T = framesOf gen R 0 want
  le : T ≤ L.length
  wl : want.length ≤ T
  sh : ∀ b ∈ want, b.length ≤ 4000
  all : ∀ s ∈ L, mg gen s → numB s 5 ≤ R
  ji : Q → JI L gen R want T
section
variable {L L' : List (List UInt8)} {gen R T : Nat} {want : List (List UInt8)} {b : List UInt8} {Q : Prop}
theorem JP.app (h : JP L gen R want T Q) (hg : gen ≠ 0) (hg2 : gen < 4294967296) (hR : R ≠ 0) (hR2 : R < 4294967296) (hb : b.length ≤ 4000) (hw : want.length + 1 < 4294967296) (hfit : T + partsN b.length ≤ L.length)
    (hL : L' = L.take T ++ (frameL gen R want.length b ++ L.drop (T + partsN b.length))) : JP L' gen R (want ++ [b]) (T + partsN b.length) Q := by
  have hFl := frameL_len gen R want.length b
  have hp := partsN_pos hb
  have hwl := h.wl
  have hTl : (L.take T).length = T := by rw [List.length_take]; omega
  refine ⟨?_, ?_, ?_, ?_, ?_, fun q => (h.ji q).app hg hg2 hR hR2 hb hw hfit hL⟩
  · rw [framesOf_snoc, ← h.fr, hL, Nat.zero_add, ← List.append_assoc, List.take_append_of_le_length (by rw [List.length_append]; omega), List.take_of_length_le (by rw [List.length_append]; omega)]
  · rw [hL, List.length_append, List.length_append, List.length_drop]; omega
  · rw [List.length_append]; show want.length + 1 ≤ _; omega
  · intro x hx
    rcases List.mem_append.1 hx with hx | hx
    · exact h.sh x hx
    · rw [List.mem_singleton.1 hx]; exact hb
  · rw [hL]
    intro s hs hm
    rcases List.mem_append.1 hs with hs | hs
    · exact h.all s (List.mem_of_mem_take hs) hm
    · rcases List.mem_append.1 hs with hs | hs
      · unfold frameL at hs
        obtain ⟨i, _, rfl⟩ := List.mem_map.1 hs
        rw [sec_round _ _ _ _ _ _ hR2]; exact Nat.le_refl _
      · exact h.all s (List.mem_of_mem_drop hs) hm
theorem JP.crash (h : JP L gen R want T Q) (hg : gen ≠ 0) (hg2 : gen < 4294967296) (hR : R ≠ 0) (hR2 : R < 4294967296) (hb : b.length ≤ 4000) (hw : want.length + 1 < 4294967296) (hfit : T + partsN b.length ≤ L.length)
    (hM : Mix L L' T (frameL gen R want.length b)) : roundOf gen L' ≤ R ∧ ∃ r, (scanK L' gen).1.1 = want ++ r ∧ (Q → r = [] ∨ r = [b]) := by
  have hle : roundOf gen L' ≤ R := roundOf_le L' 0 (Nat.zero_le _) fun s hs hm => by
    obtain ⟨i, hi⟩ := List.mem_iff_getElem?.1 hs
    rcases hM.2 i with e | ⟨t, ht, htl, e | e⟩
    · rw [hi] at e
      exact h.all s (List.mem_of_getElem? e.symm) hm
    · rw [hi, frame_get htl] at e
      rw [Option.some.inj e, sec_round _ _ _ _ _ _ hR2]; exact Nat.le_refl _
    · rw [hi] at e
      rw [Option.some.inj e] at hm
      exact absurd hm (nil_mg gen)
  have hT : L'.take T = framesOf gen R 0 want := by
    rw [← h.fr]
    apply List.ext_getElem?
    intro i
    by_cases hi : i < T
    · rw [List.getElem?_take_of_lt hi, List.getElem?_take_of_lt hi]
      rcases hM.2 i with e | ⟨t, ht, _⟩
      · exact e
      · omega
    · rw [List.getElem?_eq_none (by rw [List.length_take]; omega), List.getElem?_eq_none (by rw [List.length_take]; omega)]
  have hl := hM.1
  have h1 := h.le
  have h2 := h.wl
  obtain ⟨r, hr⟩ := scan_frames (s := 0) (k := L'.length + 1) hg hR hR2 (L'.drop T) want h.sh (by omega)
  rw [← hT, List.take_append_drop] at hr
  refine ⟨hle, r, hr, fun q => ?_⟩
  obtain ⟨w2, T2, hw2, hji, _⟩ := (h.ji q).crash hg hg2 hR hR2 hb hw hfit hM
  have e : want ++ r = w2 := by
    have := hji.scan
    rw [← hr]
    exact congrArg Prod.fst this
  rcases hw2 with rfl | rfl
  · exact .inl (List.append_cancel_left (e.trans (List.append_nil _).symm))
  · exact .inr (List.append_cancel_left e)
end
/-- a journal made anew, behind t appends of its own. -/
structure GS (d : DS) (J : JS) (want : List (List UInt8)) (gen T t : Nat) (Q : Prop) : Prop where
  down : d.down = false
  pend : d.pend = []
  ok : d.ok (100 * t)
  good : d.good.length = 60
  base : J.base = 0
  jsize : J.size = 60
  jgen : J.gen = gen
  round : 1 ≤ J.round ∧ J.round ≤ 100
  tail : J.tail = T
  seq : J.seq = want.length
  dead : J.dead = false
  jp : JP (readsD d 0 60) gen J.round want T Q
  len : want.length ≤ t
section
variable {d : DS} {J : JS} {want : List (List UInt8)} {gen T t : Nat} {b : List UInt8} {Q : Prop}
theorem GS.tl (h : GS d J want gen T t Q) : T ≤ 60 := by
  have := h.jp.le
  rw [readsD_len] at this
  exact this
theorem GS.jok (h : GS d J want gen T t Q) (hg : gen < 4294967296) : J.ok := by
  have h1 := h.tl
  have h2 := h.round
  have h3 := h.base
  have h4 := h.jsize
  have h5 := h.jgen
  have h6 := h.tail
  have h7 := h.seq
  have h8 := h.jp.wl
  exact ⟨by omega, by omega, by omega, by omega, by omega, by omega⟩
theorem GS.arm (h : GS d J want gen T t Q) {n : Int} (hn : 0 ≤ n) (hn2 : n < 9223372036854775808) : GS (armD d n).1 J want gen T t Q := by
  have e : armD d n = ({ d with left := n, armed := true }, 0) := by
    unfold armD
    rw [h.down, if_neg (by decide), if_neg (by omega)]
  have ok := armD_ok (d := d) h.ok hn2
  rw [e] at ok ⊢
  exact ⟨h.down, h.pend, ok, h.good, h.base, h.jsize, h.jgen, h.round, h.tail, h.seq, h.dead, h.jp, h.len⟩
theorem open_any {d : DS} {size : Nat} (hd : d.down = false) (hg : d.good.length = 60) (h1 : 1 ≤ size) (h2 : size ≤ 60) (h0 : gen ≠ 0) (hR : roundOf gen (readsD d 0 size) < 4294967295) :
    ∃ J, openK d 0 size gen = (some J, (scanK (readsD d 0 size) gen).1.1, 0) ∧ J = ⟨0, size, gen, roundOf gen (readsD d 0 size) + 1, (scanK (readsD d 0 size) gen).1.2, (scanK (readsD d 0 size) gen).1.1.length, false⟩ := by
  have hst : stretchK d 0 size gen = (readsD d 0 size, 0) := by
    unfold stretchK
    rw [if_neg (by omega), hd]; rfl
  refine ⟨_, ?_, rfl⟩
  unfold openK
  rw [hst]
  rw [if_neg (show ¬ ((readsD d 0 size, (0 : Int)).2 ≠ 0) from not_not_intro rfl)]
  rw [if_neg (show ¬ (scanK (readsD d 0 size, (0 : Int)).1 gen).2 = 4294967295 from (by show ¬ roundOf gen (readsD d 0 size) = 4294967295; omega))]
  rfl
theorem GS.act (h : GS d J want gen T t Q) (h0 : gen ≠ 0) (hg : gen < 4294967296) (ht : t ≤ 100) (hb : b.length ≤ 500) :
    ((appendJ d J b).2 = 0 ∧ GS (appendJ d J b).1.1 (appendJ d J b).1.2 (want ++ [b]) gen (T + partsN b.length) (t + 1) Q) ∨
    ((appendJ d J b).2 = 18 ∧ (appendJ d J b).1 = (d, J)) ∨
    ((appendJ d J b).2 = 19 ∧ (appendJ d J b).1.1.down = true ∧ (appendJ d J b).1.1.ok (100 * (t + 1)) ∧ ∀ keep, (restartD (appendJ d J b).1.1 keep).ok (100 * (t + 1)) ∧ ∃ J2 r, openK (restartD (appendJ d J b).1.1 keep) 0 60 gen = (some J2, want ++ r, 0) ∧ (Q → r = [] ∨ r = [b])) := by
  have hj := h.jok hg
  have hp := partsN_pos (n := b.length) (by omega)
  have htl := h.tl
  have hrd := h.round
  have hbs := h.base
  have hsz := h.jsize
  have hgn := h.jgen
  have hta := h.tail
  have hsq := h.seq
  have hgo := h.good
  have hln := h.len
  have kA := (appendJ_ok h.ok J b).up (n := 100 * (t + 1)) (by omega)
  by_cases hf : (partsN b.length : Int) ≤ (60 : Int) - T
  · have hjb : J.base.toNat = 0 := by omega
    have hjq : J.seq.toNat = want.length := by omega
    obtain ⟨gl, hc⟩ := append_any h.down h.pend h.ok hj (by omega) (by omega) h.dead (b := b) (by omega) (by omega) (by omega) (size := 60) (T := T) (by omega) (by omega)
    rw [hjb, hjq] at hc
    rcases hc with ⟨c1, c2, c3, c4, c5⟩ | ⟨c1, c2, c3, c4⟩
    · refine .inl ⟨c1, c2, c3, kA, gl.trans hgo, ?_, ?_, ?_, ?_, ?_, ?_, ?_, ?_, ?_⟩
      · rw [c4]; exact hbs
      · rw [c4]; exact hsz
      · rw [c4]; exact hgn
      · rw [c4]; exact hrd
      · rw [c4]; show J.tail + (partsN b.length : Int) = ((T + partsN b.length : Nat) : Int); omega
      · rw [c4]; show J.seq + 1 = (((want ++ [b]).length : Nat) : Int); rw [List.length_append]; show J.seq + 1 = ((want.length + 1 : Nat) : Int); omega
      · rw [c4]; exact h.dead
      · rw [c4]
        rw [hgn] at c5
        exact h.jp.app h0 hg (by omega) (by omega) (by omega) (by omega) (by rw [readsD_len]; omega) c5
      · rw [List.length_append]; show want.length + 1 ≤ _; omega
    · refine .inr (.inr ⟨c1, c2, kA, fun keep => ⟨restartD_ok kA keep, ?_⟩⟩)
      rw [hgn] at c4
      obtain ⟨hle, r, hr, hq⟩ := h.jp.crash h0 hg (by omega) (by omega) (by omega) (by omega) (by rw [readsD_len]; omega) (c4 keep)
      have hgl : (restartD (appendJ d J b).1.1 keep).good.length = 60 := by
        show (settleL _ 0 _ _).length = 60
        rw [settleL_len]; exact gl.trans hgo
      obtain ⟨J2, hO, _⟩ := open_any (d := restartD (appendJ d J b).1.1 keep) (size := 60) rfl hgl (by decide) (by decide) h0 (by omega)
      exact ⟨J2, r, by rw [← hr]; exact hO, hq⟩
  · have e : appendJ d J b = ((d, J), 18) := by
      unfold appendJ
      rw [if_neg (by omega), h.dead, if_neg (by decide), if_pos (by omega)]
    rw [e]
    exact .inr (.inl ⟨rfl, rfl⟩)
/-- the first journal, of gen 7, on a disk that is not armed. -/
structure FS (d : DS) (J : JS) (T t : Nat) : Prop where
  cs : ∃ want, CS d J want 7 60 T t
  up : Up d
  no8 : ∀ s ∈ readsD d 0 60, ¬ mg 8 s
theorem FS.ok (h : FS d J T t) : d.ok (100 * t) ∧ (t ≤ 100 → J.ok) ∧ d.down = false ∧ d.good.length = 60 := by
  obtain ⟨w, c⟩ := h.cs
  exact ⟨c.ok, fun ht => c.jok (by decide) (by decide) ht, c.down, c.good⟩
theorem FS.act (h : FS d J T t) (ht : t ≤ 90) (hb : b.length ≤ 500) : ∃ T2, FS (appendJ d J b).1.1 (appendJ d J b).1.2 T2 (t + 1) := by
  obtain ⟨w, c⟩ := h.cs
  have hj := c.jok (by decide) (by decide) (by omega)
  have hta := c.tail
  have hsz := c.jsize
  have hbs := c.base
  have hrd := c.round
  have hgn := c.jgen
  have hgo := c.good
  rcases c.act (b := b) (by decide) (by decide) (by decide) (by decide) (by omega) hb with ⟨k, c2⟩ | ⟨k, e, _⟩ | ⟨k, _⟩
  · have hfit : J.tail + partsN b.length ≤ J.size := by
      have := c2.tl
      have h60 : T + partsN b.length ≤ 60 := this.1
      omega
    obtain ⟨a1, a2, a3, a4⟩ := append_up h.up c.ok hj (by omega) (by omega) c.dead (b := b) (by omega) hfit (by omega)
    obtain ⟨T', hT', hr⟩ := a4 60 (by omega)
    refine ⟨_, ⟨⟨_, c2⟩, a2, fun s hs => ?_⟩⟩
    rw [show J.base.toNat = 0 by omega] at hr
    rw [hr] at hs
    rcases List.mem_append.1 hs with hs | hs
    · exact h.no8 s (List.mem_of_mem_take hs)
    · rcases List.mem_append.1 hs with hs | hs
      · intro hm
        unfold frameL at hs
        obtain ⟨i, _, rfl⟩ := List.mem_map.1 hs
        have := hm.2.2
        rw [sec_gen _ _ _ _ _ _ hj.gen] at this
        omega
      · exact h.no8 s (List.mem_of_mem_drop hs)
  · rw [e]; exact ⟨T, ⟨w, c.up⟩, h.up, h.no8⟩
  · exfalso
    have hA := appendJ_ans (b := b) h.up c.ok hj (by omega) (by omega) c.dead (by omega)
    rw [k] at hA
    split at hA
    · omega
    · split at hA <;> omega
theorem FS.anew8 (h : FS d J T t) (ht : t ≤ 90) : ∃ J8, openK d 0 60 8 = (some J8, [], 0) ∧ GS d J8.anew [] 8 0 t True := by
  obtain ⟨w, c⟩ := h.cs
  have hji : JI (readsD d 0 60) 8 0 [] 0 := JI.blank (by decide) h.no8
  have hle := hji.le
  refine ⟨_, open_up (size := 60) c.down c.good (by decide) (by decide) (by decide) hji (by decide), ⟨c.down, c.pend, c.ok, c.good, rfl, rfl, rfl, ⟨by show 1 ≤ roundOf _ _ + 1; omega, by show roundOf _ _ + 1 ≤ 100; omega⟩, rfl, rfl, rfl, ?_, Nat.zero_le _⟩⟩
  exact ⟨rfl, Nat.zero_le _, Nat.le_refl _, fun b hb => (by cases hb), fun s hs hm => absurd hm (h.no8 s hs), fun _ => hji.re⟩
theorem FS.anew7 (h : FS d J T t) (ht : t ≤ 90) : ∃ J7 w, openK d 0 60 7 = (some J7, w, 0) ∧ GS d J7.anew [] 7 0 t False := by
  obtain ⟨w, c⟩ := h.cs
  have hle := c.ji.le
  have hrd := c.round
  refine ⟨_, w, open_up (size := 60) c.down c.good (by decide) (by decide) (by decide) c.ji (by omega), ⟨c.down, c.pend, c.ok, c.good, rfl, rfl, rfl, ⟨by show 1 ≤ roundOf _ _ + 1; omega, by show roundOf _ _ + 1 ≤ 100; omega⟩, rfl, rfl, rfl, ?_, Nat.zero_le _⟩⟩
  exact ⟨rfl, Nat.zero_le _, Nat.le_refl _, fun b hb => (by cases hb), fun s hs hm => Nat.le_succ_of_le ((roundOf_ge _ 0).2 s hs hm), fun q => q.elim⟩
end
theorem FS.new : ∃ J, openK (newDS 60) 0 60 7 = (some J, [], 0) ∧ FS (newDS 60) J 0 0 := by
  obtain ⟨J, hO, c⟩ := CS.new (size := 60) (gen := 7) (by decide) (by decide) (by decide) (by decide)
  exact ⟨J, hO, ⟨_, c⟩, ⟨rfl, rfl⟩, new_blank⟩
end Go.Proofs.Ytgcjipbahfpopaa

/- JournalGens. -/
set_option linter.unusedVariables false
set_option linter.unusedSimpArgs false
set_option maxRecDepth 20000
set_option maxHeartbeats 8000000
namespace Go.Proofs.Ytgcjipbahfpopaa
open Go Go.Mx Go.Proofs
open W (OwnB GivesW sameB_spec)
def BssQ (W : World) (cs : List Value) : Prop := ∃ (a : Option Addr) (c : Nat) (l : List BS), cs = [.slice a l.length c] ∧ BsAt W a c l
theorem flat_bs (l : List BS) : (l.flatMap fun x => [x.v]) = l.map BS.v := by
  induction l with
  | nil => rfl
  | cons x r ih => rw [List.flatMap_cons, ih]; rfl
theorem opens_bss : Opens Try.prog 25 BssQ := (opens_rows (size := 1) (f := fun x : BS => [x.v]) (G := fun W x => RowAt W x.a (bytesV x.bs) ∧ x.bs.length ≤ x.c) Try.underlying25 (by kernel_rfl) ((opens_bytes Try.underlying23 (by kernel_rfl) Try.underlying5).mono fun W cs ⟨a, c, b, h1, h2, _, h4⟩ => ⟨⟨a, c, b⟩, h1, h4, h2⟩)).mono
  fun W cs ⟨a, c, l, h1, h2, h3, h4, h5⟩ => ⟨a, c, l, h1, by rw [← flat_bs]; exact h4, h5, h2⟩
theorem JournalGens_spec (W : World) {aa ba ka : Option Addr} {ac bc kc : Nat} {la lb : List BS} {n : Int} {keep : List Bool} {same : Bool} (ha : BsAt W aa ac la) (hb : BsAt W ba bc lb) (hk : RowAt W ka (boolsV keep)) (hn : n < 9223372036854775808) :
    Calls Try.prog 6 #[.slice aa la.length ac, .slice ba lb.length bc, .int .i64 n, .slice ka keep.length kc, .bool same] W (Ret (.bool true) fun w' => Ext no W w') := by
  refine cachettelaw10_JournalGens.run _ _ _ _ _ _ _ _ _ _ _ ?_
  unfold cachettelaw10_JournalGens.N
  have hal : ∀ w1, Ext no W w1 → Calls Try.prog 8 #[] w1 fun ee w2 => ∃ b : Bool, ee = .returned (.bool b) ∧ Value.bool b = Value.bool true ∧ Ext no W w2 := fun w1 X =>
    (alive10_spec w1).mono fun v w2 ⟨hx, X2⟩ => ⟨_, hx, rfl, X.trans X2⟩
  refine ⟨fun _ => hal _ (Ext.refl _ _), fun ha12 => ⟨fun _ => hal _ (Ext.refl _ _), fun hb12 => ⟨fun _ => hal _ (Ext.refl _ _), fun hk60 => ?_⟩⟩⟩
  refine ⟨fun m vs w1 => ∃ t : Nat, vs = [.int .i64 t] ∧ m + t = la.length + lb.length ∧ w1 = W ∧ (∀ (j : Nat) (x : BS), j < t → la[j]? = some x → x.bs.length ≤ 200) ∧ (∀ (j : Nat) (x : BS), la.length + j < t → lb[j]? = some x → x.bs.length ≤ 200), la.length + lb.length, ⟨0, rfl, rfl, rfl, fun j x h => absurd h (by omega), fun j x h => absurd h (by omega)⟩, ?_⟩
  rintro m w21 i ⟨t, hi, hm, rfl, hs1, hs2⟩
  simp only [List.cons.injEq, Value.int.injEq, true_and, and_true] at hi
  subst hi
  refine ⟨by omega, by omega, fun ht => ⟨fun h1 => ?_, fun h1 => ⟨fun _ => ?_, fun h => absurd h (by omega)⟩⟩, fun ht => ?_⟩
  · have htl : t < la.length := by omega
    have gt : la[t]? = some la[t] := List.getElem?_eq_getElem htl
    obtain ⟨ad, hab, cx⟩ := ha.cell gt
    refine ⟨ad, hab, by omega, by omega, _, _, _, by rw [Int.toNat_natCast]; exact cx, fun _ => hal _ (Ext.refl _ _), fun h2 => ⟨fun h => absurd h (by omega), fun _ => ⟨by omega, by omega, m - 1, by omega, t + 1, rfl, by omega, rfl, fun j x hj hx => ?_, fun j x hj hx => absurd hj (by omega)⟩⟩⟩
    by_cases e : j = t
    · subst e; rw [gt] at hx; cases hx; omega
    · exact hs1 j x (by omega) hx
  · have htl : t - la.length < lb.length := by omega
    have gt : lb[t - la.length]? = some lb[t - la.length] := List.getElem?_eq_getElem htl
    obtain ⟨ad, hab, cx⟩ := hb.cell gt
    refine ⟨by omega, by omega, ad, hab, by omega, by omega, _, _, _, by rw [show Int.toNat ((t : Int) - (la.length : Int)) = t - la.length by omega]; exact cx, fun _ => hal _ (Ext.refl _ _), fun h2 => ⟨by omega, by omega, m - 1, by omega, t + 1, rfl, by omega, rfl, fun j x hj hx => ?_, fun j x hj hx => ?_⟩⟩
    · have := (List.getElem?_eq_some_iff.1 hx).1
      exact hs1 j x (by omega) hx
    · by_cases e : j = t - la.length
      · subst e; rw [gt] at hx; cases hx; omega
      · exact hs2 j x (by omega) hx
  have ha200 : ∀ (j : Nat) (x : BS), la[j]? = some x → x.bs.length ≤ 200 := fun j x hx => hs1 j x (by have := (List.getElem?_eq_some_iff.1 hx).1; omega) hx
  have hb200 : ∀ (j : Nat) (x : BS), lb[j]? = some x → x.bs.length ≤ 200 := fun j x hx => hs2 j x (by have := (List.getElem?_eq_some_iff.1 hx).1; omega) hx
  clear hs1 hs2 hm ht
  have ok0 : Tags w21 (fun _ => none) := fun b j _ h => by cases h
  refine (dNew_spec (n := 60) ok0 (by decide) (by decide)).mono fun u w54 ⟨g, o54, he, hg54, s54, D54⟩ => ⟨_, _, he, ?_⟩
  have hg := D54.lt
  obtain ⟨k, hkg, hkl⟩ := dg_owner D54 (by simp [newDS])
  obtain ⟨J0, hO, F0⟩ := FS.new
  have O54 := Open_spec D54 s54.ok F0.ok.1 (by omega) 0 60 7
  rw [hO] at O54
  refine O54.mono fun u w59 ⟨o59, jp, ra, rc, r0, he, s59, _, _, _, hj⟩ => ⟨_, _, _, _, _, he, fun h => absurd rfl h, fun _ => ?_⟩
  obtain ⟨q, rfl, hq, JG0⟩ := hj J0 rfl
  refine ⟨fun m vs w1 => ∃ (t : Nat) (o1 : Own) (d : DS) (J : JS) (T : Nat), vs = [.int .i64 t] ∧ m + t = la.length ∧ Step (fun _ => True) w21 (fun _ => none) w1 o1 ∧ DG w1 o1 g d ∧ JG w1 o1 q g J ∧ FS d J T t ∧ w54.heap.size ≤ w1.heap.size,
    la.length, ⟨0, o59, newDS 60, J0, 0, rfl, rfl, (s54.trans s59).mono fun _ h _ => h.elim, D54.step s59 id, JG0, F0, s59.size⟩, ?_⟩
  rintro m w64 i ⟨t, oA, d, J, T, hi, hm, sA, DA, JA, FA, h64⟩
  simp only [List.cons.injEq, Value.int.injEq, true_and, and_true] at hi
  subst hi
  refine ⟨fun ht => ?_, fun ht => ?_⟩
  · have htl : t < la.length := by omega
    have gt : la[t]? = some la[t] := List.getElem?_eq_getElem htl
    obtain ⟨ad, hab, cx⟩ := (ha.no (topX sA)).cell gt
    obtain ⟨hx1, hx2⟩ := ha.oks _ (List.mem_of_getElem? gt)
    have hx200 := ha200 _ _ gt
    generalize la[t] = x at *
    refine ⟨ad, hab, by omega, by omega, _, _, _, by rw [Int.toNat_natCast]; exact cx, ?_⟩
    obtain ⟨T2, F2⟩ := FA.act (b := x.bs) (by omega) (by omega)
    refine (Append_spec JA DA sA.ok (show q ≠ g by omega) FA.ok.1 (by omega) (FA.ok.2.1 (by omega)) (hx1.no (topX sA)) hx2 (show x.bs.length < 1000000 by omega)).mono fun u w71 ⟨he, o71, s71, J71, D71⟩ => ⟨_, he, by omega, by omega, m - 1, by omega, t + 1, o71, _, _, T2, rfl, by omega, sA.trans (s71.mono fun _ _ _ => trivial), D71, J71, F2, Nat.le_trans h64 s71.size⟩
  have htt : t = la.length := by omega
  clear hm ht
  obtain ⟨J8, hO8, G8⟩ := FA.anew8 (by omega)
  obtain ⟨J7, w7, hO7, G7⟩ := FA.anew7 (by omega)
  have O64 := Open_spec DA sA.ok FA.ok.1 (by omega) 0 60 8
  rw [hO8] at O64
  have kd := FA.ok.1
  have kdn := FA.ok.2.2.1
  clear FA
  refine ⟨fun _ => ?_, fun _ => ?_⟩
  · refine O64.mono fun u w78 ⟨o78, jp8, _, _, l8, he, s78, hm8, _, _, _⟩ => ⟨_, _, _, _, _, he, fun h => absurd (by have e := congrArg List.length hm8; rw [List.length_map] at e; have e2 : l8.length = 0 := e; omega) h, fun _ => ?_⟩
    have sB := sA.trans (s78.mono fun _ h _ => h.elim)
    have C78 := Create_spec (DA.step s78 id) sB.ok kd (by omega) 0 60 7
    rw [hO7] at C78
    refine C78.mono fun u w83 ⟨o83, jp, he, s83, hj⟩ => ⟨_, _, he, fun h => absurd rfl h, fun _ => ?_⟩
    obtain ⟨q2, rfl, hq2, JB⟩ := hj _ rfl
    have sB := sB.trans (s83.mono fun _ h _ => h.elim)
    have DB := (DA.step s78 id).step s83 id
    have h78 := Nat.le_trans h64 s78.size
    have h83 := Nat.le_trans h78 s83.size
    have GB := G7
    refine ⟨fun harm => ?_, fun harm => ?_⟩
    · refine (Arm_spec DB sB.ok n).mono fun u w88 ⟨he, o88, s88, D88⟩ => ⟨_, he, ?_⟩
      have sB := sB.trans (s88.mono fun _ _ _ => trivial)
      have JB := JB.step s88 (show ¬ q2 = g by omega)
      have GB := GB.arm harm hn
      have h83 := Nat.le_trans h83 s88.size
      have DB := D88
      refine ⟨fun m vs w1 => ∃ (t : Nat) (o1 : Own) (d : DS) (J : JS) (wa : Option Addr) (wc : Nat) (wl : List BS) (T : Nat), vs = [.slice wa wl.length wc, .int .i64 t] ∧ m + t = lb.length ∧ Step (fun _ => True) w21 (fun _ => none) w1 o1 ∧ DG w1 o1 g d ∧ JG w1 o1 q2 g J ∧ WL w1 o1 k wa wc wl ∧ GS d J (wl.map BS.bs) 7 T (la.length + t) False ∧ w54.heap.size ≤ w1.heap.size, lb.length, ⟨0, _, _, _, none, 0, [], 0, rfl, rfl, sB, DB, JB, WL.nil _ _ _, by rw [htt] at GB; exact GB, h83⟩, ?_⟩
      rintro m w93 wva wvn wvc i ⟨s, oC, dC, JC', wa, wc, wl, T9, hi, hm, sC, DC, JC, LC, GC, h93⟩
      simp only [List.cons.injEq, Value.slice.injEq, Value.int.injEq, true_and, and_true] at hi
      obtain ⟨⟨rfl, rfl, rfl⟩, rfl⟩ := hi
      refine ⟨fun ht => ?_, fun ht => (Down_spec DC).mono fun u w144 ⟨he, hw⟩ => ⟨_, he, fun _ => by subst hw; exact hal _ (topX sC), fun hd => absurd (hd.symm.trans GC.down) (by decide)⟩⟩
      have htl : s < lb.length := by omega
      have gt : lb[s]? = some lb[s] := List.getElem?_eq_getElem htl
      obtain ⟨hx1, hx2⟩ := hb.oks _ (List.mem_of_getElem? gt)
      have hx200 := hb200 _ _ gt
      obtain ⟨ad, hba, _⟩ := hb.cell gt
      have cX : ∀ {w2 : World}, Ext no w21 w2 → w2.cell? (ad.add (Int.toNat (s : Int) * 1)) = some (.slice (lb[s]).a (lb[s]).bs.length (lb[s]).c) := fun X => by
        obtain ⟨ad', e, c⟩ := (hb.no X).cell gt
        rw [hba] at e; cases e
        rw [Int.toNat_natCast]; exact c
      generalize lb[s] = x at *
      refine ⟨ad, hba, by omega, by omega, x.a, x.bs.length, x.c, cX (topX sC), ?_⟩
      have jok := GC.jok (by decide)
      have hA2 := Append_spec JC DC sC.ok (show q2 ≠ g by omega) GC.ok (by omega) jok (hx1.no (topX sC)) hx2 (show x.bs.length < 1000000 by omega)
      have act := GC.act (b := x.bs) (by decide) (by decide) (by omega) (by omega)
      obtain ⟨A, hA⟩ : ∃ A, appendJ dC JC' x.bs = A := ⟨_, rfl⟩
      rw [hA] at hA2 act
      have hwl := GC.len
      rw [List.length_map] at hwl
      refine hA2.mono fun u w100 ⟨he, o100, s100, J100, D100⟩ => ⟨_, he, fun h0 => ?_, fun h0 => ?_⟩
      all_goals have sD := sC.trans (s100.mono fun _ _ _ => trivial)
      all_goals have XD := topX sD
      all_goals have LD := LC.step s100 (show ¬ (k = q2 ∨ k = g) by omega)
      all_goals have l100 := Nat.le_trans h93 s100.size
      · rcases act with ⟨_, C2⟩ | ⟨e, _⟩ | ⟨e, _⟩
        · refine ⟨by omega, by omega, x.a, x.bs.length, x.c, cX XD, fun w56 q57 X56 hb57 _ _ => ?_⟩
          obtain ⟨a', c', w59, o59, hr, s59, L59⟩ := LD.push sD.ok (by omega) (by omega) (x := x) ⟨⟨hx1.no XD, fun h0 ad ha => sD.same _ (hx1.lt h0 ha)⟩, hx2⟩ X56 hb57
          exact ⟨a', _, c', w59, hr, by omega, by omega, m - 1, by omega, s + 1, o59, _, _, a', c', _, _, rfl, by omega, sD.trans (s59.mono fun _ _ _ => trivial), D100.step s59 (show ¬ g = k from fun e => hkg e.symm), J100.step s59 (show ¬ q2 = k by omega), L59, by rw [List.map_append]; exact C2, Nat.le_trans l100 s59.size⟩
        · omega
        · omega
      · refine (Down_spec D100).mono fun u w111 ⟨he, hw⟩ => ⟨_, he, fun _ => by subst hw; exact hal _ XD, fun hd => ⟨fun _ => by subst hw; exact hal _ XD, fun hne => ?_⟩⟩
        have hw' := hw.symm
        subst hw'
        rcases act with ⟨e, _⟩ | ⟨_, e⟩ | ⟨_, hdn, hok, hkeep⟩
        · omega
        · rw [e] at hd
          exact absurd (hd.symm.trans GC.down) (by decide)
        · refine (dRestart_spec D100 sD.ok hok (by omega) ⟨hk.no XD, fun h0 ad ha => sD.same _ (hk.lt h0 ha)⟩).mono fun u w122 ⟨he, o122, s122, D122⟩ => ⟨_, he, ?_⟩
          have sE := sD.trans (s122.mono fun _ _ _ => trivial)
          have LE := LD.step s122 (show ¬ k = g from hkg)
          obtain ⟨rok, J2, r, hO2, hQ⟩ := hkeep keep
          have hO3 := Open_spec D122 sE.ok rok (by omega) 0 60 7
          rw [hO2] at hO3
          refine hO3.mono fun u w127 ⟨o127, jp2, na, nc, nl, he, s127, hnm, hnr, _, _⟩ => ⟨_, _, _, _, _, he, fun h => absurd rfl h, fun _ => ?_⟩
          have hnm : nl.map BS.bs = wl.map BS.bs ++ r := hnm
          have hnl : nl.length = wl.length + r.length := by have := congrArg List.length hnm; rwa [List.length_map, List.length_append, List.length_map] at this
          have hnc := hnr.le
          have sF := sE.trans (s127.mono fun _ h _ => h.elim)
          have LF := LE.step s127 id
          refine ⟨fun h => absurd h (by omega), fun _ => ⟨by omega, by omega, ?_⟩⟩
          have htk : (nl.take wl.length).map BS.bs = wl.map BS.bs := by rw [List.map_take, hnm, List.take_append_of_le_length (by rw [List.length_map]; exact Nat.le_refl _), List.take_of_length_le (by rw [List.length_map]; exact Nat.le_refl _)]
          have hsh : ∀ y ∈ nl.take wl.length, y.bs.length < 1000000 := fun y hy => by
            have h1 : y.bs ∈ (nl.take wl.length).map BS.bs := List.mem_map_of_mem hy
            rw [htk] at h1
            have := GC.jp.sh _ h1
            omega
          have htl2 : Int.toNat (wl.length : Int) = (nl.take wl.length).length := by rw [Int.toNat_natCast, List.length_take]; omega
          rw [htl2]
          refine (lists_spec (ac := nc) (bc := wvc) (hnr.at.take wl.length).row LF.row.row (fun y hy => ⟨(hnr.oks y (List.mem_of_mem_take hy)).1.1, hsh y hy⟩) (fun y hy => (LF.oks y hy).1.1) (by rw [List.length_take]; omega)).mono fun u w132 ⟨he, X132⟩ => ⟨_, he, fun h => absurd htk (of_decide_eq_false h), fun _ => ⟨fun _ w134 X134 => hal _ (((topX sF).trans X132).trans X134), fun hne2 => ?_⟩⟩
          exact fun w134 X134 => hal _ (((topX sF).trans X132).trans X134)
    · refine ⟨fun m vs w1 => ∃ (t : Nat) (o1 : Own) (d : DS) (J : JS) (wa : Option Addr) (wc : Nat) (wl : List BS) (T : Nat), vs = [.slice wa wl.length wc, .int .i64 t] ∧ m + t = lb.length ∧ Step (fun _ => True) w21 (fun _ => none) w1 o1 ∧ DG w1 o1 g d ∧ JG w1 o1 q2 g J ∧ WL w1 o1 k wa wc wl ∧ GS d J (wl.map BS.bs) 7 T (la.length + t) False ∧ w54.heap.size ≤ w1.heap.size, lb.length, ⟨0, _, _, _, none, 0, [], 0, rfl, rfl, sB, DB, JB, WL.nil _ _ _, by rw [htt] at GB; exact GB, h83⟩, ?_⟩
      rintro m w93 wva wvn wvc i ⟨s, oC, dC, JC', wa, wc, wl, T9, hi, hm, sC, DC, JC, LC, GC, h93⟩
      simp only [List.cons.injEq, Value.slice.injEq, Value.int.injEq, true_and, and_true] at hi
      obtain ⟨⟨rfl, rfl, rfl⟩, rfl⟩ := hi
      refine ⟨fun ht => ?_, fun ht => (Down_spec DC).mono fun u w144 ⟨he, hw⟩ => ⟨_, he, fun _ => by subst hw; exact hal _ (topX sC), fun hd => absurd (hd.symm.trans GC.down) (by decide)⟩⟩
      have htl : s < lb.length := by omega
      have gt : lb[s]? = some lb[s] := List.getElem?_eq_getElem htl
      obtain ⟨hx1, hx2⟩ := hb.oks _ (List.mem_of_getElem? gt)
      have hx200 := hb200 _ _ gt
      obtain ⟨ad, hba, _⟩ := hb.cell gt
      have cX : ∀ {w2 : World}, Ext no w21 w2 → w2.cell? (ad.add (Int.toNat (s : Int) * 1)) = some (.slice (lb[s]).a (lb[s]).bs.length (lb[s]).c) := fun X => by
        obtain ⟨ad', e, c⟩ := (hb.no X).cell gt
        rw [hba] at e; cases e
        rw [Int.toNat_natCast]; exact c
      generalize lb[s] = x at *
      refine ⟨ad, hba, by omega, by omega, x.a, x.bs.length, x.c, cX (topX sC), ?_⟩
      have jok := GC.jok (by decide)
      have hA2 := Append_spec JC DC sC.ok (show q2 ≠ g by omega) GC.ok (by omega) jok (hx1.no (topX sC)) hx2 (show x.bs.length < 1000000 by omega)
      have act := GC.act (b := x.bs) (by decide) (by decide) (by omega) (by omega)
      obtain ⟨A, hA⟩ : ∃ A, appendJ dC JC' x.bs = A := ⟨_, rfl⟩
      rw [hA] at hA2 act
      have hwl := GC.len
      rw [List.length_map] at hwl
      refine hA2.mono fun u w100 ⟨he, o100, s100, J100, D100⟩ => ⟨_, he, fun h0 => ?_, fun h0 => ?_⟩
      all_goals have sD := sC.trans (s100.mono fun _ _ _ => trivial)
      all_goals have XD := topX sD
      all_goals have LD := LC.step s100 (show ¬ (k = q2 ∨ k = g) by omega)
      all_goals have l100 := Nat.le_trans h93 s100.size
      · rcases act with ⟨_, C2⟩ | ⟨e, _⟩ | ⟨e, _⟩
        · refine ⟨by omega, by omega, x.a, x.bs.length, x.c, cX XD, fun w56 q57 X56 hb57 _ _ => ?_⟩
          obtain ⟨a', c', w59, o59, hr, s59, L59⟩ := LD.push sD.ok (by omega) (by omega) (x := x) ⟨⟨hx1.no XD, fun h0 ad ha => sD.same _ (hx1.lt h0 ha)⟩, hx2⟩ X56 hb57
          exact ⟨a', _, c', w59, hr, by omega, by omega, m - 1, by omega, s + 1, o59, _, _, a', c', _, _, rfl, by omega, sD.trans (s59.mono fun _ _ _ => trivial), D100.step s59 (show ¬ g = k from fun e => hkg e.symm), J100.step s59 (show ¬ q2 = k by omega), L59, by rw [List.map_append]; exact C2, Nat.le_trans l100 s59.size⟩
        · omega
        · omega
      · refine (Down_spec D100).mono fun u w111 ⟨he, hw⟩ => ⟨_, he, fun _ => by subst hw; exact hal _ XD, fun hd => ⟨fun _ => by subst hw; exact hal _ XD, fun hne => ?_⟩⟩
        have hw' := hw.symm
        subst hw'
        rcases act with ⟨e, _⟩ | ⟨_, e⟩ | ⟨_, hdn, hok, hkeep⟩
        · omega
        · rw [e] at hd
          exact absurd (hd.symm.trans GC.down) (by decide)
        · refine (dRestart_spec D100 sD.ok hok (by omega) ⟨hk.no XD, fun h0 ad ha => sD.same _ (hk.lt h0 ha)⟩).mono fun u w122 ⟨he, o122, s122, D122⟩ => ⟨_, he, ?_⟩
          have sE := sD.trans (s122.mono fun _ _ _ => trivial)
          have LE := LD.step s122 (show ¬ k = g from hkg)
          obtain ⟨rok, J2, r, hO2, hQ⟩ := hkeep keep
          have hO3 := Open_spec D122 sE.ok rok (by omega) 0 60 7
          rw [hO2] at hO3
          refine hO3.mono fun u w127 ⟨o127, jp2, na, nc, nl, he, s127, hnm, hnr, _, _⟩ => ⟨_, _, _, _, _, he, fun h => absurd rfl h, fun _ => ?_⟩
          have hnm : nl.map BS.bs = wl.map BS.bs ++ r := hnm
          have hnl : nl.length = wl.length + r.length := by have := congrArg List.length hnm; rwa [List.length_map, List.length_append, List.length_map] at this
          have hnc := hnr.le
          have sF := sE.trans (s127.mono fun _ h _ => h.elim)
          have LF := LE.step s127 id
          refine ⟨fun h => absurd h (by omega), fun _ => ⟨by omega, by omega, ?_⟩⟩
          have htk : (nl.take wl.length).map BS.bs = wl.map BS.bs := by rw [List.map_take, hnm, List.take_append_of_le_length (by rw [List.length_map]; exact Nat.le_refl _), List.take_of_length_le (by rw [List.length_map]; exact Nat.le_refl _)]
          have hsh : ∀ y ∈ nl.take wl.length, y.bs.length < 1000000 := fun y hy => by
            have h1 : y.bs ∈ (nl.take wl.length).map BS.bs := List.mem_map_of_mem hy
            rw [htk] at h1
            have := GC.jp.sh _ h1
            omega
          have htl2 : Int.toNat (wl.length : Int) = (nl.take wl.length).length := by rw [Int.toNat_natCast, List.length_take]; omega
          rw [htl2]
          refine (lists_spec (ac := nc) (bc := wvc) (hnr.at.take wl.length).row LF.row.row (fun y hy => ⟨(hnr.oks y (List.mem_of_mem_take hy)).1.1, hsh y hy⟩) (fun y hy => (LF.oks y hy).1.1) (by rw [List.length_take]; omega)).mono fun u w132 ⟨he, X132⟩ => ⟨_, he, fun h => absurd htk (of_decide_eq_false h), fun _ => ⟨fun _ w134 X134 => hal _ (((topX sF).trans X132).trans X134), fun hne2 => ?_⟩⟩
          exact fun w134 X134 => hal _ (((topX sF).trans X132).trans X134)
  · refine O64.mono fun u w78 ⟨o78, jp8, _, _, l8, he, s78, hm8, _, _, _⟩ => ⟨_, _, _, _, _, he, fun h => absurd (by have e := congrArg List.length hm8; rw [List.length_map] at e; have e2 : l8.length = 0 := e; omega) h, fun _ => ?_⟩
    have sB := sA.trans (s78.mono fun _ h _ => h.elim)
    have C78 := Create_spec (DA.step s78 id) sB.ok kd (by omega) 0 60 8
    rw [hO8] at C78
    refine C78.mono fun u w83 ⟨o83, jp, he, s83, hj⟩ => ⟨_, _, he, fun h => absurd rfl h, fun _ => ?_⟩
    obtain ⟨q2, rfl, hq2, JB⟩ := hj _ rfl
    have sB := sB.trans (s83.mono fun _ h _ => h.elim)
    have DB := (DA.step s78 id).step s83 id
    have h78 := Nat.le_trans h64 s78.size
    have h83 := Nat.le_trans h78 s83.size
    have GB := G8
    refine ⟨fun harm => ?_, fun harm => ?_⟩
    · refine (Arm_spec DB sB.ok n).mono fun u w88 ⟨he, o88, s88, D88⟩ => ⟨_, he, ?_⟩
      have sB := sB.trans (s88.mono fun _ _ _ => trivial)
      have JB := JB.step s88 (show ¬ q2 = g by omega)
      have GB := GB.arm harm hn
      have h83 := Nat.le_trans h83 s88.size
      have DB := D88
      refine ⟨fun m vs w1 => ∃ (t : Nat) (o1 : Own) (d : DS) (J : JS) (wa : Option Addr) (wc : Nat) (wl : List BS) (T : Nat), vs = [.slice wa wl.length wc, .int .i64 t] ∧ m + t = lb.length ∧ Step (fun _ => True) w21 (fun _ => none) w1 o1 ∧ DG w1 o1 g d ∧ JG w1 o1 q2 g J ∧ WL w1 o1 k wa wc wl ∧ GS d J (wl.map BS.bs) 8 T (la.length + t) True ∧ w54.heap.size ≤ w1.heap.size, lb.length, ⟨0, _, _, _, none, 0, [], 0, rfl, rfl, sB, DB, JB, WL.nil _ _ _, by rw [htt] at GB; exact GB, h83⟩, ?_⟩
      rintro m w93 wva wvn wvc i ⟨s, oC, dC, JC', wa, wc, wl, T9, hi, hm, sC, DC, JC, LC, GC, h93⟩
      simp only [List.cons.injEq, Value.slice.injEq, Value.int.injEq, true_and, and_true] at hi
      obtain ⟨⟨rfl, rfl, rfl⟩, rfl⟩ := hi
      refine ⟨fun ht => ?_, fun ht => (Down_spec DC).mono fun u w144 ⟨he, hw⟩ => ⟨_, he, fun _ => by subst hw; exact hal _ (topX sC), fun hd => absurd (hd.symm.trans GC.down) (by decide)⟩⟩
      have htl : s < lb.length := by omega
      have gt : lb[s]? = some lb[s] := List.getElem?_eq_getElem htl
      obtain ⟨hx1, hx2⟩ := hb.oks _ (List.mem_of_getElem? gt)
      have hx200 := hb200 _ _ gt
      obtain ⟨ad, hba, _⟩ := hb.cell gt
      have cX : ∀ {w2 : World}, Ext no w21 w2 → w2.cell? (ad.add (Int.toNat (s : Int) * 1)) = some (.slice (lb[s]).a (lb[s]).bs.length (lb[s]).c) := fun X => by
        obtain ⟨ad', e, c⟩ := (hb.no X).cell gt
        rw [hba] at e; cases e
        rw [Int.toNat_natCast]; exact c
      generalize lb[s] = x at *
      refine ⟨ad, hba, by omega, by omega, x.a, x.bs.length, x.c, cX (topX sC), ?_⟩
      have jok := GC.jok (by decide)
      have hA2 := Append_spec JC DC sC.ok (show q2 ≠ g by omega) GC.ok (by omega) jok (hx1.no (topX sC)) hx2 (show x.bs.length < 1000000 by omega)
      have act := GC.act (b := x.bs) (by decide) (by decide) (by omega) (by omega)
      obtain ⟨A, hA⟩ : ∃ A, appendJ dC JC' x.bs = A := ⟨_, rfl⟩
      rw [hA] at hA2 act
      have hwl := GC.len
      rw [List.length_map] at hwl
      refine hA2.mono fun u w100 ⟨he, o100, s100, J100, D100⟩ => ⟨_, he, fun h0 => ?_, fun h0 => ?_⟩
      all_goals have sD := sC.trans (s100.mono fun _ _ _ => trivial)
      all_goals have XD := topX sD
      all_goals have LD := LC.step s100 (show ¬ (k = q2 ∨ k = g) by omega)
      all_goals have l100 := Nat.le_trans h93 s100.size
      · rcases act with ⟨_, C2⟩ | ⟨e, _⟩ | ⟨e, _⟩
        · refine ⟨by omega, by omega, x.a, x.bs.length, x.c, cX XD, fun w56 q57 X56 hb57 _ _ => ?_⟩
          obtain ⟨a', c', w59, o59, hr, s59, L59⟩ := LD.push sD.ok (by omega) (by omega) (x := x) ⟨⟨hx1.no XD, fun h0 ad ha => sD.same _ (hx1.lt h0 ha)⟩, hx2⟩ X56 hb57
          exact ⟨a', _, c', w59, hr, by omega, by omega, m - 1, by omega, s + 1, o59, _, _, a', c', _, _, rfl, by omega, sD.trans (s59.mono fun _ _ _ => trivial), D100.step s59 (show ¬ g = k from fun e => hkg e.symm), J100.step s59 (show ¬ q2 = k by omega), L59, by rw [List.map_append]; exact C2, Nat.le_trans l100 s59.size⟩
        · omega
        · omega
      · refine (Down_spec D100).mono fun u w111 ⟨he, hw⟩ => ⟨_, he, fun _ => by subst hw; exact hal _ XD, fun hd => ⟨fun _ => by subst hw; exact hal _ XD, fun hne => ?_⟩⟩
        have hw' := hw.symm
        subst hw'
        rcases act with ⟨e, _⟩ | ⟨_, e⟩ | ⟨_, hdn, hok, hkeep⟩
        · omega
        · rw [e] at hd
          exact absurd (hd.symm.trans GC.down) (by decide)
        · refine (dRestart_spec D100 sD.ok hok (by omega) ⟨hk.no XD, fun h0 ad ha => sD.same _ (hk.lt h0 ha)⟩).mono fun u w122 ⟨he, o122, s122, D122⟩ => ⟨_, he, ?_⟩
          have sE := sD.trans (s122.mono fun _ _ _ => trivial)
          have LE := LD.step s122 (show ¬ k = g from hkg)
          obtain ⟨rok, J2, r, hO2, hQ⟩ := hkeep keep
          have hO3 := Open_spec D122 sE.ok rok (by omega) 0 60 8
          rw [hO2] at hO3
          refine hO3.mono fun u w127 ⟨o127, jp2, na, nc, nl, he, s127, hnm, hnr, _, _⟩ => ⟨_, _, _, _, _, he, fun h => absurd rfl h, fun _ => ?_⟩
          have hnm : nl.map BS.bs = wl.map BS.bs ++ r := hnm
          have hnl : nl.length = wl.length + r.length := by have := congrArg List.length hnm; rwa [List.length_map, List.length_append, List.length_map] at this
          have hnc := hnr.le
          have sF := sE.trans (s127.mono fun _ h _ => h.elim)
          have LF := LE.step s127 id
          refine ⟨fun h => absurd h (by omega), fun _ => ⟨by omega, by omega, ?_⟩⟩
          have htk : (nl.take wl.length).map BS.bs = wl.map BS.bs := by rw [List.map_take, hnm, List.take_append_of_le_length (by rw [List.length_map]; exact Nat.le_refl _), List.take_of_length_le (by rw [List.length_map]; exact Nat.le_refl _)]
          have hsh : ∀ y ∈ nl.take wl.length, y.bs.length < 1000000 := fun y hy => by
            have h1 : y.bs ∈ (nl.take wl.length).map BS.bs := List.mem_map_of_mem hy
            rw [htk] at h1
            have := GC.jp.sh _ h1
            omega
          have htl2 : Int.toNat (wl.length : Int) = (nl.take wl.length).length := by rw [Int.toNat_natCast, List.length_take]; omega
          rw [htl2]
          refine (lists_spec (ac := nc) (bc := wvc) (hnr.at.take wl.length).row LF.row.row (fun y hy => ⟨(hnr.oks y (List.mem_of_mem_take hy)).1.1, hsh y hy⟩) (fun y hy => (LF.oks y hy).1.1) (by rw [List.length_take]; omega)).mono fun u w132 ⟨he, X132⟩ => ⟨_, he, fun h => absurd htk (of_decide_eq_false h), fun _ => ⟨fun _ w134 X134 => hal _ (((topX sF).trans X132).trans X134), fun hne2 => ?_⟩⟩
          rw [← htl2]
          have X9 := (topX sF).trans X132
          have hr1 : r = [x.bs] := by
            rcases hQ trivial with e | e
            · rw [e] at hnl; exact absurd (by rw [hnl]; rfl) hne2
            · exact e
          rw [hr1] at hnm hnl
          have hnl' : nl.length = wl.length + 1 := hnl
          have gn : nl[wl.length]? = some (nl[wl.length]'(by omega)) := List.getElem?_eq_getElem (by omega)
          have hyb : (nl[wl.length]'(by omega)).bs = x.bs := by
            have h1 : (nl.map BS.bs)[wl.length]? = some x.bs := by rw [hnm, List.getElem?_append_right (by rw [List.length_map]; exact Nat.le_refl _), List.length_map, Nat.sub_self]; rfl
            rw [List.getElem?_map, gn] at h1
            exact Option.some.inj h1
          obtain ⟨ry, _⟩ := hnr.oks _ (List.mem_of_getElem? gn)
          obtain ⟨ad2, hna, cy⟩ := (hnr.at.no X132).cell gn
          generalize nl[wl.length]'(by omega) = y at *
          refine ⟨ad2, hna, by omega, by omega, y.a, y.bs.length, y.c, by rw [Int.toNat_natCast]; exact cy, by omega, by omega, x.a, x.bs.length, x.c, cX X9, fun w134 X134 => ?_⟩
          exact (sameB_spec ((ry.1.no X132).no X134) (hx1.no (X9.trans X134)) (by rw [hyb]; omega)).mono fun u w8 ⟨he, X8⟩ => ⟨_, he, fun _ => hal _ ((X9.trans X134).trans X8), fun h => absurd hyb (of_decide_eq_false h)⟩
    · refine ⟨fun m vs w1 => ∃ (t : Nat) (o1 : Own) (d : DS) (J : JS) (wa : Option Addr) (wc : Nat) (wl : List BS) (T : Nat), vs = [.slice wa wl.length wc, .int .i64 t] ∧ m + t = lb.length ∧ Step (fun _ => True) w21 (fun _ => none) w1 o1 ∧ DG w1 o1 g d ∧ JG w1 o1 q2 g J ∧ WL w1 o1 k wa wc wl ∧ GS d J (wl.map BS.bs) 8 T (la.length + t) True ∧ w54.heap.size ≤ w1.heap.size, lb.length, ⟨0, _, _, _, none, 0, [], 0, rfl, rfl, sB, DB, JB, WL.nil _ _ _, by rw [htt] at GB; exact GB, h83⟩, ?_⟩
      rintro m w93 wva wvn wvc i ⟨s, oC, dC, JC', wa, wc, wl, T9, hi, hm, sC, DC, JC, LC, GC, h93⟩
      simp only [List.cons.injEq, Value.slice.injEq, Value.int.injEq, true_and, and_true] at hi
      obtain ⟨⟨rfl, rfl, rfl⟩, rfl⟩ := hi
      refine ⟨fun ht => ?_, fun ht => (Down_spec DC).mono fun u w144 ⟨he, hw⟩ => ⟨_, he, fun _ => by subst hw; exact hal _ (topX sC), fun hd => absurd (hd.symm.trans GC.down) (by decide)⟩⟩
      have htl : s < lb.length := by omega
      have gt : lb[s]? = some lb[s] := List.getElem?_eq_getElem htl
      obtain ⟨hx1, hx2⟩ := hb.oks _ (List.mem_of_getElem? gt)
      have hx200 := hb200 _ _ gt
      obtain ⟨ad, hba, _⟩ := hb.cell gt
      have cX : ∀ {w2 : World}, Ext no w21 w2 → w2.cell? (ad.add (Int.toNat (s : Int) * 1)) = some (.slice (lb[s]).a (lb[s]).bs.length (lb[s]).c) := fun X => by
        obtain ⟨ad', e, c⟩ := (hb.no X).cell gt
        rw [hba] at e; cases e
        rw [Int.toNat_natCast]; exact c
      generalize lb[s] = x at *
      refine ⟨ad, hba, by omega, by omega, x.a, x.bs.length, x.c, cX (topX sC), ?_⟩
      have jok := GC.jok (by decide)
      have hA2 := Append_spec JC DC sC.ok (show q2 ≠ g by omega) GC.ok (by omega) jok (hx1.no (topX sC)) hx2 (show x.bs.length < 1000000 by omega)
      have act := GC.act (b := x.bs) (by decide) (by decide) (by omega) (by omega)
      obtain ⟨A, hA⟩ : ∃ A, appendJ dC JC' x.bs = A := ⟨_, rfl⟩
      rw [hA] at hA2 act
      have hwl := GC.len
      rw [List.length_map] at hwl
      refine hA2.mono fun u w100 ⟨he, o100, s100, J100, D100⟩ => ⟨_, he, fun h0 => ?_, fun h0 => ?_⟩
      all_goals have sD := sC.trans (s100.mono fun _ _ _ => trivial)
      all_goals have XD := topX sD
      all_goals have LD := LC.step s100 (show ¬ (k = q2 ∨ k = g) by omega)
      all_goals have l100 := Nat.le_trans h93 s100.size
      · rcases act with ⟨_, C2⟩ | ⟨e, _⟩ | ⟨e, _⟩
        · refine ⟨by omega, by omega, x.a, x.bs.length, x.c, cX XD, fun w56 q57 X56 hb57 _ _ => ?_⟩
          obtain ⟨a', c', w59, o59, hr, s59, L59⟩ := LD.push sD.ok (by omega) (by omega) (x := x) ⟨⟨hx1.no XD, fun h0 ad ha => sD.same _ (hx1.lt h0 ha)⟩, hx2⟩ X56 hb57
          exact ⟨a', _, c', w59, hr, by omega, by omega, m - 1, by omega, s + 1, o59, _, _, a', c', _, _, rfl, by omega, sD.trans (s59.mono fun _ _ _ => trivial), D100.step s59 (show ¬ g = k from fun e => hkg e.symm), J100.step s59 (show ¬ q2 = k by omega), L59, by rw [List.map_append]; exact C2, Nat.le_trans l100 s59.size⟩
        · omega
        · omega
      · refine (Down_spec D100).mono fun u w111 ⟨he, hw⟩ => ⟨_, he, fun _ => by subst hw; exact hal _ XD, fun hd => ⟨fun _ => by subst hw; exact hal _ XD, fun hne => ?_⟩⟩
        have hw' := hw.symm
        subst hw'
        rcases act with ⟨e, _⟩ | ⟨_, e⟩ | ⟨_, hdn, hok, hkeep⟩
        · omega
        · rw [e] at hd
          exact absurd (hd.symm.trans GC.down) (by decide)
        · refine (dRestart_spec D100 sD.ok hok (by omega) ⟨hk.no XD, fun h0 ad ha => sD.same _ (hk.lt h0 ha)⟩).mono fun u w122 ⟨he, o122, s122, D122⟩ => ⟨_, he, ?_⟩
          have sE := sD.trans (s122.mono fun _ _ _ => trivial)
          have LE := LD.step s122 (show ¬ k = g from hkg)
          obtain ⟨rok, J2, r, hO2, hQ⟩ := hkeep keep
          have hO3 := Open_spec D122 sE.ok rok (by omega) 0 60 8
          rw [hO2] at hO3
          refine hO3.mono fun u w127 ⟨o127, jp2, na, nc, nl, he, s127, hnm, hnr, _, _⟩ => ⟨_, _, _, _, _, he, fun h => absurd rfl h, fun _ => ?_⟩
          have hnm : nl.map BS.bs = wl.map BS.bs ++ r := hnm
          have hnl : nl.length = wl.length + r.length := by have := congrArg List.length hnm; rwa [List.length_map, List.length_append, List.length_map] at this
          have hnc := hnr.le
          have sF := sE.trans (s127.mono fun _ h _ => h.elim)
          have LF := LE.step s127 id
          refine ⟨fun h => absurd h (by omega), fun _ => ⟨by omega, by omega, ?_⟩⟩
          have htk : (nl.take wl.length).map BS.bs = wl.map BS.bs := by rw [List.map_take, hnm, List.take_append_of_le_length (by rw [List.length_map]; exact Nat.le_refl _), List.take_of_length_le (by rw [List.length_map]; exact Nat.le_refl _)]
          have hsh : ∀ y ∈ nl.take wl.length, y.bs.length < 1000000 := fun y hy => by
            have h1 : y.bs ∈ (nl.take wl.length).map BS.bs := List.mem_map_of_mem hy
            rw [htk] at h1
            have := GC.jp.sh _ h1
            omega
          have htl2 : Int.toNat (wl.length : Int) = (nl.take wl.length).length := by rw [Int.toNat_natCast, List.length_take]; omega
          rw [htl2]
          refine (lists_spec (ac := nc) (bc := wvc) (hnr.at.take wl.length).row LF.row.row (fun y hy => ⟨(hnr.oks y (List.mem_of_mem_take hy)).1.1, hsh y hy⟩) (fun y hy => (LF.oks y hy).1.1) (by rw [List.length_take]; omega)).mono fun u w132 ⟨he, X132⟩ => ⟨_, he, fun h => absurd htk (of_decide_eq_false h), fun _ => ⟨fun _ w134 X134 => hal _ (((topX sF).trans X132).trans X134), fun hne2 => ?_⟩⟩
          rw [← htl2]
          have X9 := (topX sF).trans X132
          have hr1 : r = [x.bs] := by
            rcases hQ trivial with e | e
            · rw [e] at hnl; exact absurd (by rw [hnl]; rfl) hne2
            · exact e
          rw [hr1] at hnm hnl
          have hnl' : nl.length = wl.length + 1 := hnl
          have gn : nl[wl.length]? = some (nl[wl.length]'(by omega)) := List.getElem?_eq_getElem (by omega)
          have hyb : (nl[wl.length]'(by omega)).bs = x.bs := by
            have h1 : (nl.map BS.bs)[wl.length]? = some x.bs := by rw [hnm, List.getElem?_append_right (by rw [List.length_map]; exact Nat.le_refl _), List.length_map, Nat.sub_self]; rfl
            rw [List.getElem?_map, gn] at h1
            exact Option.some.inj h1
          obtain ⟨ry, _⟩ := hnr.oks _ (List.mem_of_getElem? gn)
          obtain ⟨ad2, hna, cy⟩ := (hnr.at.no X132).cell gn
          generalize nl[wl.length]'(by omega) = y at *
          refine ⟨ad2, hna, by omega, by omega, y.a, y.bs.length, y.c, by rw [Int.toNat_natCast]; exact cy, by omega, by omega, x.a, x.bs.length, x.c, cX X9, fun w134 X134 => ?_⟩
          exact (sameB_spec ((ry.1.no X132).no X134) (hx1.no (X9.trans X134)) (by rw [hyb]; omega)).mono fun u w8 ⟨he, X8⟩ => ⟨_, he, fun _ => hal _ ((X9.trans X134).trans X8), fun h => absurd hyb (of_decide_eq_false h)⟩
theorem JournalGens_walk (W : World) (a0 : Option Addr) (len0 cap0 : Nat) (a1 : Option Addr) (len1 cap1 : Nat) (n2 : Int) (a3 : Option Addr) (len3 cap3 : Nat) (b4 : Bool) (o0 : BssQ W [.slice a0 len0 cap0]) (o1 : BssQ W [.slice a1 len1 cap1]) (w2 : (Lit.int .i64 n2).wf = true) (o3 : BoolsQ W [.slice a3 len3 cap3]) :
    Calls Try.prog 6 #[.slice a0 len0 cap0, .slice a1 len1 cap1, .int .i64 n2, .slice a3 len3 cap3, .bool b4] W (Ret (.bool true) fun w' => Ext no W w') := by
  obtain ⟨_, c0, l0, e0, r0⟩ := o0
  obtain ⟨_, c1, l1, e1, r1⟩ := o1
  obtain ⟨_, c3, l3, e3, _, _, r3⟩ := o3
  cases e0; cases e1; cases e3
  exact JournalGens_spec W r0 r1 r3 (by simp [Lit.wf, IntKind.min, IntKind.max, IntKind.signed, IntKind.bits] at w2; omega)
end Go.Proofs.Ytgcjipbahfpopaa
