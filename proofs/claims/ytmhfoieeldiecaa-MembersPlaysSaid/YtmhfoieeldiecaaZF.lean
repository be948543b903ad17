/- Members: Behind, the program's and the reference's. -/
import Derived.Test.YtmhfoieeldiecaaZD
import Derived.Test.YtmhfoieeldiecaaZE
set_option linter.unusedVariables false
set_option linter.unusedSimpArgs false
set_option maxRecDepth 20000
set_option maxHeartbeats 4000000
namespace Go.Proofs.Ytmhfoieeldiecaa
open Go Go.Mx Go.Proofs
open W (OwnB)
section
variable {w w' w1 : World} {o o' o1 : Own} {a b la : Option Addr} {c d N lc : Nat} {s t : MS} {m : Mem} {cg : Chg} {ml : List Mem} {l : List CR} {pb : Int}
def BehR (w : World) (o : Own) (r : MS × Int × Int) (v : Value) (w' : World) : Prop := ∃ o' a' c', v = (.tuple #[.agg #[.slice a' r.1.ml.length c', .int .i64 r.1.ep], .int .i64 r.2.1, .int .i64 r.2.2]) ∧ Step no w o w' o' ∧ Row w' o' a' (r.1.ml.flatMap Mem.C) ∧ r.1.ok ∧ r.1.ml.length ≤ c'
def BehG (w : World) (o : Own) (r : MS × Int × Int) (x : Ending) (w' : World) : Prop := ∃ v, x = .returned v ∧ BehR w o r v w'
def wsOk (w : World) (o : Own) (l : List CR) : Prop := ∀ p ∈ l, Row w o p.wa (p.l.flatMap Wr.C) ∧ p.l.length < 1000000 ∧ p.old.length < 1000000
theorem wsOk.step {K : Nat → Prop} (h : wsOk w o l) (s : Step K w o w' o') : wsOk w' o' l := fun p hp => ⟨(h p hp).1.step s, (h p hp).2⟩
theorem behindM_cons (s : MS) (c : Chg) (r : List Chg) (i : Nat) : behindM s (c :: r) i = if (applyM s c).2 = 0 then behindM (applyM s c).1 r (i + 1) else (s, (i : Int), (applyM s c).2) := rfl
structure BI (w : World) (o : Own) (Q : List Nat) (l : List CR) (pb : Int) (t : Nat) (s : MS) (a : Option Addr) (c : Nat) (w1 : World) (o1 : Own) : Prop where
  go : behindM s ((l.map CR.cg).drop t) t = behindM (newM pb) (l.map CR.cg) 0
  ok : s.ok
  cap : s.ml.length ≤ c
  st : Step no w o w1 o1
  row : Row w1 o1 a (s.ml.flatMap Mem.C)
  mine : Mine Q w1 o1
theorem rBehind_spec (hr : Row w o la (l.flatMap CR.C)) (hg : wsOk w o l) (ok : Tags w o) (hl : l.length < 1000000) (pb : Int) :
    Calls Try.prog 25 #[.slice la l.length lc, .int .u64 pb] w (BehG w o (behindM (newM pb) (l.map CR.cg) 0)) := by
  refine cachetteref12_Behind.go la l.length lc pb (R := BehR w o (behindM (newM pb) (l.map CR.cg) 0)) ?_
  unfold cachetteref12_Behind.N
  intro w3 p4 X3 hp4
  obtain ⟨s3, M3⟩ := Step.priv X3 hp4 ok
  refine (rNew_spec s3.ok pb).mono fun x w8 ⟨o8, a8, c8, hx, s8', r8, hc8⟩ => ⟨_, _, _, _, hx, M3.keep s8' fun _ _ => id, fun w11 p12 X11 hp12 => ?_⟩
  have s8 := s3.trans s8'
  obtain ⟨s11', M11⟩ := Step.priv X11 hp12 s8.ok
  have s11 := s8.trans s11'
  have MQ := ((M3.step s8').step s11').app M11
  have g : ∀ p ∈ [p4, p12], w.heap.size ≤ p := fun p hp => by
    simp only [List.mem_cons, List.not_mem_nil, or_false] at hp
    rcases hp with rfl | rfl
    · exact (hp4 p (by simp)).1
    · have := (hp12 p (by simp)).1; have := s8.size; omega
  refine ⟨fun m vs w1 => ∃ (t : Nat) (s : MS) (a1 : Option Addr) (c1 : Nat) (o1 : Own), vs = [.int .i64 t, .slice none 0 0, .int .i64 0, .slice a1 s.ml.length c1, .int .i64 s.ep] ∧ m + t = l.length ∧ BI w o [p4, p12] l pb t s a1 c1 w1 o1, l.length, ⟨0, newM pb, a8, c8, _, rfl, rfl, ⟨rfl, newM_ok pb, hc8, s11, r8.step s11', MQ⟩⟩, ?_⟩
  rintro m w20 i0 za zn zc ze ra rn rc re ⟨t, s, a1, c1, o20, hi, hm, I⟩
  simp only [List.cons.injEq, Value.slice.injEq, Value.int.injEq, true_and, and_true] at hi
  obtain ⟨rfl, ⟨rfl, rfl, rfl⟩, rfl, ⟨rfl, rfl, rfl⟩, rfl⟩ := hi
  have hle := I.ok.le
  refine ⟨fun ht => ?_, fun ht w52 X52 => ?_⟩
  · have htl : t < l.length := by omega
    have hgt : l[t]? = some l[t] := List.getElem?_eq_getElem htl
    have hxg := (hg.step I.st) _ (List.getElem_mem htl)
    have hdr := List.drop_eq_getElem_cons (l := l.map CR.cg) (i := t) (by simpa using htl)
    rw [List.getElem_map] at hdr
    have hgo := I.go
    rw [hdr, behindM_cons] at hgo
    generalize l[t] = x at *
    obtain ⟨ad, rfl⟩ := hr.1.faddr CR.len (by decide) htl
    refine ⟨ad, rfl, by omega, by omega, x.kd, x.who, x.pub, x.lim, x.wa, x.l.length, x.wc, x.oa, x.old.length, x.oc, by rw [Int.toNat_natCast]; exact (hr.step I.st).1.floads CR.len hgt, fun w32 L31 X32 hp31 => ?_⟩
    obtain ⟨s32', M32⟩ := Step.priv X32 hp31 I.st.ok
    have s32 := I.st.trans s32'
    have MQ32 := I.mine.step s32'
    rw [CR.V]
    refine (rApply_spec (I.row.step s32') s32.ok I.ok I.cap (hxg.1.step s32') rfl hxg.2.1 hxg.2.2).mono fun e w37 ⟨o37, a', c', hx, s37', r37, hc'⟩ => ⟨_, _, _, _, _, hx, M32.keep s37' fun _ _ => id, MQ32.keep s37' fun _ _ => id, fun hne w45 X45 w44 X44 => ?_, fun h0 w50 X50 => ⟨by omega, by omega, fun w48 X48 => ?_⟩⟩
    all_goals have s37 := s32.trans s37'
    all_goals have gL : ∀ p ∈ L31, w.heap.size ≤ p := fun p hp => by have := (hp31 p hp).1; have := I.st.size; omega
    · have s45' := Step.joins X45 s37.ok (M32.step s37')
      have s45 := s37.trans' s45' fun i hi => .inr (gL i hi)
      have s44' := Step.stores X44 s45.ok ((((MQ32.step s37').step s45')).sub (M := [p4]) (by simp)) (by simp)
      have sF := s45.trans' s44' fun i hi => .inr (g i (by simp at hi ⊢; omega))
      rw [if_neg hne] at hgo
      rw [← hgo]
      exact ⟨_, _, _, rfl, sF, (((I.row.step s32').step s37').step s45').step s44', I.ok, I.cap⟩
    · have s50' := Step.joins X50 s37.ok (M32.step s37')
      have s50 := s37.trans' s50' fun i hi => .inr (gL i hi)
      have s48' := Step.stores X48 s50.ok ((((MQ32.step s37').step s50')).sub (M := [p12]) (by simp)) (by simp)
      have sF := s50.trans' s48' fun i hi => .inr (g i (by simp at hi ⊢; omega))
      rw [if_pos h0] at hgo
      exact ⟨m - 1, by omega, t + 1, (applyM s x.cg).1, a', c', _, rfl, by omega, ⟨hgo, applyM_ok I.ok h0, hc', sF, (r37.step s50').step s48', ((MQ32.step s37').step s50').step s48'⟩⟩
  · have htt : t = l.length := by omega
    have hgo := I.go
    rw [List.drop_eq_nil_of_le (by simp; omega)] at hgo
    have s52' := Step.stores X52 I.st.ok (I.mine.sub (M := [p4]) (by simp)) (by simp)
    have sF := I.st.trans' s52' fun i hi => .inr (g i (by simp at hi ⊢; omega))
    rw [← hgo]
    exact ⟨_, _, _, by subst htt; rfl, sF, I.row.step s52', I.ok, I.cap⟩
theorem Behind_spec (hr : Row w o la (l.flatMap CR.C)) (hg : wsOk w o l) (ok : Tags w o) (hl : l.length < 1000000) (pb : Int) :
    Calls Try.prog 24 #[.slice la l.length lc, .int .u64 pb] w (BehG w o (behindM (newM pb) (l.map CR.cg) 0)) := by
  refine members_Behind.go la l.length lc pb (R := BehR w o (behindM (newM pb) (l.map CR.cg) 0)) ?_
  unfold members_Behind.N
  intro w3 p4 X3 hp4
  obtain ⟨s3, M3⟩ := Step.priv X3 hp4 ok
  refine (New_spec s3.ok pb).mono fun x w8 ⟨o8, a8, c8, hx, s8', r8, hc8⟩ => ⟨_, _, _, _, hx, M3.keep s8' fun _ _ => id, fun w11 p12 X11 hp12 => ?_⟩
  have s8 := s3.trans s8'
  obtain ⟨s11', M11⟩ := Step.priv X11 hp12 s8.ok
  have s11 := s8.trans s11'
  have MQ := ((M3.step s8').step s11').app M11
  have g : ∀ p ∈ [p4, p12], w.heap.size ≤ p := fun p hp => by
    simp only [List.mem_cons, List.not_mem_nil, or_false] at hp
    rcases hp with rfl | rfl
    · exact (hp4 p (by simp)).1
    · have := (hp12 p (by simp)).1; have := s8.size; omega
  refine ⟨fun m vs w1 => ∃ (t : Nat) (s : MS) (a1 : Option Addr) (c1 : Nat) (o1 : Own), vs = [.int .i64 t, .slice none 0 0, .int .i64 0, .slice a1 s.ml.length c1, .int .i64 s.ep] ∧ m + t = l.length ∧ BI w o [p4, p12] l pb t s a1 c1 w1 o1, l.length, ⟨0, newM pb, a8, c8, _, rfl, rfl, ⟨rfl, newM_ok pb, hc8, s11, r8.step s11', MQ⟩⟩, ?_⟩
  rintro m w20 i0 za zn zc ze ra rn rc re ⟨t, s, a1, c1, o20, hi, hm, I⟩
  simp only [List.cons.injEq, Value.slice.injEq, Value.int.injEq, true_and, and_true] at hi
  obtain ⟨rfl, ⟨rfl, rfl, rfl⟩, rfl, ⟨rfl, rfl, rfl⟩, rfl⟩ := hi
  have hle := I.ok.le
  refine ⟨fun ht => ?_, fun ht w52 X52 => ?_⟩
  · have htl : t < l.length := by omega
    have hgt : l[t]? = some l[t] := List.getElem?_eq_getElem htl
    have hxg := (hg.step I.st) _ (List.getElem_mem htl)
    have hdr := List.drop_eq_getElem_cons (l := l.map CR.cg) (i := t) (by simpa using htl)
    rw [List.getElem_map] at hdr
    have hgo := I.go
    rw [hdr, behindM_cons] at hgo
    generalize l[t] = x at *
    obtain ⟨ad, rfl⟩ := hr.1.faddr CR.len (by decide) htl
    refine ⟨ad, rfl, by omega, by omega, x.kd, x.who, x.pub, x.lim, x.wa, x.l.length, x.wc, x.oa, x.old.length, x.oc, by rw [Int.toNat_natCast]; exact (hr.step I.st).1.floads CR.len hgt, fun w36 X36 => ?_⟩
    have s36' := Step.of_no X36 I.st.ok
    have s36 := I.st.trans s36'
    have MQ36 := I.mine.step s36'
    rw [CR.V]
    refine (Apply_spec (I.row.step s36') s36.ok I.ok (hxg.1.step s36') rfl hxg.2.1 hxg.2.2).mono fun e w42 ⟨o42, a', c', hx, s42', r42, hc'⟩ => ⟨_, _, _, _, _, hx, MQ36.keep s42' fun _ _ => id, fun hne w48 X48 => ?_, fun h0 => ⟨by omega, by omega, fun w51 X51 => ?_⟩⟩
    all_goals have s42 := s36.trans s42'
    · have s48' := Step.stores X48 s42.ok ((MQ36.step s42').sub (M := [p4]) (by simp)) (by simp)
      have sF := s42.trans' s48' fun i hi => .inr (g i (by simp at hi ⊢; omega))
      rw [if_neg hne] at hgo
      rw [← hgo]
      exact ⟨_, _, _, rfl, sF, ((I.row.step s36').step s42').step s48', I.ok, I.cap⟩
    · have s51' := Step.stores X51 s42.ok ((MQ36.step s42').sub (M := [p12]) (by simp)) (by simp)
      have sF := s42.trans' s51' fun i hi => .inr (g i (by simp at hi ⊢; omega))
      rw [if_pos h0] at hgo
      exact ⟨m - 1, by omega, t + 1, (applyM s x.cg).1, a', c', _, rfl, by omega, ⟨hgo, applyM_ok I.ok h0, hc', sF, r42.step s51', (MQ36.step s42').step s51'⟩⟩
  · have htt : t = l.length := by omega
    have hgo := I.go
    rw [List.drop_eq_nil_of_le (by simp; omega)] at hgo
    have s52' := Step.stores X52 I.st.ok (I.mine.sub (M := [p4]) (by simp)) (by simp)
    have sF := I.st.trans' s52' fun i hi => .inr (g i (by simp at hi ⊢; omega))
    rw [← hgo]
    exact ⟨_, _, _, by subst htt; rfl, sF, I.row.step s52', I.ok, I.cap⟩
end
end Go.Proofs.Ytmhfoieeldiecaa

/- MembersMay, MembersPlays. -/
set_option linter.unusedVariables false
set_option linter.unusedSimpArgs false
set_option maxRecDepth 20000
set_option maxHeartbeats 4000000
namespace Go.Proofs.Ytmhfoieeldiecaa
open Go Go.Mx Go.Proofs
open W (OwnB)
theorem inf36 : (Try.prog.info? 36).map (fun i => (i.zero, i.size, i.bytes)) = some (some (.agg #[.int .i64 0, .int .i64 0, .int .u64 0, .int .i64 0, .slice none 0 0, .slice none 0 0]), 6, 80) := by kernel_rfl
abbrev CRw (N : Nat) (w : World) (o : Own) (a : Option Addr) (c : Nat) (q : List CR) : Prop := LRow 36 6 N w o a q.length c (q.flatMap CR.C)
section
variable {w w' w1 : World} {o o' o1 : Own} {a b la : Option Addr} {c d N lc : Nat} {s t : MS} {m : Mem} {cg : Chg} {ml : List Mem} {l q : List CR} {pb : Int}
theorem CR.one (x : CR) : ∀ u ∈ x.C, u.oneCell' = true := fun u hu => by
  simp only [CR.C, List.mem_cons, List.not_mem_nil, or_false] at hu
  rcases hu with rfl | rfl | rfl | rfl | rfl | rfl <;> rfl
theorem CRw.push (h : CRw N w o a c q) (ok : Tags w o) (hl : q.length < 1000000) (y : CR) {p : Nat} (hb : Blk w p 36 y.C) (hq : N ≤ p) (hq' : p < w.heap.size) :
    ∃ a' n' c' w' o', (Builtin.append_ #[56, 56] 56 #[.slice a q.length c, .slice (some (blk p)) 1 1]).run Try.prog w = .ok (.slice a' n' c') w' ∧ n' = (q ++ [y]).length ∧ Step (fun j => N ≤ j) w o w' o' ∧ CRw N w' o' a' c' (q ++ [y]) := by
  obtain ⟨i, hi, hz, hsz, hby⟩ := info_of inf36
  obtain ⟨a', c', w', o', hrun, s2, hrow, _⟩ := LRow.push (ty := 56) Try.underlying56 hi hz hsz hby rfl (by decide) h ok hq hq' (xa := some (blk p)) (m := 1) (xc := 1) (news := y.C) rfl (RowAt.of_blk hb) y.one (by omega) (by omega)
  exact ⟨a', _, c', w', o', hrun, by simp, s2, by unfold CRw; rw [List.length_append, List.flatMap_append]; simpa using hrow⟩
/-- the program's changes so far. -/
structure AI (W : World) (N : Nat) (l : List CR) (t : Nat) (q : List CR) (a : Option Addr) (c : Nat) (w : World) (o : Own) : Prop where
  cg : q.map CR.cg = (l.take t).map CR.cg
  st : Step no W (fun _ => none) w o
  row : CRw N w o a c q
  ws : wsOk w o q
theorem noneOwn (w : World) : grow w (fun _ => none) = fun _ => none := by funext b; unfold grow; split <;> rfl
theorem wsOk.none {W : World} (h : wsOk w o q) : wsOk w (grow W fun _ => none) q := fun p hp => ⟨⟨(h p hp).1.1, fun _ ad ha => by rw [noneOwn]⟩, (h p hp).2⟩
theorem AI.len {W : World} {t : Nat} (h : AI W N l t q a c w o) (ht : t ≤ l.length) : q.length = t := by
  have := congrArg List.length h.cg
  simp at this; omega
end
end Go.Proofs.Ytmhfoieeldiecaa

/- MembersPlays. -/
set_option linter.unusedVariables false
set_option linter.unusedSimpArgs false
set_option maxRecDepth 20000
set_option maxHeartbeats 4000000
namespace Go.Proofs.Ytmhfoieeldiecaa
open Go Go.Mx Go.Proofs
open W (OwnB)
section
variable {w w' w1 : World} {o o' o1 : Own} {a b la : Option Addr} {c d N lc : Nat} {s t : MS} {m : Mem} {cg : Chg} {ml : List Mem} {l q : List CR} {pb : Int}
theorem apply_bad (h : (applyM s cg).2 ≠ 0) : (applyM s cg).1 = MS.z := by
  revert h
  unfold applyM inviteM revokeM beginM
  (repeat' split) <;> intro h <;> first | rfl | exact absurd rfl h
theorem applyM_le (hs : s.ok) : (applyM s cg).1.ml.length ≤ 8 := by
  by_cases h : (applyM s cg).2 = 0
  · exact (applyM_ok hs h).le
  · rw [apply_bad h]; exact Nat.zero_le _
/-- two states alike, in memory. -/
structure PI (N : Nat) (Q : List Nat) (s : MS) (a : Option Addr) (b : Option Addr) (d : Nat) (w : World) (o : Own) : Prop where
  ra : Row w o a (s.ml.flatMap Mem.C)
  rb : Row w o b (s.ml.flatMap Mem.C)
  ok : s.ok
  cap : s.ml.length ≤ d
  mine : Mine Q w o
  sz : N ≤ w.heap.size
theorem MembersPlays_spec (W : World) {who : Int} (hl : RowAt W la (l.flatMap CR.C)) (hlg : ∀ p ∈ l, p.good W) :
    Calls Try.prog 5 #[.int .u64 pb, .slice la l.length lc, .int .i64 who] W (Ret (.bool true) fun w' => Ext no W w') := by
  refine cachettelaw12_MembersPlays.run _ _ _ _ _ ?_
  unfold cachettelaw12_MembersPlays.N
  refine (light12_spec hl (fun p hp => (hlg p hp).ws)).mono fun e w8 ⟨he, hw⟩ => ⟨_, he, fun _ => ?_, fun hL => ?_⟩
  · subst hw
    exact (alive12_spec _).mono fun e w9 ⟨he, X⟩ => ⟨_, he, rfl, X⟩
  subst hw
  obtain ⟨hl1, hl2⟩ := light12_of hL
  have ok0 : Tags w8 (fun _ => none) := fun b j _ h => by cases h
  have fin : ∀ {w1 w' : World} {o1 : Own}, Step no w8 (fun _ => none) w1 o1 → Ext no w1 w' → Ext no w8 w' := fun s X => (s.ext.mono fun b ⟨_, _, h⟩ _ => h).trans X
  have hlw : wsOk w8 (fun _ => none) l := fun p hp => ⟨noW12 (hlg p hp).ws, by have := hl2 p hp; omega, by have := hl2 p hp; omega⟩
  have hlr := noW12 hl
  refine (New_spec ok0 pb).mono fun x w14 ⟨o14, a14, c14, hx, s14, r14, _⟩ => ⟨_, _, _, _, hx, ?_⟩
  refine (rNew_spec s14.ok pb).mono fun x w18 ⟨o18, a18, c18, hx, s18', r18, hc18⟩ => ⟨_, _, _, _, hx, fun w24 p25 p26 X24 hp24 => ?_⟩
  have s18 := s14.trans s18'
  obtain ⟨s24', M24⟩ := Step.priv X24 hp24 s18.ok
  have s24 := s18.trans s24'
  have hz8 := s18.size
  have g25 : ∀ p ∈ [p25, p26], w8.heap.size ≤ p := fun p h => by have := (hp24 p h).1; omega
  have m24 : ∀ p ∈ [p25, p26], p < w24.heap.size := fun p h => M24.lt h
  have hz24 := s24.size
  refine ⟨fun m vs w1 => ∃ (t : Nat) (q : List CR) (s : MS) (a1 a2 a3 : Option Addr) (c1 c2 c3 : Nat) (o1 : Own), vs = [.slice a1 q.length c1, .int .i64 t, .slice a2 s.ml.length c2, .int .i64 s.ep, .slice a3 s.ml.length c3, .int .i64 s.ep] ∧ m + t = l.length ∧ AI w8 w24.heap.size l t q a1 c1 w1 o1 ∧ PI w24.heap.size [p25, p26] s a2 a3 c3 w1 o1, l.length, ⟨0, [], newM pb, none, a14, a18, 0, c14, c18, _, rfl, rfl, ⟨rfl, s24, LRow.nil _ _ _ _ _, fun p hp => absurd hp (by simp)⟩, ⟨(r14.step s18').step s24', r18.step s24', newM_ok pb, hc18, M24, Nat.le_refl _⟩⟩, ?_⟩
  intro m w35 ra rn rc i0 sa sn sc se ta tn tc te hI
  obtain ⟨t, q, s, a1, a2, a3, c1, c2, c3, o35, hi, hm, I, J⟩ := hI
  simp only [List.cons.injEq, Value.slice.injEq, Value.int.injEq, true_and, and_true] at hi
  obtain ⟨⟨rfl, rfl, rfl⟩, rfl, ⟨rfl, rfl, rfl⟩, rfl, ⟨rfl, rfl, rfl⟩, rfl⟩ := hi
  have hqt := I.len (by omega)
  have hle := J.ok.le
  refine ⟨fun ht => ?_, fun ht => ?_⟩
  · have htl : t < l.length := by omega
    have hg : l[t]? = some l[t] := List.getElem?_eq_getElem htl
    have htk : l.take (t + 1) = l.take t ++ [l[t]] := by rw [List.take_add_one, hg]; rfl
    have hxg := (hlw.step I.st) _ (List.getElem_mem htl)
    have hlx := hlr.step I.st
    generalize l[t] = x at *
    obtain ⟨ad, rfl⟩ := hl.faddr CR.len (by decide) htl
    refine ⟨ad, rfl, by omega, by omega, x.kd, x.who, x.pub, x.lim, x.wa, x.l.length, x.wc, x.oa, x.old.length, x.oc, by rw [Int.toNat_natCast]; exact hlx.1.floads CR.len hg, ?_⟩
    rw [CR.V]
    refine (Own_spec I.st.ok hxg.1 rfl hxg.2.1).mono fun v w34 ⟨o34, wa', wc', he, s34', rw', _⟩ => ⟨_, _, _, _, _, _, _, _, _, _, he, J.mine.keep s34' fun _ _ => id, fun w53 q54 X53 hb hq hq' => ?_⟩
    have e1 : x.cg.ws.length = x.l.length := by simp [CR.cg]
    rw [e1] at hb
    have s53' := Step.of_no X53 s34'.ok
    have s3553 := s34'.trans s53'
    have r53 : CRw w24.heap.size w53 _ ra rc q := LRow.step (LRow.step I.row s34' fun k h => h.elim) s53' fun k h => h.elim
    have h34 := s34'.size
    have h2435 := J.sz
    obtain ⟨a', n', c', w56, o56, hrun, hn', s56', hrow⟩ := r53.push s53'.ok (by omega) { x with wa := wa', wc := wc' } hb (by omega) hq'
    subst hn'
    have s5356 := s56'
    have M53 := J.mine.step s3553
    have s53 := I.st.trans s3553
    have s56 : Step no w8 (fun _ => none) w56 o56 := s53.trans' s56' fun i hi => .inr (by omega)
    have M56 := M53.step s56'
    have hyr := hrow.row
    have hlast : (q ++ [({ x with wa := wa', wc := wc' } : CR)])[t]? = some { x with wa := wa', wc := wc' } := by rw [← hqt]; simp
    have hws56 : wsOk w56 o56 (q ++ [{ x with wa := wa', wc := wc' }]) := fun p hp => by
      rcases List.mem_append.1 hp with h | h
      · exact ((I.ws.step s3553).step s56') p h
      · simp at h; subst h
        exact ⟨((rw'.step s53').step s56'), hxg.2⟩
    have hcg1 : (q ++ [({ x with wa := wa', wc := wc' } : CR)]).map CR.cg = (l.take (t + 1)).map CR.cg := by rw [htk, List.map_append, List.map_append, I.cg]; rfl
    have ryw := (hws56 { x with wa := wa', wc := wc' } (by simp)).1
    have hql1 : (q ++ [({ x with wa := wa', wc := wc' } : CR)]).length = t + 1 := by simp; omega
    obtain ⟨yd, rfl⟩ := hyr.faddr CR.len (by decide) (i := t) (by omega)
    refine ⟨_, _, _, _, hrun, (M53.keep s56' fun p hp h => by have := m24 p hp; omega), yd, rfl, by omega, by omega, x.kd, x.who, x.pub, x.lim, wa', x.l.length, wc', x.oa, x.old.length, x.oc, by rw [Int.toNat_natCast]; exact hyr.floads CR.len hlast, fun w67 L66 X67 hp66 => ?_⟩
    have hycg : CR.cg { x with wa := wa', wc := wc' } = x.cg := rfl
    have hh56 : w24.heap.size ≤ w56.heap.size := by have := s56'.size; omega
    have ra56 := (J.ra.step s3553).step s56'
    have rb56 := (J.rb.step s3553).step s56'
    have hlx56 := (hlx.step s3553).step s56'
    have hxw56 := (hxg.1.step s3553).step s56'
    generalize q ++ [({ x with wa := wa', wc := wc' } : CR)] = q1 at *
    obtain ⟨s67', M67⟩ := Step.priv X67 hp66 s56.ok
    have e2 : Value.agg #[.int .i64 x.kd, .int .i64 x.who, .int .u64 x.pub, .int .i64 x.lim, .slice wa' x.l.length wc', .slice x.oa x.old.length x.oc] = chgV x.cg wa' wc' x.oa x.oc := by unfold chgV CR.cg; simp
    rw [e2]
    refine (Apply_spec (ra56.step s67') s67'.ok J.ok (ryw.step s67') rfl hxg.2.1 hxg.2.2).mono fun e w72 ⟨o72, na, nc, he, s72', r72, _⟩ => ⟨_, _, _, _, _, he, M67.keep s72' fun _ _ => id, (M56.step s67').keep s72' fun _ _ => id, by omega, by omega, fun w247 p77 X247 hp77 => ?_⟩
    obtain ⟨s247', M247⟩ := Step.join X247 s72'.ok (M67.step s72') hp77
    have s247 := (s67'.trans s72').trans' s247' fun i hi => .inr (hp66 i hi).1
    refine ⟨x.kd, x.who, x.pub, x.lim, x.wa, x.l.length, x.wc, x.oa, x.old.length, x.oc, by rw [Int.toNat_natCast]; exact (hlx56.step s247).1.floads CR.len hg, fun w86 L85 X86 hp85 => ?_⟩
    obtain ⟨s86', M86⟩ := Step.priv X86 hp85 s247.ok
    have s86 := s247.trans s86'
    have M3 := ((M56.step s247).app M247).step s86'
    rw [CR.V]
    refine (rApply_spec (rb56.step s86) s86.ok J.ok J.cap (hxw56.step s86) rfl hxg.2.1 hxg.2.2).mono fun e w91 ⟨o91, ma, mc, he, s91', r91, hmc⟩ => ⟨_, _, _, _, _, he, M86.keep s91' fun _ _ => id, M3.keep s91' fun _ _ => id, fun h => absurd rfl h, fun _ w246 p99 X246 hp99 => ?_⟩
    have s91 := s86.trans s91'
    obtain ⟨s246', M246⟩ := Step.join X246 s91.ok (M86.step s91') hp99
    have h56247 := s247.size
    have s246 := s91.trans' s246' fun i hi => .inr (by have := (hp85 i hi).1; omega)
    have M4 := ((M3.step s91').step s246').app M246
    have s247246 := (s86'.trans s91').trans' s246' fun i hi => .inr (hp85 i hi).1
    have rn246 := (r72.step s247').step s247246
    have rm246 := r91.step s246'
    have hleN := applyM_le (cg := x.cg) J.ok
    refine (State_spec rn246 s246.ok (by omega)).mono fun e w103 ⟨o103, za, zc, he, s103', rz, _⟩ => ⟨_, _, _, _, he, M4.keep s103' fun _ _ => id, ?_⟩
    refine (refSame_spec (s := (applyM s x.cg).1) (t := (applyM s x.cg).1) rz.1 (rm246.step s103').1 (by omega)).mono fun e w106 ⟨he, X106⟩ => ⟨_, he, X106.kept, fun h => absurd h (by simp), fun _ => ?_⟩
    have s106' := Step.of_no X106 s103'.ok
    have s106 := (s246.trans s103').trans s106'
    have M106 := ((M4.step s103').step s106').sub (M := [p25, p26]) (by simp)
    have rn106 := (rn246.step s103').step s106'
    have rm106 := (rm246.step s103').step s106'
    have sz106 : w24.heap.size ≤ w106.heap.size := Nat.le_trans hh56 s106.size
    refine ⟨fun h0 w113 X113 => ?_, fun hne => ?_⟩
    · have s113' := Step.stores X113 s106.ok M106 (by simp [or_comm])
      have okN := applyM_ok J.ok h0
      have sB := (s56.trans s106).trans' s113' fun i hi => .inr (g25 i hi)
      have raB := rn106.step s113'
      have rbB := rm106.step s113'
      have MB := M106.step s113'
      have capB := hmc
      have szB := Nat.le_trans sz106 s113'.size
      have rowB : CRw w24.heap.size w113 _ _ _ q1 := LRow.step (LRow.step hrow s106 fun k h => h.elim) s113' fun k hk => .inl (m24 k hk)
      have wsB := (hws56.step s106).step s113'
      generalize (applyM s x.cg).1 = sN at *
      have hleB := okN.le
      refine (Find_spec raB sB.ok okN.sorted (by omega) sN.ep who).mono fun e w121 ⟨he, o121, s121'⟩ => ⟨_, _, _, _, _, _, he, MB.keep s121' fun _ _ => id, fun w127 p128 X127 hp128 => ?_⟩
      obtain ⟨s127', M127⟩ := Step.priv X127 hp128 s121'.ok
      have s127 := s121'.trans s127'
      have M127b := (MB.step s127).app M127
      refine (rFind_spec (rbB.step s127) s127.ok okN.sorted (by omega) sN.ep who).mono fun e w136 ⟨he, o136, s136'⟩ => ⟨_, _, _, _, _, _, he, M127b.keep s136' fun _ _ => id, fun w143 p144 X143 hp144 => ?_⟩
      obtain ⟨s143', M143⟩ := Step.priv X143 hp144 s136'.ok
      have s143 := (s127.trans s136').trans s143'
      have M143b := ((M127b.step s136').step s143').app M143
      refine (Now_spec (raB.step s143) s143.ok (by omega) sN.ep).mono fun e w147 ⟨o147, va, vc, he, s147', rv, _⟩ => ⟨_, _, _, he, M143b.keep s147' fun _ _ => id, ?_⟩
      have s147 := s143.trans s147'
      refine (rNow_spec (rbB.step s147) s147.ok (by omega) sN.ep).mono fun e w150 ⟨o150, ua, uc, he, s150', ru, _⟩ => ⟨_, _, _, he, (M143b.step s147').keep s150' fun _ _ => id, ?_⟩
      have s150 := s147.trans s150'
      have rv150 := rv.step s150'
      refine ⟨fun h => absurd ⟨rfl, rfl, rfl, rfl, rfl⟩ h, fun _ => ⟨fun h => absurd rfl h, fun _ => ⟨fun h => absurd rfl h, fun _ w152 X152 => ?_⟩⟩⟩
      have s152 := s150.trans (Step.of_no X152 s150.ok)
      have hnl : (nowM sN.ml).length ≤ sN.ml.length := List.length_filter_le _ _
      refine ⟨fun m2 vs w1 => ∃ (u : Nat) (o1 : Own), vs = [.int .i64 u] ∧ m2 + u = (nowM sN.ml).length ∧ Step no w150 o150 w1 o1, (nowM sN.ml).length, ⟨0, _, rfl, rfl, Step.of_no X152 s150.ok⟩, ?_⟩
      rintro m2 w159 k0 ⟨u, o159, hi, hm2, s159⟩
      simp only [List.cons.injEq, Value.int.injEq, true_and, and_true] at hi
      subst hi
      refine ⟨fun hu => ?_, fun hu => ?_⟩
      · have hul : u < (nowM sN.ml).length := by omega
        have hgu : (nowM sN.ml)[u]? = some (nowM sN.ml)[u] := List.getElem?_eq_getElem hul
        generalize (nowM sN.ml)[u] = y at *
        obtain ⟨vd, rfl⟩ := rv.1.faddr Mem.len (by decide) hul
        obtain ⟨ud, rfl⟩ := ru.1.faddr Mem.len (by decide) hul
        exact ⟨vd, rfl, by omega, by omega, y.who, y.pub, y.fr, y.to_, y.lim, by rw [Int.toNat_natCast]; exact (rv150.step s159).1.floads Mem.len hgu, ud, rfl, by omega, by omega, y.who, y.pub, y.fr, y.to_, y.lim, by rw [Int.toNat_natCast]; exact (ru.step s159).1.floads Mem.len hgu, fun h => absurd ⟨rfl, rfl, rfl, rfl, rfl⟩ h, fun _ => ⟨by omega, by omega, fun w176 X176 => ⟨m2 - 1, by omega, u + 1, _, rfl, by omega, s159.trans (Step.of_no X176 s159.ok)⟩⟩⟩
      · have sZ := s150.trans s159
        exact ⟨by omega, by omega, m - 1, by omega, t + 1, q1, sN, _, _, _, _, _, _, _, rfl, by omega, ⟨hcg1, sB.trans sZ, LRow.step rowB sZ fun k h => h.elim, wsB.step sZ⟩, ⟨raB.step sZ, rbB.step sZ, okN, capB, MB.step sZ, Nat.le_trans szB sZ.size⟩⟩
    · have sB := s56.trans s106
      have okN := J.ok
      have raB := ra56.step s106
      have rbB := rb56.step s106
      have MB := M106
      have capB := J.cap
      have szB := sz106
      have rowB : CRw w24.heap.size w106 _ _ _ q1 := LRow.step hrow s106 fun k h => h.elim
      have wsB := hws56.step s106
      have hleB := okN.le
      refine (Find_spec raB sB.ok okN.sorted (by omega) s.ep who).mono fun e w121 ⟨he, o121, s121'⟩ => ⟨_, _, _, _, _, _, he, MB.keep s121' fun _ _ => id, fun w127 p128 X127 hp128 => ?_⟩
      obtain ⟨s127', M127⟩ := Step.priv X127 hp128 s121'.ok
      have s127 := s121'.trans s127'
      have M127b := (MB.step s127).app M127
      refine (rFind_spec (rbB.step s127) s127.ok okN.sorted (by omega) s.ep who).mono fun e w136 ⟨he, o136, s136'⟩ => ⟨_, _, _, _, _, _, he, M127b.keep s136' fun _ _ => id, fun w143 p144 X143 hp144 => ?_⟩
      obtain ⟨s143', M143⟩ := Step.priv X143 hp144 s136'.ok
      have s143 := (s127.trans s136').trans s143'
      have M143b := ((M127b.step s136').step s143').app M143
      refine (Now_spec (raB.step s143) s143.ok (by omega) s.ep).mono fun e w147 ⟨o147, va, vc, he, s147', rv, _⟩ => ⟨_, _, _, he, M143b.keep s147' fun _ _ => id, ?_⟩
      have s147 := s143.trans s147'
      refine (rNow_spec (rbB.step s147) s147.ok (by omega) s.ep).mono fun e w150 ⟨o150, ua, uc, he, s150', ru, _⟩ => ⟨_, _, _, he, (M143b.step s147').keep s150' fun _ _ => id, ?_⟩
      have s150 := s147.trans s150'
      have rv150 := rv.step s150'
      refine ⟨fun h => absurd ⟨rfl, rfl, rfl, rfl, rfl⟩ h, fun _ => ⟨fun h => absurd rfl h, fun _ => ⟨fun h => absurd rfl h, fun _ w152 X152 => ?_⟩⟩⟩
      have s152 := s150.trans (Step.of_no X152 s150.ok)
      have hnl : (nowM s.ml).length ≤ s.ml.length := List.length_filter_le _ _
      refine ⟨fun m2 vs w1 => ∃ (u : Nat) (o1 : Own), vs = [.int .i64 u] ∧ m2 + u = (nowM s.ml).length ∧ Step no w150 o150 w1 o1, (nowM s.ml).length, ⟨0, _, rfl, rfl, Step.of_no X152 s150.ok⟩, ?_⟩
      rintro m2 w159 k0 ⟨u, o159, hi, hm2, s159⟩
      simp only [List.cons.injEq, Value.int.injEq, true_and, and_true] at hi
      subst hi
      refine ⟨fun hu => ?_, fun hu => ?_⟩
      · have hul : u < (nowM s.ml).length := by omega
        have hgu : (nowM s.ml)[u]? = some (nowM s.ml)[u] := List.getElem?_eq_getElem hul
        generalize (nowM s.ml)[u] = y at *
        obtain ⟨vd, rfl⟩ := rv.1.faddr Mem.len (by decide) hul
        obtain ⟨ud, rfl⟩ := ru.1.faddr Mem.len (by decide) hul
        exact ⟨vd, rfl, by omega, by omega, y.who, y.pub, y.fr, y.to_, y.lim, by rw [Int.toNat_natCast]; exact (rv150.step s159).1.floads Mem.len hgu, ud, rfl, by omega, by omega, y.who, y.pub, y.fr, y.to_, y.lim, by rw [Int.toNat_natCast]; exact (ru.step s159).1.floads Mem.len hgu, fun h => absurd ⟨rfl, rfl, rfl, rfl, rfl⟩ h, fun _ => ⟨by omega, by omega, fun w176 X176 => ⟨m2 - 1, by omega, u + 1, _, rfl, by omega, s159.trans (Step.of_no X176 s159.ok)⟩⟩⟩
      · have sZ := s150.trans s159
        exact ⟨by omega, by omega, m - 1, by omega, t + 1, q1, s, _, _, _, _, _, _, _, rfl, by omega, ⟨hcg1, sB.trans sZ, LRow.step rowB sZ fun k h => h.elim, wsB.step sZ⟩, ⟨raB.step sZ, rbB.step sZ, okN, capB, MB.step sZ, Nat.le_trans szB sZ.size⟩⟩
  · have htt : t = l.length := by omega
    have hcg : q.map CR.cg = l.map CR.cg := by rw [I.cg, htt, List.take_length]
    have sg := noStep (K := no) I.st
    have hB := Behind_spec (lc := rc) (I.row.give I.st (by omega)) (I.ws.none (W := w8)) sg.ok (by omega) pb
    rw [hcg] at hB
    refine hB.mono fun e w253 ⟨v, he, o253, a', c', hv, s253', r253, k253, c253⟩ => ?_
    subst hv
    have s253 := sg.trans s253'
    refine ⟨_, _, _, _, _, _, he, fun w256 p257 X256 hp257 => ?_⟩
    obtain ⟨s256', M256⟩ := Step.priv X256 hp257 s253.ok
    have s256 := s253.trans s256'
    refine (rBehind_spec (lc := lc) (hlr.step s256) (hlw.step s256) s256'.ok (by omega) pb).mono fun e w263 ⟨v, he, o263, b', d', hv, s263', r263, k263, c263⟩ => ?_
    subst hv
    have s263 := s256.trans s263'
    have r253' := (r253.step s256').step s263'
    generalize behindM (newM pb) (l.map CR.cg) 0 = r at *
    refine ⟨_, _, _, _, _, _, he, M256.keep s263' fun _ _ => id, fun w267 p268 X267 hp268 => ?_⟩
    obtain ⟨s267', M267⟩ := Step.priv X267 hp268 s263.ok
    have hleR := k263.le
    refine (State_spec (r253'.step s267') s267'.ok (by omega)).mono fun e w272 ⟨o272, za, zc, he, s272', rz, _⟩ => ⟨_, _, _, _, he, M267.keep s272' fun _ _ => id, ?_⟩
    have s272 := (s263.trans s267').trans s272'
    refine (refSame_spec (s := r.1) (t := r.1) rz.1 ((r263.step s267').step s272').1 (by omega)).mono fun e w275 ⟨he, X275⟩ => ⟨_, he, fun _ => ⟨fun _ => ⟨fun _ => ?_, fun h => absurd rfl h⟩, fun h => absurd rfl h⟩, fun h => absurd h (by simp)⟩
    exact (alive12_spec _).mono fun e w281 ⟨he, X⟩ => ⟨_, he, rfl, fin s272 (X275.trans X)⟩
theorem MembersPlays_walk (W : World) (n0 : Int) (a1 : Option Addr) (len1 cap1 : Nat) (n2 : Int) (w0 : (Lit.int .u64 n0).wf = true) (o1 : CRsQ W [.slice a1 len1 cap1]) (w2 : (Lit.int .i64 n2).wf = true) :
    Calls Try.prog 5 #[.int .u64 n0, .slice a1 len1 cap1, .int .i64 n2] W (Ret (.bool true) fun w' => Ext no W w') := by
  obtain ⟨_, c1, l, e1, q1, q2, r1, f1⟩ := o1
  cases e1
  exact MembersPlays_spec W r1 f1
end
end Go.Proofs.Ytmhfoieeldiecaa
