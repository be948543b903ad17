/- Members: invite, revoke, begin, and Apply. -/
import Derived.Test.YtaifegpikhjiiaaZB
import Derived.Test.YtaifegpikhjiiaaZA
import Derived.KernelRfl
set_option linter.unusedVariables false
set_option linter.unusedSimpArgs false
set_option maxRecDepth 20000
set_option maxHeartbeats 2000000
namespace Go.Proofs.Ytaifegpikhjiiaa
open Go Go.Mx Go.Proofs
open W (OwnB)
structure MS where
  ml : List Mem
  ep : Int
def MS.z : MS := ⟨[], 0⟩
def inviteM (s : MS) (c : Chg) : MS × Int := if isAt s.ml c.who = true then (MS.z, 13) else (⟨s.ml.take (findI s.ml c.who) ++ ⟨c.who, c.pub, s.ep + 1, -1, 0⟩ :: s.ml.drop (findI s.ml c.who), s.ep⟩, 0)
def revokeM (s : MS) (c : Chg) : MS × Int :=
  if isAt s.ml c.who = true then
    (match s.ml[findI s.ml c.who]? with
     | some m => if m.to_ = -1 then (⟨s.ml.set (findI s.ml c.who) { m with to_ := if s.ep < 0 then -2 else s.ep, lim := c.lim }, s.ep⟩, 0) else (MS.z, 10)
     | none => (MS.z, 20))
  else (MS.z, 20)
def nowM (l : List Mem) : List Mem := l.filter fun m => decide (m.to_ = -1)
def beginM (s : MS) (c : Chg) : MS × Int :=
  if s.ep + 1 ≥ 20 then (MS.z, 2) else if ((c.old.length : Int) == 0) = decide (s.ep < 0) then (if (nowM s.ml).map Mem.who = c.ws.map Prod.fst then (⟨s.ml, s.ep + 1⟩, 0) else (MS.z, 10)) else (MS.z, 10)
def applyM (s : MS) (c : Chg) : MS × Int := if rightM c = true then (if c.kd = 1 then inviteM s c else if c.kd = 2 then revokeM s c else beginM s c) else (MS.z, 1)
structure MS.ok (s : MS) : Prop where
  sorted : Sorted s.ml
  who : ∀ m ∈ s.ml, 0 ≤ m.who ∧ m.who < 8
  ep0 : -1 ≤ s.ep
  ep1 : s.ep < 20
theorem MS.ok.le {s : MS} (h : s.ok) : s.ml.length ≤ 8 := by
  have key : ∀ (i : Nat) (m : Mem), s.ml[i]? = some m → (i : Int) ≤ m.who := by
    intro i
    induction i with
    | zero => intro m hm; exact (h.who m (List.mem_of_getElem? hm)).1
    | succ i ih =>
      intro m hm
      have hi : i < s.ml.length := by have := (List.getElem?_eq_some_iff.1 hm).1; omega
      have h1 := ih _ (List.getElem?_eq_getElem hi)
      have h2 := h.sorted.get (List.getElem?_eq_getElem hi) hm (by omega)
      omega
  by_cases h0 : s.ml.length = 0
  · omega
  · have hi : s.ml.length - 1 < s.ml.length := by omega
    have h1 := key _ _ (List.getElem?_eq_getElem hi)
    have h2 := (h.who _ (List.getElem_mem hi)).2
    omega
def MsG (w : World) (o : Own) (r : MS × Int) (x : Ending) (w' : World) : Prop := ∃ o' a' c', x = .returned (.tuple #[.agg #[.slice a' r.1.ml.length c', .int .i64 r.1.ep], .int .i64 r.2]) ∧ Step no w o w' o' ∧ Row w' o' a' (r.1.ml.flatMap Mem.C) ∧ r.1.ml.length ≤ c'
def MsR (w : World) (o : Own) (r : MS × Int) (v : Value) (w' : World) : Prop := ∃ o' a' c', v = (.tuple #[.agg #[.slice a' r.1.ml.length c', .int .i64 r.1.ep], .int .i64 r.2]) ∧ Step no w o w' o' ∧ Row w' o' a' (r.1.ml.flatMap Mem.C) ∧ r.1.ml.length ≤ c'
section
variable {w w' w1 : World} {o o' o1 : Own} {a : Option Addr} {c N : Nat} {l : List Wr} {ml : List Mem} {cs : List Value} {s : MS} {cg : Chg} {wa oa : Option Addr} {wc oc : Nat}
theorem MsR.zero (s1 : Step no w o w1 o1) (cd : Int) : MsR w o (MS.z, cd) (.tuple #[.agg #[.slice none 0 0, .int .i64 0], .int .i64 cd]) w1 := ⟨o1, none, 0, rfl, s1, Row.nil _ _ _, Nat.le_refl _⟩
theorem MsR.of {r : MS × Int} {v : Value} (h : MsR w o r v w') {x : Ending} (hx : x = .returned v) : MsG w o r x w' := by
  obtain ⟨o', a', c', hv, h⟩ := h
  exact ⟨o', a', c', by rw [hx, hv], h⟩
theorem noStep {K : Nat → Prop} (h : Step no w o w1 o1) : Step no w o w1 (grow w o) := Step.of_no (h.ext.mono fun b ⟨_, _, h⟩ _ => h) h.ok0
theorem invite_spec (hr : Row w o a (s.ml.flatMap Mem.C)) (ok : Tags w o) (hs : s.ok) :
    Calls Try.prog 36 #[.agg #[.slice a s.ml.length c, .int .i64 s.ep], chgV cg wa wc oa oc] w (MsG w o (inviteM s cg)) := by
  have hle := hs.le
  have h0 := hs.ep0
  have h1 := hs.ep1
  refine (members_State_invite.go a s.ml.length c s.ep cg.kd cg.who cg.pub cg.lim wa cg.ws.length wc oa cg.old.length oc (R := MsR w o (inviteM s cg)) ?_).mono fun x w' ⟨v, he, h⟩ => h.of he
  unfold members_State_invite.N
  intro w11 p12 p13 p14 X11 hp
  obtain ⟨s11, M11⟩ := Step.priv X11 hp ok
  have g : ∀ p ∈ [p12, p13, p14], w.heap.size ≤ p := fun p h => (hp p h).1
  refine (find_spec (hr.step s11).1 hs.sorted (by omega) s.ep cg.who).mono fun x w18 ⟨he, X18⟩ => ⟨_, _, he, X18.kept, fun hf w21 X21 => ?_, fun hf => ⟨by omega, by omega, fun w22 X22 => ?_, fun w23 q24 X23 hb23 hq hq' => ?_⟩⟩
  all_goals have s18' := Step.of_no X18 s11.ok
  all_goals have s18 := s11.trans s18'
  all_goals have M18 := M11.step s18'
  · have s21 := Step.stores X21 s18'.ok (M18.sub (M := [p14]) (by simp)) (by simp)
    unfold inviteM; rw [if_pos hf]
    exact MsR.zero (s18.trans' s21 fun i hi => .inr (g i (by simp at hi ⊢; omega))) 13
  · have s22' := Step.of_no X22 s18'.ok
    have s22 := s18.trans s22'
    refine (Clone_spec s22.ok (hr.step s22).1 (by omega)).mono fun x w25 ⟨o25, ca, cc, he, s25, r25⟩ => ⟨_, _, _, he, (M18.step s22').keep s25 fun _ _ => id, fun w26 q27 X26 hb hq hq' => ?_⟩
    have s26 := Step.of_no X26 s25.ok
    have r26 := r25.step s26 fun k h => h.elim
    have l22 := s22.size
    have l25 := s25.size
    refine (Insert_spec (N := w22.heap.size) r26 s26.ok (by omega) (findI_le s.ml cg.who) ⟨cg.who, cg.pub, s.ep + 1, -1, 0⟩ hb (by omega) hq' (grow_ge hq)).mono fun x w30 ⟨o30, ia, ic, he, s30, r30⟩ => ⟨_, _, _, he, ?_, fun w33 X33 => ?_⟩
    · refine ((((M18.step s22').step s25).step s26).sub (M := [p12, p14]) (by simp)).keep s30 fun p hp' => ?_
      have := (M18.step s22').lt (p := p) (by simp at hp' ⊢; omega)
      omega
    · have s33 := Step.stores X33 s30.ok (((((M18.step s22').step s25).step s26).step s30).sub (M := [p12, p14]) (by simp)) (by simp [or_comm])
      have sA : Step no w o w30 o30 := ((s22.trans s25).trans s26).trans' s30 fun i hi => .inr (by omega)
      have sB : Step no w o w33 _ := sA.trans' s33 fun i hi => .inr (g i (by simp at hi ⊢; omega))
      have r33 := r30.step s33 fun k hk => .inl ((M18.step s22').lt (p := k) (by simp at hk ⊢; omega))
      unfold inviteM; rw [if_neg (by rw [hf]; decide)]
      refine ⟨_, ia, ic, ?_, noStep (K := no) sB, r33.give sB (by omega), r33.le⟩
      have hfi := findI_le s.ml cg.who
      have hnl : (s.ml.take (findI s.ml cg.who) ++ (⟨cg.who, cg.pub, s.ep + 1, -1, 0⟩ : Mem) :: s.ml.drop (findI s.ml cg.who)).length = s.ml.length + 1 := by simp; omega
      show _ = Value.tuple #[.agg #[.slice ia (s.ml.take (findI s.ml cg.who) ++ (⟨cg.who, cg.pub, s.ep + 1, -1, 0⟩ : Mem) :: s.ml.drop (findI s.ml cg.who)).length ic, .int .i64 s.ep], .int .i64 0]
      rw [hnl]
  · have s23' := Step.of_no X23 s18'.ok
    have s23 := s18.trans s23'
    refine (Clone_spec s23.ok (hr.step s23).1 (by omega)).mono fun x w27 ⟨o27, ca, cc, he, s27, r27⟩ => ⟨_, _, _, he, ((M18.step s23').sub (M := [p12, p14]) (by simp)).keep s27 fun _ _ => id, ?_⟩
    have l18 := s18.size
    have hb27 : Blk w27 q24 70 [.int .i64 cg.who, .int .u64 cg.pub, .int .i64 (s.ep + 1), .int .i64 (-1), .int .i64 0] := by
      have := s27.at hq' (fun k hk => id)
      unfold Blk at hb23 ⊢; rw [this]; exact hb23
    have hqo : o27 q24 = none := by rw [s27.own hq']; exact grow_ge hq
    have hM24 : ∀ p ∈ [p12, p14], p < w18.heap.size := fun p hp' => M18.lt (p := p) (by simp at hp' ⊢; omega)
    have r27' : MRow w18.heap.size w27 o27 ca cc s.ml := by
      rcases r27 with h | ⟨k, h1, h2, h⟩
      · exact .inl h
      · exact .inr ⟨k, by have := X23.size; omega, h2, h⟩
    refine (Insert_spec (N := w18.heap.size) r27' s27.ok (by omega) (findI_le s.ml cg.who) ⟨cg.who, cg.pub, s.ep + 1, -1, 0⟩ hb27 hq (Nat.lt_of_lt_of_le hq' s27.size) hqo).mono fun x w30 ⟨o30, ia, ic, he, s30, r30⟩ => ⟨_, _, _, he, ?_, fun w33 X33 => ?_⟩
    · refine (((M18.step s23').step s27).sub (M := [p12, p14]) (by simp)).keep s30 fun p hp' => ?_
      have := hM24 p hp'
      omega
    · have s33 := Step.stores X33 s30.ok ((((M18.step s23').step s27).step s30).sub (M := [p12, p14]) (by simp)) (by simp [or_comm])
      have sA : Step no w o w30 o30 := (s23.trans s27).trans' s30 fun i hi => .inr (by omega)
      have sB : Step no w o w33 _ := sA.trans' s33 fun i hi => .inr (g i (by simp at hi ⊢; omega))
      have r33 := r30.step s33 fun k hk => .inl (hM24 k hk)
      unfold inviteM; rw [if_neg (by rw [hf]; decide)]
      refine ⟨_, ia, ic, ?_, noStep (K := no) sB, r33.give sB (by omega), r33.le⟩
      have hfi := findI_le s.ml cg.who
      have hnl : (s.ml.take (findI s.ml cg.who) ++ (⟨cg.who, cg.pub, s.ep + 1, -1, 0⟩ : Mem) :: s.ml.drop (findI s.ml cg.who)).length = s.ml.length + 1 := by simp; omega
      show _ = Value.tuple #[.agg #[.slice ia (s.ml.take (findI s.ml cg.who) ++ (⟨cg.who, cg.pub, s.ep + 1, -1, 0⟩ : Mem) :: s.ml.drop (findI s.ml cg.who)).length ic, .int .i64 s.ep], .int .i64 0]
      rw [hnl]
theorem flat_set (ml : List Mem) {i : Nat} {m : Mem} (h : ml[i]? = some m) (j : Nat) (v : Value) (m' : Mem) (hm : m'.C = m.C.set j v) (hj : j < 5) : (ml.flatMap Mem.C).set (i * 5 + j) v = (ml.set i m').flatMap Mem.C := by
  induction ml generalizing i with
  | nil => simp at h
  | cons x r ih =>
    cases i with
    | zero =>
      simp only [List.getElem?_cons_zero, Option.some.injEq] at h
      subst h
      rw [Nat.zero_mul, Nat.zero_add, List.flatMap_cons, List.set_append_left _ _ (by rw [Mem.len]; exact hj)]
      simp [hm]
    | succ i =>
      simp only [List.getElem?_cons_succ] at h
      rw [List.flatMap_cons, List.set_append_right _ _ (by rw [Mem.len]; omega), show (i + 1) * 5 + j - x.C.length = i * 5 + j by rw [Mem.len]; omega, ih h]
      simp
theorem revoke_spec (hr : Row w o a (s.ml.flatMap Mem.C)) (ok : Tags w o) (hs : s.ok) :
    Calls Try.prog 37 #[.agg #[.slice a s.ml.length c, .int .i64 s.ep], chgV cg wa wc oa oc] w (MsG w o (revokeM s cg)) := by
  have hle := hs.le
  have h0 := hs.ep0
  have h1 := hs.ep1
  refine (members_State_revoke.go a s.ml.length c s.ep cg.kd cg.who cg.pub cg.lim wa cg.ws.length wc oa cg.old.length oc (R := MsR w o (revokeM s cg)) ?_).mono fun x w' ⟨v, he, h⟩ => h.of he
  unfold members_State_revoke.N
  intro w11 p12 p13 p14 X11 hp
  obtain ⟨s11, M11⟩ := Step.priv X11 hp ok
  have g : ∀ p ∈ [p12, p13, p14], w.heap.size ≤ p := fun p h => (hp p h).1
  refine (find_spec (hr.step s11).1 hs.sorted (by omega) s.ep cg.who).mono fun x w18 ⟨he, X18⟩ => ⟨_, _, he, X18.kept, fun hf w21 X21 => ?_, fun hf => ?_⟩
  all_goals have s18' := Step.of_no X18 s11.ok
  all_goals have s18 := s11.trans s18'
  all_goals have M18 := M11.step s18'
  · have s21 := Step.stores X21 s18'.ok (M18.sub (M := [p14]) (by simp)) (by simp)
    unfold revokeM; rw [if_neg (by rw [hf]; decide)]
    exact MsR.zero (s18.trans' s21 fun i hi => .inr (g i (by simp at hi ⊢; omega))) 20
  obtain ⟨m, hm, hmw⟩ := isAt_some hf
  have hlt := (List.getElem?_eq_some_iff.1 hm).1
  obtain ⟨ad, rfl⟩ := hr.1.faddr Mem.len (by decide) hlt
  have hfi := Int.toNat_natCast (findI s.ml cg.who)
  have hM : revokeM s cg = if m.to_ = -1 then (⟨s.ml.set (findI s.ml cg.who) { m with to_ := if s.ep < 0 then -2 else s.ep, lim := cg.lim }, s.ep⟩, 0) else (MS.z, 10) := by unfold revokeM; rw [if_pos hf, hm]
  rw [hM, hfi]
  generalize findI s.ml cg.who = i at *
  refine ⟨ad, rfl, by omega, by omega, m.to_, (hr.step s18).1.fcell Mem.len hm 3 rfl, fun hto w27 X27 => ?_, fun hto => ?_⟩
  · have s27 := Step.stores X27 s18'.ok (M18.sub (M := [p14]) (by simp)) (by simp)
    rw [if_neg hto]
    exact MsR.zero (s18.trans' s27 fun i hi => .inr (g i (by simp at hi ⊢; omega))) 10
  rw [if_pos hto]
  refine (Clone_spec s18.ok (hr.step s18).1 (by omega)).mono fun x w30 ⟨o30, ca, cc, he, s30', r30⟩ => ⟨_, _, _, he, M18.keep s30' fun _ _ => id, ?_⟩
  have s30 := s18.trans s30'
  have M30 := M18.step s30'
  obtain ⟨cd, rfl⟩ := r30.row.faddr Mem.len (by decide) hlt
  refine ⟨cd, rfl, by omega, by omega, fun w33 X33 => ?_⟩
  have s33' := Step.stores X33 s30.ok (M30.sub (M := [p12]) (by simp)) (by simp)
  have hMlt : ∀ p ∈ [p12, p13, p14], p < w18.heap.size := fun p hp' => M18.lt hp'
  have s33 : Step no w o w33 _ := s30.trans' s33' fun i hi => .inr (g i (by simp at hi ⊢; omega))
  have M33 := M30.step s33'
  have r33 := r30.step s33' fun k hk => .inl (hMlt k (by simp at hk ⊢; omega))
  have hfl : (s.ml.flatMap Mem.C).length = s.ml.length * 5 := flat_length Mem.len s.ml
  have hadd : ∀ j, ((cd.add (i * 5)).add j).add 0 = cd.add (i * 5 + j) := fun j => by rw [add_add, add_add, Nat.add_zero]
  have hblk : ∀ j, Addr.block ((cd.add (i * 5)).add j) = cd.block := fun j => by rw [block_add, block_add]
  -- the first store
  obtain ⟨cd', hcd', can1, hN1, hsm1, hst1⟩ := r33.set s33.ok (j := i * 5 + 3) (by rw [hfl]; omega) (.int .i64 s.ep)
  cases hcd'
  have offP : ∀ {wz : World} {oz : Own}, Mine [p12, p13, p14] wz oz → (∀ k, oz cd.block = some k → w18.heap.size ≤ k) → ∀ p ∈ [p12, p13, p14], p ≠ cd.block := fun Mz hz p hp' e => by
    have h1 := (Mz p hp').2
    rw [e] at h1
    have := hz _ h1
    have := hMlt p hp'
    omega
  refine ⟨by rw [hadd]; exact can1, fun p hp' => by rw [hblk]; exact offP M33 hN1 p hp', thenW_in fun w34 e34 => ?_⟩
  rw [hadd] at e34
  obtain ⟨s34', r34, X34⟩ := hst1 w34 e34
  have s34 : Step no w o w34 _ := s33.trans' s34' fun i hi => .inr (by have := s18.size; omega)
  have M34 := M33.step s34'
  have hset1 := flat_set s.ml hm 3 (.int .i64 s.ep) { m with to_ := s.ep } rfl (by decide)
  rw [hset1] at r34
  have hm2 : (s.ml.set i { m with to_ := s.ep })[i]? = some { m with to_ := s.ep } := by rw [List.getElem?_set_self hlt]
  have hfl2 : ((s.ml.set i { m with to_ := s.ep }).flatMap Mem.C).length = s.ml.length * 5 := by rw [flat_length Mem.len, List.length_set]
  obtain ⟨cd', hcd', can2, hN2, hsm2, hst2⟩ := r34.set s34.ok (j := i * 5 + 4) (by rw [hfl2]; omega) (.int .i64 cg.lim)
  cases hcd'
  refine ⟨by rw [hadd]; exact can2, fun p hp' => by rw [hblk]; exact offP M34 hN2 p (by simp at hp' ⊢; omega), thenW_in fun w35 e35 => ?_⟩
  rw [hadd] at e35
  obtain ⟨s35', r35, X35⟩ := hst2 w35 e35
  have s35 : Step no w o w35 _ := s34.trans' s35' fun i hi => .inr (by have := s18.size; omega)
  have M35 := M34.step s35'
  have hset2 := flat_set (s.ml.set i { m with to_ := s.ep }) hm2 4 (.int .i64 cg.lim) { m with to_ := s.ep, lim := cg.lim } rfl (by decide)
  rw [hset2, List.set_set] at r35
  have hm3 : (s.ml.set i { m with to_ := s.ep, lim := cg.lim })[i]? = some { m with to_ := s.ep, lim := cg.lim } := by rw [List.getElem?_set_self hlt]
  have hfl3 : ((s.ml.set i { m with to_ := s.ep, lim := cg.lim }).flatMap Mem.C).length = s.ml.length * 5 := by rw [flat_length Mem.len, List.length_set]
  refine ⟨fun hneg => ?_, fun hpos w41 X41 => ?_⟩
  · obtain ⟨cd', hcd', can3, hN3, hsm3, hst3⟩ := r35.set s35.ok (j := i * 5 + 3) (by rw [hfl3]; omega) (.int .i64 (-2))
    cases hcd'
    refine ⟨by rw [hadd]; exact can3, fun p hp' => by rw [hblk]; exact offP M35 hN3 p (by simp at hp' ⊢; omega), thenW_in fun w37 e37 => ?_⟩
    rw [hadd] at e37
    obtain ⟨s37', r37, X37⟩ := hst3 w37 e37
    have s37 : Step no w o w37 _ := s35.trans' s37' fun i hi => .inr (by have := s18.size; omega)
    have M37 := M35.step s37'
    have hset3 := flat_set (s.ml.set i { m with to_ := s.ep, lim := cg.lim }) hm3 3 (.int .i64 (-2)) { m with to_ := -2, lim := cg.lim } rfl (by decide)
    rw [hset3, List.set_set] at r37
    intro w39 X39
    have s39' := Step.stores X39 s37.ok (M37.sub (M := [p14]) (by simp)) (by simp)
    have s39 : Step no w o w39 _ := s37.trans' s39' fun i hi => .inr (g i (by simp at hi ⊢; omega))
    have r39 := r37.step s39' fun k hk => .inl (hMlt k (by simp at hk ⊢; omega))
    rw [if_pos hneg]
    refine ⟨_, some cd, cc, by rw [List.length_set], noStep (K := no) s39, r39.give s39 s18.size, by rw [List.length_set]; exact r39.le⟩
  · have s41' := Step.stores X41 s35.ok (M35.sub (M := [p14]) (by simp)) (by simp)
    have s41 : Step no w o w41 _ := s35.trans' s41' fun i hi => .inr (g i (by simp at hi ⊢; omega))
    have r41 := r35.step s41' fun k hk => .inl (hMlt k (by simp at hk ⊢; omega))
    rw [if_neg (by omega)]
    refine ⟨_, some cd, cc, by rw [List.length_set], noStep (K := no) s41, r41.give s41 s18.size, by rw [List.length_set]; exact r41.le⟩
theorem Now_spec (hr : Row w o a (ml.flatMap Mem.C)) (ok : Tags w o) (hl : ml.length < 1000) (ep : Int) :
    Calls Try.prog 29 #[.agg #[.slice a ml.length c, .int .i64 ep]] w (fun x w' => ∃ o' a' c', x = .returned (.slice a' (nowM ml).length c') ∧ Step no w o w' o' ∧ Row w' o' a' ((nowM ml).flatMap Mem.C) ∧ (nowM ml).length ≤ c') := by
  refine (members_Now.go a ml.length c ep (R := fun v w' => ∃ o' a' c', v = (.slice a' (nowM ml).length c') ∧ Step no w o w' o' ∧ Row w' o' a' ((nowM ml).flatMap Mem.C) ∧ (nowM ml).length ≤ c') ?_).mono fun x w' ⟨v, he, o', a', c', hv, hw⟩ => ⟨o', a', c', by rw [he, hv], hw⟩
  unfold members_Now.N
  intro w3 X3
  have s3 := Step.of_no X3 ok
  refine ⟨fun m vs w1 => ∃ (t : Nat) (a1 : Option Addr) (c1 : Nat) (o1 : Own), vs = [.slice a1 (nowM (ml.take t)).length c1, .int .i64 t] ∧ m + t = ml.length ∧ Step no w o w1 o1 ∧ MRow w.heap.size w1 o1 a1 c1 (nowM (ml.take t)), ml.length, ⟨0, none, 0, _, rfl, rfl, s3, LRow.nil _ _ _ _ _⟩, ?_⟩
  rintro m w1 ra rn rc i ⟨t, a1, c1, o1, hi, hm, s1, r1⟩
  simp only [List.cons.injEq, Value.slice.injEq, Value.int.injEq, true_and, and_true] at hi
  obtain ⟨⟨rfl, rfl, rfl⟩, rfl⟩ := hi
  refine ⟨fun ht => ?_, fun ht => ?_⟩
  · have htl : t < ml.length := by omega
    have hg : ml[t]? = some ml[t] := List.getElem?_eq_getElem htl
    have htk : ml.take (t + 1) = ml.take t ++ [ml[t]] := by rw [List.take_add_one, hg]; rfl
    generalize ml[t] = x at *
    obtain ⟨ad, rfl⟩ := hr.1.faddr Mem.len (by decide) htl
    refine ⟨ad, rfl, by omega, by omega, x.who, x.pub, x.fr, x.to_, x.lim, by rw [Int.toNat_natCast]; exact (hr.step s1).1.floads Mem.len hg, fun hto w25 q26 X25 hb hq hq' => ?_, fun hto => ⟨by omega, by omega, fun w23 X23 => ?_⟩⟩
    · have s25 := Step.of_no X25 s1.ok
      have r25 : MRow w.heap.size w25 _ ra rc (nowM (ml.take t)) := LRow.step r1 s25 fun k h => h.elim
      have hln : (nowM (ml.take t)).length < 1000000 := by
        have h1 : (nowM (ml.take t)).length ≤ (ml.take t).length := List.length_filter_le _ _
        rw [List.length_take] at h1; omega
      obtain ⟨a', c', w', o', hrun, s2, hrow⟩ := r25.push s25.ok hln x hb (by have := s1.size; omega) hq'
      have hnw : nowM (ml.take (t + 1)) = nowM (ml.take t) ++ [x] := by rw [htk]; unfold nowM; rw [List.filter_append]; simp [hto]
      exact ⟨a', _, c', w', hrun, by omega, by omega, m - 1, by omega, t + 1, a', c', o', by rw [hnw]; simp, by omega, (s1.trans s25).trans' s2 fun i hi => .inr hi, by rw [hnw]; exact hrow⟩
    · have s23 := Step.of_no X23 s1.ok
      have hnw : nowM (ml.take (t + 1)) = nowM (ml.take t) := by rw [htk]; unfold nowM; rw [List.filter_append]; simp [hto]
      exact ⟨m - 1, by omega, t + 1, ra, rc, _, by rw [hnw]; simp, by omega, s1.trans s23, by rw [hnw]; exact LRow.step r1 s23 fun k h => h.elim⟩
  · have : t = ml.length := by omega
    subst this
    rw [List.take_length] at r1 ⊢
    exact ⟨_, ra, rc, rfl, noStep (K := no) s1, r1.give s1 (Nat.le_refl _), r1.le⟩
theorem begin1_spec (m : Mem) (x : Wr) : Calls Try.prog 66 #[.agg #[.int .i64 m.who, .int .u64 m.pub, .int .i64 m.fr, .int .i64 m.to_, .int .i64 m.lim], .agg #[.int .i64 x.who, .slice x.a x.b.length x.c]] w (Ret (.bool (m.who == x.who)) fun w' => Ext no w w') := by
  refine members_State_begin_1.run m.who m.pub m.fr m.to_ m.lim x.who x.a x.b.length x.c ?_
  unfold members_State_begin_1.N
  exact fun w' X => ⟨rfl, X⟩
theorem EqualFunc_spec (hr : RowAt w a (ml.flatMap Mem.C)) (hw : RowAt w wa (l.flatMap Wr.C)) (hl : ml.length < 1000000) :
    Calls Try.prog 65 #[.slice a ml.length c, .slice wa l.length wc, .func (.func 66) #[] #[]] w (Ret (.bool (decide (ml.map Mem.who = l.map Wr.who))) fun w' => Ext no w w') := by
  refine slices_EqualFunc_members_Member_members_Wrap_members_Member_members_Wrap.run a ml.length c wa l.length wc _ _ _ ?_
  unfold slices_EqualFunc_members_Member_members_Wrap_members_Member_members_Wrap.N
  refine ⟨fun hne => ⟨?_, Ext.refl _ _⟩, fun heq => ?_⟩
  · congr 1
    rw [eq_comm, decide_eq_false_iff_not]
    intro h
    have := congrArg List.length h
    simp at this; omega
  refine ⟨fun q vs w1 => ∃ t : Nat, vs = [.int .i64 t] ∧ q + t = ml.length ∧ Ext no w w1 ∧ (ml.map Mem.who).take t = (l.map Wr.who).take t, ml.length, ⟨0, rfl, rfl, Ext.refl _ _, rfl⟩, ?_⟩
  rintro q w1 i ⟨t, hi, hq, X1, hn⟩
  simp only [List.cons.injEq, Value.int.injEq, true_and, and_true] at hi
  subst hi
  refine ⟨fun ht => ?_, fun ht => ?_⟩
  · have htl : t < ml.length := by omega
    have htm : t < l.length := by omega
    have hg : ml[t]? = some ml[t] := List.getElem?_eq_getElem htl
    have hgm : l[t]? = some l[t] := List.getElem?_eq_getElem htm
    generalize ml[t] = x at *
    generalize l[t] = y at *
    obtain ⟨ad, rfl⟩ := hr.faddr Mem.len (by decide) htl
    obtain ⟨bd, rfl⟩ := hw.faddr Wr.len (by decide) htm
    refine ⟨ad, rfl, by omega, by omega, x.who, x.pub, x.fr, x.to_, x.lim, by rw [Int.toNat_natCast]; exact (hr.no X1).floads Mem.len hg, bd, rfl, by omega, by omega, y.who, y.a, y.b.length, y.c, by rw [Int.toNat_natCast]; exact (hw.no X1).floads Wr.len hgm, fun w29 X29 => ⟨by kernel_rfl, ?_⟩⟩
    refine (begin1_spec x y).mono fun e w34 ⟨he, X34⟩ => ⟨_, he, fun h => ⟨?_, (X1.trans X29).trans X34⟩, fun h => ⟨by omega, by omega, q - 1, by omega, t + 1, rfl, by omega, (X1.trans X29).trans X34, ?_⟩⟩
    · congr 1
      rw [eq_comm, decide_eq_false_iff_not]
      intro h2
      have h3 := congrArg (fun l => l[t]?) h2
      simp only [List.getElem?_map, hg, hgm, Option.map_some, Option.some.injEq] at h3
      simp [h3] at h
    · rw [List.take_add_one, List.take_add_one, hn, List.getElem?_map, List.getElem?_map, hg, hgm, Option.map_some, Option.map_some, show x.who = y.who by simpa using h]
  · have : t = ml.length := by omega
    subst this
    rw [List.take_of_length_le (by simp), List.take_of_length_le (by simp; omega)] at hn
    exact ⟨by rw [decide_eq_true hn], X1⟩
theorem begin_spec (hr : Row w o a (s.ml.flatMap Mem.C)) (ok : Tags w o) (hs : s.ok) (hw : Row w o wa (l.flatMap Wr.C)) (hlw : l.map Wr.p = cg.ws) :
    Calls Try.prog 35 #[.agg #[.slice a s.ml.length c, .int .i64 s.ep], chgV cg wa wc oa oc] w (MsG w o (beginM s cg)) := by
  have hle := hs.le
  have h0 := hs.ep0
  have h1 := hs.ep1
  have hlen : l.length = cg.ws.length := by rw [← hlw]; simp
  refine (members_State_begin.go a s.ml.length c s.ep cg.kd cg.who cg.pub cg.lim wa cg.ws.length wc oa cg.old.length oc (R := MsR w o (beginM s cg)) ?_).mono fun x w' ⟨v, he, h⟩ => h.of he
  unfold members_State_begin.N
  refine ⟨by omega, by omega, fun hge w14 X14 => ?_, fun hlt => ⟨fun hne w21 X21 => ?_, fun heq w18 p25 p26 p27 X18 hp => ?_⟩⟩
  · unfold beginM; rw [if_pos hge]; exact MsR.zero (Step.of_no X14 ok) 2
  · unfold beginM; rw [if_neg (by omega), if_neg hne]; exact MsR.zero (Step.of_no X21 ok) 10
  have hM : beginM s cg = if (nowM s.ml).map Mem.who = cg.ws.map Prod.fst then (⟨s.ml, s.ep + 1⟩, 0) else (MS.z, 10) := by unfold beginM; rw [if_neg (by omega), if_pos heq]
  have hws : cg.ws.map Prod.fst = l.map Wr.who := by rw [← hlw, List.map_map]; rfl
  rw [hM, hws, ← hlen]
  obtain ⟨s18, M18⟩ := Step.priv X18 hp ok
  have g : ∀ p ∈ [p25, p26, p27], w.heap.size ≤ p := fun p h => (hp p h).1
  refine (Now_spec (hr.step s18) s18.ok (by omega) s.ep).mono fun x w30 ⟨o30, na, nc, he, s30', rn, _⟩ => ⟨_, _, _, he, M18.keep s30' fun _ _ => id, ?_⟩
  have s30 := s18.trans s30'
  have M30 := M18.step s30'
  have hnl : (nowM s.ml).length ≤ s.ml.length := List.length_filter_le _ _
  refine (EqualFunc_spec rn.1 (hw.step s30).1 (by omega)).mono fun x w33 ⟨he, X33⟩ => ⟨_, he, X33.kept, fun hf w36 X36 => ?_, fun ht => ?_⟩
  all_goals have s33' := Step.of_no X33 s30.ok
  all_goals have s33 := s30.trans s33'
  all_goals have M33 := M30.step s33'
  · rw [if_neg (of_decide_eq_false hf)]
    have s36 := Step.stores X36 s33.ok (M33.sub (M := [p27]) (by simp)) (by simp)
    exact MsR.zero (s33.trans' s36 fun i hi => .inr (g i (by simp at hi ⊢; omega))) 10
  · rw [if_pos (of_decide_eq_true ht)]
    refine (Clone_spec s33.ok (hr.step s33).1 (by omega)).mono fun x w39 ⟨o39, ca, cc, he, s39', r39⟩ => ⟨_, _, _, he, (M33.sub (M := [p25, p27]) (by simp)).keep s39' fun _ _ => id, by omega, by omega, fun w43 X43 => ?_⟩
    have s39 := s33.trans s39'
    have s43' := Step.stores X43 s39.ok ((M33.step s39').sub (M := [p25, p27]) (by simp)) (by simp [or_comm])
    have s43 : Step no w o w43 _ := s39.trans' s43' fun i hi => .inr (g i (by simp at hi ⊢; omega))
    have r43 := r39.step s43' fun k hk => .inl (M33.lt (p := k) (by simp at hk ⊢; omega))
    exact ⟨_, ca, cc, rfl, noStep (K := no) s43, r43.give s43 s33.size, r43.le⟩
theorem Apply_spec (hr : Row w o a (s.ml.flatMap Mem.C)) (ok : Tags w o) (hs : s.ok) (hw : Row w o wa (l.flatMap Wr.C)) (hlw : l.map Wr.p = cg.ws) (hwl : l.length < 1000000) (hol : cg.old.length < 1000000) :
    Calls Try.prog 10 #[.agg #[.slice a s.ml.length c, .int .i64 s.ep], chgV cg wa wc oa oc] w (MsG w o (applyM s cg)) := by
  refine (members_Apply.go a s.ml.length c s.ep cg.kd cg.who cg.pub cg.lim wa cg.ws.length wc oa cg.old.length oc (R := MsR w o (applyM s cg)) ?_).mono fun x w' ⟨v, he, h⟩ => h.of he
  unfold members_Apply.N
  intro w11 p12 p13 p14 X11 hp
  obtain ⟨s11, M11⟩ := Step.priv X11 hp ok
  have g : ∀ p ∈ [p12, p13, p14], w.heap.size ≤ p := fun p h => (hp p h).1
  refine (Right_spec (hw.step s11).1 hlw hwl hol).mono fun x w17 ⟨he, X17⟩ => ⟨_, he, X17.kept, fun hf w20 X20 => ?_, fun ht => ?_⟩
  all_goals have s17' := Step.of_no X17 s11.ok
  all_goals have s17 := s11.trans s17'
  all_goals have M17 := M11.step s17'
  · have s20 := Step.stores X20 s17'.ok (M17.sub (M := [p14]) (by simp)) (by simp)
    unfold applyM; rw [if_neg (by rw [hf]; decide)]
    exact MsR.zero (s17.trans' s20 fun i hi => .inr (g i (by simp at hi ⊢; omega))) 1
  have fin : ∀ {r : MS × Int} {x : Ending} {w26 w28 : World}, MsG w17 (grow w11 (tags w o [p12, p13, p14])) r x w26 → ∃ (a' : Option Addr) (n' c' : Nat) (ep' cd' : Int), x = .returned (.tuple #[.agg #[.slice a' n' c', .int .i64 ep'], .int .i64 cd']) ∧ Keep [p14] w17 w26 ∧ ∀ w28, Ext (fun b => b = p14) w26 w28 → MsR w o r (.tuple #[.agg #[.slice a' n' c', .int .i64 ep'], .int .i64 cd']) w28 := by
    rintro r x w26 w28 ⟨o26, a', c', he, s26, r26, hc⟩
    refine ⟨a', _, c', _, _, he, (M17.sub (M := [p14]) (by simp)).keep s26 fun _ _ => id, fun w28 X28 => ?_⟩
    have s28' := Step.stores X28 s26.ok ((M17.step s26).sub (M := [p14]) (by simp)) (by simp)
    have s28 := (s17.trans s26).trans' s28' fun i hi => .inr (g i (by simp at hi ⊢; omega))
    exact ⟨_, a', c', rfl, s28, r26.step s28', hc⟩
  unfold applyM
  rw [if_pos ht]
  refine ⟨fun h1 => ?_, fun h1 => ⟨fun h2 => ?_, fun h2 => ?_⟩⟩
  · rw [if_pos h1]
    exact (invite_spec (hr.step s17) s17.ok hs).mono fun x w26 h => fin (w28 := w) h
  · rw [if_neg h1, if_pos h2]
    exact (revoke_spec (hr.step s17) s17.ok hs).mono fun x w26 h => fin (w28 := w) h
  · rw [if_neg h1, if_neg h2]
    exact (begin_spec (hr.step s17) s17.ok hs (hw.step s17) hlw).mono fun x w26 h => fin (w28 := w) h
end
end Go.Proofs.Ytaifegpikhjiiaa

/- Members: what is told of a state; changes and states handed over; the chapter's example. -/
set_option linter.unusedVariables false
set_option linter.unusedSimpArgs false
set_option maxRecDepth 20000
set_option maxHeartbeats 2000000
namespace Go.Proofs.Ytaifegpikhjiiaa
open Go Go.Mx Go.Proofs
open W (OwnB)
theorem inf5 : (Try.prog.info? 5).map (fun i => (i.zero, i.size, i.bytes)) = some (some (.int .u8 0), 1, 1) := by kernel_rfl
def Mem.z : Mem := ⟨0, 0, 0, 0, 0⟩
def Mem.V (m : Mem) : Value := .agg #[.int .i64 m.who, .int .u64 m.pub, .int .i64 m.fr, .int .i64 m.to_, .int .i64 m.lim]
def newM (p : Int) : MS := ⟨[⟨0, p, 0, -1, 0⟩], -1⟩
def findM (l : List Mem) (x : Int) : Mem × Bool := if isAt l x = true then ((l[findI l x]?).getD Mem.z, true) else (Mem.z, false)
theorem newM_ok (p : Int) : (newM p).ok := ⟨List.pairwise_singleton _ _, fun m hm => by simp [newM] at hm; subst hm; exact ⟨by show (0 : Int) ≤ 0; decide, by show (0 : Int) < 8; decide⟩, by show (-1 : Int) ≤ -1; decide, by show (-1 : Int) < 20; decide⟩
section
variable {s : MS} {c : Chg} {l : List Mem}
theorem Sorted.insert (h : Sorted l) {m : Mem} (hn : isAt l m.who = false) : Sorted (l.take (findI l m.who) ++ m :: l.drop (findI l m.who)) := by
  have hb : ∀ x ∈ l.drop (findI l m.who), m.who < x.who := fun x hx => by
    obtain ⟨j, hj⟩ := List.getElem?_of_mem hx
    rw [List.getElem?_drop] at hj
    have hlt : findI l m.who < l.length := by have := (List.getElem?_eq_some_iff.1 hj).1; omega
    have hg : l[findI l m.who]? = some l[findI l m.who] := List.getElem?_eq_getElem hlt
    have h1 := findI_at hg
    have h2 : m.who ≠ (l[findI l m.who]).who := fun e => by
      unfold isAt at hn; rw [hg] at hn; exact of_decide_eq_false hn e.symm
    rcases Nat.eq_zero_or_pos j with rfl | hp
    · rw [Nat.add_zero, hg] at hj; cases hj; omega
    · have := h.get hg hj (by omega); omega
  have ha : ∀ x ∈ l.take (findI l m.who), x.who < m.who := fun x hx => by
    obtain ⟨j, hj⟩ := List.getElem?_of_mem hx
    rw [List.getElem?_take] at hj
    split at hj
    · exact findI_lt hj (by assumption)
    · cases hj
  have h0 : Sorted (l.take (findI l m.who) ++ l.drop (findI l m.who)) := by rw [List.take_append_drop]; exact h
  unfold Sorted at h0 ⊢
  rw [List.pairwise_append] at h0 ⊢
  refine ⟨h0.1, List.pairwise_cons.2 ⟨hb, h0.2.1⟩, fun x hx y hy => ?_⟩
  rcases List.mem_cons.1 hy with rfl | hy
  · exact ha x hx
  · exact h0.2.2 x hx y hy
theorem Sorted.set (h : Sorted l) {i : Nat} {m m' : Mem} (hi : l[i]? = some m) (hw : m'.who = m.who) : Sorted (l.set i m') := by
  unfold Sorted at h ⊢
  rw [List.pairwise_iff_getElem] at h ⊢
  intro a b ha hb hab
  simp only [List.length_set] at ha hb
  have hm : (l[i]'(List.getElem?_eq_some_iff.1 hi).1) = m := (List.getElem?_eq_some_iff.1 hi).2
  simp only [List.getElem_set]
  split <;> split
  · omega
  · rename_i h1 h2; subst h1; rw [hw, ← hm]; exact h _ _ _ _ hab
  · rename_i h1 h2; subst h2; rw [hw, ← hm]; exact h _ _ _ _ hab
  · exact h _ _ _ _ hab
theorem rightM_who (h : rightM c = true) : 0 ≤ c.who ∧ c.who < 8 := by
  unfold rightM at h
  by_cases hw : 0 ≤ c.who ∧ c.who < 8
  · exact hw
  · rw [if_neg hw] at h; cases h
theorem invite_out (h : (inviteM s c).2 = 0) : isAt s.ml c.who = false ∧ (inviteM s c).1 = ⟨s.ml.take (findI s.ml c.who) ++ ⟨c.who, c.pub, s.ep + 1, -1, 0⟩ :: s.ml.drop (findI s.ml c.who), s.ep⟩ := by
  unfold inviteM at h ⊢
  by_cases hi : isAt s.ml c.who = true
  · rw [if_pos hi] at h; cases h
  · rw [if_neg hi]; exact ⟨by simpa using hi, rfl⟩
theorem revoke_out (h : (revokeM s c).2 = 0) : ∃ m, s.ml[findI s.ml c.who]? = some m ∧ m.who = c.who ∧ m.to_ = -1 ∧ (revokeM s c).1 = ⟨s.ml.set (findI s.ml c.who) { m with to_ := if s.ep < 0 then -2 else s.ep, lim := c.lim }, s.ep⟩ := by
  unfold revokeM at h ⊢
  by_cases hi : isAt s.ml c.who = true
  · obtain ⟨m, hm, hw⟩ := isAt_some hi
    rw [if_pos hi, hm] at h ⊢
    simp only [] at h ⊢
    by_cases ht : m.to_ = -1
    · rw [if_pos ht]; exact ⟨m, rfl, hw, ht, rfl⟩
    · rw [if_neg ht] at h; cases h
  · rw [if_neg hi] at h; cases h
theorem begin_out (h : (beginM s c).2 = 0) : (beginM s c).1 = ⟨s.ml, s.ep + 1⟩ ∧ s.ep + 1 < 20 := by
  unfold beginM at h ⊢
  by_cases h1 : s.ep + 1 ≥ 20
  · rw [if_pos h1] at h; cases h
  · rw [if_neg h1] at h ⊢
    by_cases h2 : ((c.old.length : Int) == 0) = decide (s.ep < 0)
    · rw [if_pos h2] at h ⊢
      by_cases h3 : (nowM s.ml).map Mem.who = c.ws.map Prod.fst
      · rw [if_pos h3]; exact ⟨rfl, by omega⟩
      · rw [if_neg h3] at h; cases h
    · rw [if_neg h2] at h; cases h
theorem apply_out (h : (applyM s c).2 = 0) : rightM c = true ∧ ((c.kd = 1 ∧ (inviteM s c).2 = 0 ∧ applyM s c = inviteM s c) ∨ (c.kd = 2 ∧ (revokeM s c).2 = 0 ∧ applyM s c = revokeM s c) ∨ (c.kd ≠ 1 ∧ c.kd ≠ 2 ∧ (beginM s c).2 = 0 ∧ applyM s c = beginM s c)) := by
  unfold applyM at h ⊢
  by_cases hr : rightM c = true
  · rw [if_pos hr] at h ⊢
    refine ⟨hr, ?_⟩
    by_cases h1 : c.kd = 1
    · rw [if_pos h1] at h ⊢; exact .inl ⟨h1, h, rfl⟩
    · rw [if_neg h1] at h ⊢
      by_cases h2 : c.kd = 2
      · rw [if_pos h2] at h ⊢; exact .inr (.inl ⟨h2, h, rfl⟩)
      · rw [if_neg h2] at h ⊢; exact .inr (.inr ⟨h1, h2, h, rfl⟩)
  · rw [if_neg hr] at h; cases h
theorem mem_set {l : List Mem} {i : Nat} {x y : Mem} (h : x ∈ l.set i y) : x ∈ l ∨ x = y := List.mem_or_eq_of_mem_set h
theorem applyM_ok (hs : s.ok) (h : (applyM s c).2 = 0) : (applyM s c).1.ok := by
  obtain ⟨hr, hh⟩ := apply_out h
  have hw := rightM_who hr
  rcases hh with ⟨_, h1, e⟩ | ⟨_, h1, e⟩ | ⟨_, _, h1, e⟩
  · obtain ⟨q1, q2⟩ := invite_out h1
    rw [e, q2]
    refine ⟨hs.sorted.insert (m := ⟨c.who, c.pub, s.ep + 1, -1, 0⟩) q1, fun m hm => ?_, hs.ep0, hs.ep1⟩
    rcases List.mem_append.1 hm with hm | hm
    · exact hs.who m (List.mem_of_mem_take hm)
    · rcases List.mem_cons.1 hm with rfl | hm
      · exact hw
      · exact hs.who m (List.mem_of_mem_drop hm)
  · obtain ⟨m, q1, q2, q3, q4⟩ := revoke_out h1
    rw [e, q4]
    refine ⟨hs.sorted.set q1 rfl, fun x hx => ?_, hs.ep0, hs.ep1⟩
    rcases mem_set hx with hx | rfl
    · exact hs.who x hx
    · exact hs.who m (List.mem_of_getElem? q1)
  · obtain ⟨q1, q2⟩ := begin_out h1
    rw [e, q1]
    exact ⟨hs.sorted, hs.who, by show -1 ≤ s.ep + 1; have := hs.ep0; omega, q2⟩
theorem findM_some (h : Sorted l) {m : Mem} (hm : m ∈ l) : findM l m.who = (m, true) := by
  obtain ⟨i, hi⟩ := List.getElem?_of_mem hm
  have hlt := (List.getElem?_eq_some_iff.1 hi).1
  have hI : findI l m.who = i := findI_is (by omega) (fun j y hj hy => h.get hy hi hj) fun y hy => by rw [hi] at hy; cases hy; omega
  have hat : isAt l m.who = true := by unfold isAt; rw [hI, hi]; simp
  unfold findM
  rw [if_pos hat, hI, hi]; rfl
theorem findM_mem {x : Int} (h : (findM l x).2 = true) : (findM l x).1 ∈ l ∧ (findM l x).1.who = x := by
  unfold findM at h ⊢
  by_cases hat : isAt l x = true
  · obtain ⟨m, hm, hw⟩ := isAt_some hat
    rw [if_pos hat, hm]
    exact ⟨List.mem_of_getElem? hm, hw⟩
  · rw [if_neg hat] at h; cases h
end
section
variable {w w' w1 : World} {o o' o1 : Own} {a : Option Addr} {c N : Nat} {l : List Wr} {ml : List Mem} {cs : List Value} {s : MS} {cg : Chg} {wa oa : Option Addr} {wc oc : Nat}
theorem mNew_spec (ok : Tags w o) (p : Int) : Calls Try.prog 20 #[.int .u64 p] w (fun x w' => ∃ o' a' c', x = .returned (.agg #[.slice a' (newM p).ml.length c', .int .i64 (newM p).ep]) ∧ Step no w o w' o' ∧ Row w' o' a' ((newM p).ml.flatMap Mem.C) ∧ (newM p).ml.length ≤ c') := by
  refine (members_New.go p (R := fun v w' => ∃ o' a' c', v = (.agg #[.slice a' (newM p).ml.length c', .int .i64 (newM p).ep]) ∧ Step no w o w' o' ∧ Row w' o' a' ((newM p).ml.flatMap Mem.C) ∧ (newM p).ml.length ≤ c') ?_).mono fun x w' ⟨v, he, o', a', c', hv, hw⟩ => ⟨o', a', c', by rw [he, hv], hw⟩
  unfold members_New.N
  intro w3 q4 p5 X3 hb hq hq' hp w7 X7
  have s3 := (Step.of_no X3 ok).tag (p := p5) (j := p5) (hp p5 (by simp)).1 (by have := (hp p5 (by simp)).2; omega)
  have h5 := hp p5 (by simp)
  have M3 : Mine [p5] w3 (tag (grow w o) p5 p5) := fun p hp' => by rw [show p = p5 by simpa using hp']; exact ⟨by omega, tag_self⟩
  have s7 := Step.stores X7 s3.ok M3 (by simp)
  have r3 : Row w3 (tag (grow w o) p5 p5) (some (blk q4)) ((newM p).ml.flatMap Mem.C) := ⟨RowAt.of_blk hb, fun _ ad ha => by cases ha; rw [tag_ne (by show q4 ≠ p5; omega)]; exact grow_ge hq⟩
  exact ⟨_, some (blk q4), 1, rfl, s3.trans' s7 fun i hi => .inr (by simp at hi; omega), r3.step s7, Nat.le_refl _⟩
theorem Find_spec (hr : Row w o a (ml.flatMap Mem.C)) (ok : Tags w o) (hs : Sorted ml) (hl : ml.length < 1000000) (ep x : Int) :
    Calls Try.prog 16 #[.agg #[.slice a ml.length c, .int .i64 ep], .int .i64 x] w (Ret (.tuple #[(findM ml x).1.V, .bool (findM ml x).2]) fun w' => ∃ o', Step no w o w' o') := by
  refine members_Find.run a ml.length c ep x ?_
  unfold members_Find.N
  intro w5 p6 p7 X5 hp
  obtain ⟨s5, M5⟩ := Step.priv X5 hp ok
  have g : ∀ p ∈ [p6, p7], w.heap.size ≤ p := fun p h => (hp p h).1
  refine (find_spec (hr.step s5).1 hs hl ep x).mono fun e w11 ⟨he, X11⟩ => ⟨_, _, he, X11.kept, fun hf w17 X17 => ?_, fun ht => ?_⟩
  all_goals have s11' := Step.of_no X11 s5.ok
  all_goals have s11 := s5.trans s11'
  all_goals have M11 := M5.step s11'
  · have s17 := Step.stores X17 s11'.ok (M11.sub (M := [p7]) (by simp)) (by simp)
    unfold findM; rw [if_neg (by rw [hf]; decide)]
    exact ⟨rfl, _, s11.trans' s17 fun i hi => .inr (g i (by simp at hi ⊢; omega))⟩
  · obtain ⟨m, hm, hw⟩ := isAt_some ht
    have hlt := (List.getElem?_eq_some_iff.1 hm).1
    have hF : findM ml x = (m, true) := by unfold findM; rw [if_pos ht, hm]; rfl
    rw [hF]
    obtain ⟨ad, rfl⟩ := hr.1.faddr Mem.len (by decide) hlt
    refine ⟨ad, rfl, by omega, by omega, m.who, m.pub, m.fr, m.to_, m.lim, by rw [Int.toNat_natCast]; exact (hr.step s11).1.floads Mem.len hm, fun w29 X29 => ?_⟩
    have s29 := Step.stores X29 s11'.ok (M11.sub (M := [p7]) (by simp)) (by simp)
    exact ⟨rfl, _, s11.trans' s29 fun i hi => .inr (g i (by simp at hi ⊢; omega))⟩
end
/-! ### changes that are handed in -/
section
variable {w w' w1 : World} {o o' o1 : Own} {a : Option Addr} {c N : Nat} {l : List Wr} {ml : List Mem} {cs : List Value} {s : MS} {cg : Chg} {wa oa : Option Addr} {wc oc : Nat}
theorem opens_wrap : Opens Try.prog 119 fun W cs => ∃ x : Wr, cs = x.C ∧ RowAt W x.a (bytesV x.b) ∧ x.b.length ≤ x.c :=
  (opens_seq (qs := [(1, _), (1, _)]) (size := 2) Try.underlying119 (by kernel_rfl)
    ⟨⟨rfl, by kernel_rfl, opens_int Try.underlying3⟩, ⟨rfl, by kernel_rfl, opens_bytes Try.underlying29 (by kernel_rfl) Try.underlying5⟩, rfl⟩).mono
    fun W cs ⟨_, _, e0, _, ⟨who, q0, _⟩, _, _, e1, _, ⟨a, c, b, q1, lb, _, rb⟩, q2⟩ => by
      subst q0; subst q1; subst q2; subst e1; subst e0
      exact ⟨⟨who, a, c, b⟩, rfl, rb, lb⟩
abbrev WRow (N : Nat) (w : World) (o : Own) (a : Option Addr) (c : Nat) (l : List Wr) : Prop := LRow 60 2 N w o a l.length c (l.flatMap Wr.C)
theorem Own_spec (ok : Tags w o) (hr : Row w o wa (l.flatMap Wr.C)) (hw : cg.ws = l.map Wr.p) (hl : l.length < 1000000) :
    Calls Try.prog 26 #[chgV cg wa wc oa oc] w (fun x w' => ∃ o' wa' wc', x = .returned (chgV cg wa' wc' oa oc) ∧ Step no w o w' o' ∧ Row w' o' wa' (l.flatMap Wr.C) ∧ l.length ≤ wc') := by
  have hlen : cg.ws.length = l.length := by rw [hw]; simp
  refine (cachettelaw12_Own.go cg.kd cg.who cg.pub cg.lim wa cg.ws.length wc oa cg.old.length oc (R := fun v w' => ∃ o' wa' wc', v = (chgV cg wa' wc' oa oc) ∧ Step no w o w' o' ∧ Row w' o' wa' (l.flatMap Wr.C) ∧ l.length ≤ wc') ?_).mono fun x w' ⟨v, he, o', a', c', hv, hw⟩ => ⟨o', a', c', by rw [he, hv], hw⟩
  unfold cachettelaw12_Own.N
  intro w15 p16 p17 p18 X15 hp
  obtain ⟨s15, M15⟩ := Step.priv X15 hp ok
  have g : ∀ p ∈ [p16, p17, p18], w.heap.size ≤ p := fun p h => (hp p h).1
  have hM15 : ∀ p ∈ [p16, p17, p18], p < w15.heap.size := fun p h => M15.lt h
  rw [hlen]
  refine ⟨fun m vs w1 => ∃ (t : Nat) (a1 : Option Addr) (c1 : Nat) (o1 : Own), vs = [.int .i64 t, .int .i64 0, .int .i64 0, .int .u64 0, .int .i64 0, .slice none 0 0, .slice none 0 0, .int .i64 cg.kd, .int .i64 cg.who, .int .u64 cg.pub, .int .i64 cg.lim, .slice a1 (l.take t).length c1, .slice oa cg.old.length oc] ∧ m + t = l.length ∧ Step no w o w1 o1 ∧ Step (fun j => w15.heap.size ≤ j ∨ j ∈ [p16, p17, p18]) w15 (tags w o [p16, p17, p18]) w1 o1 ∧ WRow w15.heap.size w1 o1 a1 c1 (l.take t), l.length, ⟨0, none, 0, _, rfl, rfl, s15, Step.refl _ s15.ok, LRow.nil _ _ _ _ _⟩, ?_⟩
  intro m w1 i0 k1 k2 k3 k4 k5a k5n k5c k6a k6n k6c k7 k8 k9 k10 k11a k11n k11c k12a k12n k12c hI
  obtain ⟨t, a1, c1, o1, hi, hm, s1, s15', r1⟩ := hI
  simp only [List.cons.injEq, Value.slice.injEq, Value.int.injEq, true_and, and_true] at hi
  obtain ⟨rfl, rfl, rfl, rfl, rfl, ⟨rfl, rfl, rfl⟩, ⟨rfl, rfl, rfl⟩, rfl, rfl, rfl, rfl, ⟨rfl, rfl, rfl⟩, ⟨rfl, rfl, rfl⟩⟩ := hi
  have M1 := M15.step s15'
  refine ⟨fun ht => ?_, fun ht w53 X53 => ?_⟩
  · have htl : t < l.length := by omega
    have hg : l[t]? = some l[t] := List.getElem?_eq_getElem htl
    have htk : l.take (t + 1) = l.take t ++ [l[t]] := by rw [List.take_add_one, hg]; rfl
    generalize l[t] = x at *
    obtain ⟨ad, rfl⟩ := hr.1.faddr Wr.len (by decide) htl
    have hr1 := (hr.step s1).1
    refine ⟨ad, rfl, by omega, by omega, x.who, by rw [Int.toNat_natCast]; exact hr1.fcell Wr.len hg 0 rfl, by omega, by omega, x.a, x.b.length, x.c, by rw [Int.toNat_natCast]; exact hr1.fcell Wr.len hg 1 rfl, fun w42 q43 X42 hb hq hq' => ?_⟩
    have s42 := Step.of_no X42 s1.ok
    have r42 : WRow w15.heap.size w42 _ k11a k11c (l.take t) := LRow.step r1 s42 fun k h => h.elim
    obtain ⟨i, hi, hz, hsz, hby⟩ := info_of inf60
    have h15 := s15'.size
    obtain ⟨a', c', w45, o45, hrun, s45, hrow, _⟩ := LRow.push (ty := 50) Try.underlying50 hi hz hsz hby rfl (by decide) r42 s42.ok (p := q43) (by omega) hq' (xa := some (blk q43)) (m := 1) (xc := 1) (news := x.C) rfl (RowAt.of_blk hb) (fun u hu => by
      simp only [Wr.C, List.mem_cons, List.not_mem_nil, or_false] at hu
      rcases hu with rfl | rfl <;> rfl) (by rw [List.length_take]; omega) (by rw [List.length_take]; omega)
    refine ⟨a', _, c', w45, hrun, (M1.step s42).keep s45 (fun p hp' => by have := hM15 p hp'; omega), by omega, by omega, fun w46 X46 => ?_⟩
    have s46 := Step.stores X46 s45.ok ((((M1.step s42).step s45)).sub (M := [p18]) (by simp)) (by simp)
    have r46 := hrow.step s46 fun k hk => .inl (hM15 k (by simp at hk ⊢; omega))
    have h15w := s15.size
    have hcells : (l.take t).flatMap Wr.C ++ x.C = (l.take (t + 1)).flatMap Wr.C := by rw [htk]; simp
    have hlen2 : (l.take t).length + 1 = (l.take (t + 1)).length := by rw [htk]; simp
    rw [hcells, hlen2] at r46
    refine ⟨m - 1, by omega, t + 1, a', c', _, by rw [← hlen2]; rfl, by omega, ((s1.trans s42).trans' s45 fun j hj => .inr (by omega)).trans' s46 fun j hj => .inr (g j (by simp at hj ⊢; omega)), (s15'.trans (s42.none.trans (s45.mono fun j hj _ => .inl hj))).trans (s46.mono fun j hj _ => .inr (by simp at hj ⊢; omega)), r46⟩
  · have htt : t = l.length := by omega
    subst htt
    rw [List.take_length] at r1 ⊢
    have s53 := Step.stores X53 s1.ok (M1.sub (M := [p17]) (by simp)) (by simp)
    have sF : Step no w o w53 _ := s1.trans' s53 fun j hj => .inr (g j (by simp at hj ⊢; omega))
    have r53 : WRow w15.heap.size w53 _ k11a k11c l := LRow.step r1 s53 fun k hk => .inl (hM15 k (by simp at hk ⊢; omega))
    refine ⟨_, k11a, k11c, ?_, noStep (K := no) sF, r53.give sF s15.size, r53.le⟩
    unfold chgV
    rw [hlen]
end
end Go.Proofs.Ytaifegpikhjiiaa

/- Members: the chapter's example. -/
set_option linter.unusedVariables false
set_option linter.unusedSimpArgs false
set_option maxRecDepth 20000
set_option maxHeartbeats 2000000
namespace Go.Proofs.Ytaifegpikhjiiaa
open Go Go.Mx Go.Proofs
open W (OwnB)
end Go.Proofs.Ytaifegpikhjiiaa

/- Members' laws: predicates. -/
set_option linter.unusedVariables false
set_option linter.unusedSimpArgs false
set_option maxRecDepth 20000
set_option maxHeartbeats 2000000
namespace Go.Proofs.Ytaifegpikhjiiaa
open Go Go.Mx Go.Proofs
end Go.Proofs.Ytaifegpikhjiiaa

/- MembersGone. -/
set_option linter.unusedVariables false
set_option linter.unusedSimpArgs false
set_option maxRecDepth 20000
set_option maxHeartbeats 2000000
namespace Go.Proofs.Ytaifegpikhjiiaa
open Go Go.Mx Go.Proofs
open W (OwnB)
section
variable {w w' w1 : World} {o o' o1 : Own} {a : Option Addr} {c : Nat} {s : MS} {m : Mem} {cg : Chg}
end
end Go.Proofs.Ytaifegpikhjiiaa

/- Members' laws: predicates. -/
set_option linter.unusedVariables false
set_option linter.unusedSimpArgs false
set_option maxRecDepth 20000
set_option maxHeartbeats 2000000
namespace Go.Proofs.Ytaifegpikhjiiaa
open Go Go.Mx Go.Proofs
theorem inf121 : (Try.prog.info? 121).map (fun i => (i.zero, i.size, i.bytes)) = some (some (.agg #[.int .i64 0, .int .u64 0, .int .i64 0, .int .i64 0, .int .i64 0]), 5, 40) := by kernel_rfl
def cachetteref12_New.M (a4 : Int) (R : Value → World → Prop) (w : World) : Prop :=
 thenW (w.alloc (.cells #[.slice none 0 0, .int .i64 0] 46)) fun a8 =>
 thenW (a8.alloc (.cells #[.int .i64 0, .int .u64 a4, .int .i64 0, .int .i64 (-1), .int .i64 0] 121)) fun a7 =>
 canStore a7 ((blk w.heap.size).add 0) ∧
 thenW (a7.setCell ((blk w.heap.size).add 0) (.slice (some (blk a8.heap.size)) 1 1)) fun a6 =>
 canStore a6 ((blk w.heap.size).add 1) ∧
 thenW (a6.setCell ((blk w.heap.size).add 1) (.int .i64 (-1))) fun a5 =>
 ∃ (a2 : Option Addr) (a1 : Nat) (a3 : Nat) (a0 : Int), cellsAt a5 (blk w.heap.size) [.slice a2 a1 a3, .int .i64 a0] 0 ∧
 R (.agg #[.slice a2 a1 a3, .int .i64 a0]) a5

theorem cachetteref12_New.eq (publicv1 : Int) (R : Value → World → Prop) (w : World) : mfunc Try.prog [] 23 [.int .u64 publicv1] R w = cachetteref12_New.M publicv1 R w := by kernel_rfl
theorem cachetteref12_New.ok (a0 : Int) {R : Value → World → Prop} {w : World} (h : cachetteref12_New.M a0 R w) : Calls Try.prog 23 #[.int .u64 a0] w fun e w' => ∃ v, e = .returned v ∧ R v w' :=
  mfunc_ok follows (H := []) (args := [.int .u64 a0]) (by rw [cachetteref12_New.eq]; exact h)

def cachetteref12_New.N (a0 : Int) (R : Value → World → Prop) (w : World) : Prop :=
 ∀ (a1 : World) (q4 : Nat) (p5 : Nat), Ext no w a1 → Blk a1 q4 121 [.int .i64 0, .int .u64 a0, .int .i64 0, .int .i64 (-1), .int .i64 0] → w.heap.size ≤ q4 → q4 < a1.heap.size → Privq w q4 [p5] →
 ∀ (a2 : World), Ext (fun b => b = p5) a1 a2 →
 R (.agg #[.slice (some (blk q4)) 1 1, .int .i64 (-1)]) a2

theorem cachetteref12_New.up (a0 : Int) {R : Value → World → Prop} {w : World} (h : cachetteref12_New.N a0 R w) : cachetteref12_New.M a0 R w := by
  unfold cachetteref12_New.M
  unfold cachetteref12_New.N at h
  refine thenW_in fun a4 e2 => ?_
  have a1 := Blk.of_new e2
  have a8 := ((Ext.refl no w)).size
  have a3 := (Ext.refl no w).x_alloc e2
  refine thenW_in fun a2 e3 => ?_
  have a6 := a1.lt
  have a1 := a1.x_alloc e3
  have h := h a2 a4.heap.size (w.heap.size) (a3.x_alloc e3) (Blk.of_new e3) (a3).size (size_lt_alloc e3) (Privq.cons a8 a6 Privq.nil)
  have a9 : Ext (fun b => b = w.heap.size) a2 a2 := ((Ext.refl no a2)).none
  refine ⟨a1.cani 0 rfl rfl, thenW_in fun ab e6 => ?_⟩
  have aa := a9.x_set (q := w.heap.size) (i := 0) rfl (.inl rfl) e6
  have a1 := a1.seti 0 rfl e6
  refine ⟨a1.cani 1 rfl rfl, thenW_in fun a5 e7 => ?_⟩
  have a7 := aa.x_set (q := w.heap.size) (i := 1) rfl (.inl rfl) e7
  have a1 := a1.seti 1 rfl e7
  refine ⟨(some (blk a4.heap.size)), 1, 1, (-1), ⟨a1.celli 0 rfl rfl, a1.celli 1 rfl rfl, trivial⟩, ?_⟩
  have h := h a5 a7
  exact h

theorem cachetteref12_New.go (a0 : Int) {R : Value → World → Prop} {w : World} (h : cachetteref12_New.N a0 R w) : Calls Try.prog 23 #[.int .u64 a0] w fun e w' => ∃ v, e = .returned v ∧ R v w' := cachetteref12_New.ok a0 (cachetteref12_New.up a0 h)
def cachetteref12_who.M (n1 : Int) (R : Value → World → Prop) (w : World) : Prop :=
 bif decide (n1 ≥ 0) then (
 R (.bool (decide (n1 < 8))) w) else (
 R (.bool false) w)

theorem cachetteref12_who.eq (n1 : Int) (R : Value → World → Prop) (w : World) : mfunc Try.prog [] 72 [.int .i64 n1] R w = cachetteref12_who.M n1 R w := by kernel_rfl
theorem cachetteref12_who.ok (n1 : Int) {R : Value → World → Prop} {w : World} (h : cachetteref12_who.M n1 R w) : Calls Try.prog 72 #[.int .i64 n1] w fun e w' => ∃ v, e = .returned v ∧ R v w' :=
  mfunc_ok follows (H := []) (args := [.int .i64 n1]) (by rw [cachetteref12_who.eq]; exact h)

def cachetteref12_who.N (n1 : Int) (R : Value → World → Prop) (w : World) : Prop :=
 (n1 ≥ 0 →
 R (.bool (decide (n1 < 8))) w) ∧
 (n1 < 0 →
 R (.bool false) w)

theorem cachetteref12_who.up (n1 : Int) {R : Value → World → Prop} {w : World} (h : cachetteref12_who.N n1 R w) : cachetteref12_who.M n1 R w := by
  unfold cachetteref12_who.M
  unfold cachetteref12_who.N at h
  refine bif_of (fun c2 => ?_) (fun c2 => ?_)
  ·have h := h.1 (of_decide_eq_true c2)
   exact h
  have h := h.2 (Int.not_le.1 (of_decide_eq_false c2))
  exact h

theorem cachetteref12_who.go (n1 : Int) {R : Value → World → Prop} {w : World} (h : cachetteref12_who.N n1 R w) : Calls Try.prog 72 #[.int .i64 n1] w fun e w' => ∃ v, e = .returned v ∧ R v w' := cachetteref12_who.ok n1 (cachetteref12_who.up n1 h)
theorem cachetteref12_who.run (n1 : Int) {V : Value} {Q : World → Prop} {w : World} (h : cachetteref12_who.N n1 (fun v w' => v = V ∧ Q w') w) : Calls Try.prog 72 #[.int .i64 n1] w (Ret V Q) := (cachetteref12_who.go n1 h).mono fun e w' ⟨v, he, hv, hq⟩ => ⟨by rw [he, hv], hq⟩

def cachetteref12_who.F (n1 : Int) : Bool :=
  if n1 ≥ 0 then
    (decide (n1 < 8))
  else
    false
theorem cachetteref12_who.pure (n1 : Int) {w : World} : Calls Try.prog 72 #[.int .i64 n1] w (Ret (.bool (cachetteref12_who.F n1)) fun w' => Ext no w w') := by
  refine cachetteref12_who.run n1 ?_
  unfold cachetteref12_who.N
  refine ⟨fun c0 => ?_, fun c0 => ?_⟩
  ·exact ⟨by unfold cachetteref12_who.F; rw [if_pos c0], Ext.refl _ _⟩
  ·exact ⟨by unfold cachetteref12_who.F; rw [if_neg (show ¬ (n1 ≥ 0) from by omega)], Ext.refl _ _⟩

abbrev cachetteref12_Right.J1 (a3 : Addr) (R : Value → World → Prop) (al : World) : Prop :=
 ∃ (a4 : Int), al.cell? (a3.add 0) = some (.int .i64 a4) ∧
 bif a4 == 1 then (
 ∃ (b9 : Int), al.cell? (a3.add 1) = some (.int .i64 b9) ∧
 Calls Try.prog 72 #[.int .i64 b9] al fun bj am => ∃ (be : Bool), bj = .returned (.bool be) ∧
 bif be then (
 ∃ (aj : Int), am.cell? (a3.add 2) = some (.int .u64 aj) ∧
 bif aj != 0 then (
 ∃ (ao : Int), am.cell? (a3.add 3) = some (.int .i64 ao) ∧
 bif ao == 0 then (
 ∃ (az : Option Addr) (ai : Nat) (b3 : Nat), am.cell? (a3.add 4) = some (.slice az ai b3) ∧
 R (.bool ((ai : Int) == 0)) am) else (
 R (.bool false) am)) else (
 R (.bool false) am)) else (
 R (.bool false) am)) else (
 bif a4 == 2 then (
 ∃ (bd : Int), al.cell? (a3.add 1) = some (.int .i64 bd) ∧
 Calls Try.prog 72 #[.int .i64 bd] al fun bh a2 => ∃ (b5 : Bool), bh = .returned (.bool b5) ∧
 bif b5 then (
 ∃ (b8 : Int), a2.cell? (a3.add 1) = some (.int .i64 b8) ∧
 bif b8 != 0 then (
 ∃ (a8 : Int), a2.cell? (a3.add 2) = some (.int .u64 a8) ∧
 bif a8 == 0 then (
 ∃ (aq : Int), a2.cell? (a3.add 3) = some (.int .i64 aq) ∧
 bif decide (aq ≥ 0) then (
 ∃ (an : Int), a2.cell? (a3.add 3) = some (.int .i64 an) ∧
 bif decide (an ≤ 200) then (
 ∃ (b2 : Option Addr) (ak : Nat) (b0 : Nat), a2.cell? (a3.add 4) = some (.slice b2 ak b0) ∧
 R (.bool ((ak : Int) == 0)) a2) else (
 R (.bool false) a2)) else (
 R (.bool false) a2)) else (
 R (.bool false) a2)) else (
 R (.bool false) a2)) else (
 R (.bool false) a2)) else (
 bif a4 == 3 then (
 ∃ (I1 : Nat → List Value → World → Prop) (bq : Nat), I1 bq [.int .i64 0] al ∧ ∀ (bi : Nat) (a1 : World) (aa : Int), I1 bi [.int .i64 aa] a1 →
 ∃ (ay : Option Addr) (ah : Nat) (av : Nat), a1.cell? (a3.add 4) = some (.slice ay ah av) ∧
 bif decide (aa < (ah : Int)) then (
 thenW (a1.drew) fun bf =>
 ∃ (ad : Option Addr) (ac : Nat) (ar : Nat), bf.cell? (a3.add 4) = some (.slice ad ac ar) ∧
 ad.elim False fun bp =>
 0 ≤ (aa : Int) ∧ (aa : Int) < (ac : Int) ∧
 ∃ (b6 : Int), bf.cell? ((bp.add (Int.toNat aa * 2)).add 0) = some (.int .i64 b6) ∧
 Calls Try.prog 72 #[.int .i64 b6] bf fun bk a0 => ∃ (bc : Bool), bk = .returned (.bool bc) ∧
 bif !bc then (
 R (.bool false) a0) else (
 ∃ (ae : Option Addr) (a7 : Nat) (au : Nat), a0.cell? (a3.add 4) = some (.slice ae a7 au) ∧
 ae.elim False fun bs =>
 0 ≤ (aa : Int) ∧ (aa : Int) < (a7 : Int) ∧
 ∃ (bm : Option Addr) (bg : Nat) (bl : Nat), a0.cell? ((bs.add (Int.toNat aa * 2)).add 1) = some (.slice bm bg bl) ∧
 bif (bg : Int) != 16 then (
 R (.bool false) a0) else (
 bif decide (aa > 0) then (
 ∃ (ag : Option Addr) (a9 : Nat) (b1 : Nat), a0.cell? (a3.add 4) = some (.slice ag a9 b1) ∧
 ag.elim False fun br =>
 0 ≤ ((IntKind.i64.wrap (aa - 1)) : Int) ∧ ((IntKind.i64.wrap (aa - 1)) : Int) < (a9 : Int) ∧
 ∃ (bb : Int), a0.cell? ((br.add (Int.toNat (IntKind.i64.wrap (aa - 1)) * 2)).add 0) = some (.int .i64 bb) ∧
 ∃ (af : Option Addr) (a6 : Nat) (b4 : Nat), a0.cell? (a3.add 4) = some (.slice af a6 b4) ∧
 af.elim False fun bt =>
 0 ≤ (aa : Int) ∧ (aa : Int) < (a6 : Int) ∧
 ∃ (b7 : Int), a0.cell? ((bt.add (Int.toNat aa * 2)).add 0) = some (.int .i64 b7) ∧
 bif decide (bb ≥ b7) then (
 R (.bool false) a0) else (
 ∃ bo, bo < bi ∧ I1 bo [.int .i64 (IntKind.i64.wrap (aa + 1))] a0)) else (
 ∃ bn, bn < bi ∧ I1 bn [.int .i64 (IntKind.i64.wrap (aa + 1))] a0)))) else (
 ∃ (ba : Int), a1.cell? (a3.add 1) = some (.int .i64 ba) ∧
 bif ba == 0 then (
 ∃ (a5 : Int), a1.cell? (a3.add 2) = some (.int .u64 a5) ∧
 bif a5 == 0 then (
 ∃ (ap : Int), a1.cell? (a3.add 3) = some (.int .i64 ap) ∧
 bif ap == 0 then (
 ∃ (aw : Option Addr) (ab : Nat) (ax : Nat), a1.cell? (a3.add 4) = some (.slice aw ab ax) ∧
 R (.bool (decide ((ab : Int) > 0))) a1) else (
 R (.bool false) a1)) else (
 R (.bool false) a1)) else (
 R (.bool false) a1))) else (
 R (.bool false) al)))

def cachetteref12_Right.M (a9 : Int) (af : Int) (a2 : Int) (a5 : Int) (a0 : Option Addr) (a1 : Nat) (a4 : Nat) (a8 : Option Addr) (ab : Nat) (ad : Nat) (R : Value → World → Prop) (w : World) : Prop :=
 thenW (w.alloc (.cells #[.int .i64 a9, .int .i64 af, .int .u64 a2, .int .i64 a5, .slice a0 a1 a4, .slice a8 ab ad] 67)) fun aa =>
 ∃ (ag : Option Addr) (a7 : Nat) (ah : Nat), aa.cell? ((blk w.heap.size).add 5) = some (.slice ag a7 ah) ∧
 bif (a7 : Int) != 0 then (
 ∃ (a6 : Int), aa.cell? ((blk w.heap.size).add 0) = some (.int .i64 a6) ∧
 bif a6 != 3 then (
 R (.bool false) aa) else (
 ∃ (ae : Option Addr) (a3 : Nat) (ac : Nat), aa.cell? ((blk w.heap.size).add 5) = some (.slice ae a3 ac) ∧
 bif (a3 : Int) != 24 then (
 R (.bool false) aa) else (
 cachetteref12_Right.J1 (blk w.heap.size) R aa))) else (
 cachetteref12_Right.J1 (blk w.heap.size) R aa)

theorem cachetteref12_Right.eq (cKind1 : Int) (cWho2 : Int) (cPublic3 : Int) (cLimit4 : Int) (cWraps5a : Option Addr) (cWraps5n : Nat) (cWraps5c : Nat) (cOld6a : Option Addr) (cOld6n : Nat) (cOld6c : Nat) (R : Value → World → Prop) (w : World) : mfunc Try.prog [(1, [1], [(3, (.one (.int .i64)))])] 43 [.agg #[.int .i64 cKind1, .int .i64 cWho2, .int .u64 cPublic3, .int .i64 cLimit4, .slice cWraps5a cWraps5n cWraps5c, .slice cOld6a cOld6n cOld6c]] R w = cachetteref12_Right.M cKind1 cWho2 cPublic3 cLimit4 cWraps5a cWraps5n cWraps5c cOld6a cOld6n cOld6c R w := by kernel_rfl
theorem cachetteref12_Right.ok (a6 : Int) (a9 : Int) (a2 : Int) (a4 : Int) (a0 : Option Addr) (a1 : Nat) (a3 : Nat) (a5 : Option Addr) (a7 : Nat) (a8 : Nat) {R : Value → World → Prop} {w : World} (h : cachetteref12_Right.M a6 a9 a2 a4 a0 a1 a3 a5 a7 a8 R w) : Calls Try.prog 43 #[.agg #[.int .i64 a6, .int .i64 a9, .int .u64 a2, .int .i64 a4, .slice a0 a1 a3, .slice a5 a7 a8]] w fun e w' => ∃ v, e = .returned v ∧ R v w' :=
  mfunc_ok follows (H := [(1, [1], [(3, (.one (.int .i64)))])]) (args := [.agg #[.int .i64 a6, .int .i64 a9, .int .u64 a2, .int .i64 a4, .slice a0 a1 a3, .slice a5 a7 a8]]) (by rw [cachetteref12_Right.eq]; exact h)

def cachetteref12_Right.N (a3 : Int) (a4 : Int) (a2 : Int) (a1 : Int) (ag : Option Addr) (a0 : Nat) (au : Nat) (b4 : Option Addr) (af : Nat) (b3 : Nat) (R : Value → World → Prop) (w : World) : Prop :=
 ((af : Int) ≠ 0 →
 (a3 ≠ 3 →
 ∀ (ah : World), Ext no w ah →
 R (.bool false) ah) ∧
 (a3 = 3 →
 ((af : Int) ≠ 24 →
 ∀ (ah : World), Ext no w ah →
 R (.bool false) ah) ∧
 ((af : Int) = 24 →
 (a3 = 1 →
 ((cachetteref12_who.F a4) = true →
 (a2 ≠ 0 →
 (a1 = 0 →
 ∀ (ae : World), Ext no w ae →
 R (.bool ((a0 : Int) == 0)) ae) ∧
 (a1 ≠ 0 →
 ∀ (ae : World), Ext no w ae →
 R (.bool false) ae)) ∧
 (a2 = 0 →
 ∀ (ae : World), Ext no w ae →
 R (.bool false) ae)) ∧
 ((cachetteref12_who.F a4) = false →
 ∀ (ae : World), Ext no w ae →
 R (.bool false) ae)) ∧
 (a3 ≠ 1 →
 (a3 = 2 →
 ((cachetteref12_who.F a4) = true →
 (a4 ≠ 0 →
 (a2 = 0 →
 (a1 ≥ 0 →
 (a1 ≤ 200 →
 ∀ (a6 : World), Ext no w a6 →
 R (.bool ((a0 : Int) == 0)) a6) ∧
 ((200 : Int) < a1 →
 ∀ (a6 : World), Ext no w a6 →
 R (.bool false) a6)) ∧
 (a1 < 0 →
 ∀ (a6 : World), Ext no w a6 →
 R (.bool false) a6)) ∧
 (a2 ≠ 0 →
 ∀ (a6 : World), Ext no w a6 →
 R (.bool false) a6)) ∧
 (a4 = 0 →
 ∀ (a6 : World), Ext no w a6 →
 R (.bool false) a6)) ∧
 ((cachetteref12_who.F a4) = false →
 ∀ (a6 : World), Ext no w a6 →
 R (.bool false) a6)) ∧
 (a3 ≠ 2 →
 (a3 = 3 →
 ∀ (ah : World), Ext no w ah →
 ∃ (I1 : Nat → List Value → World → Prop) (b8 : Nat), I1 b8 [.int .i64 0] ah ∧ ∀ (az : Nat) (a8 : World) (ac : Int), I1 az [.int .i64 ac] a8 →
 (ac < (a0 : Int) →
 ∃ aw : Addr, ag = some aw ∧
 0 ≤ (ac : Int) ∧ (ac : Int) < (a0 : Int) ∧
 ∃ (al : Int), a8.cell? ((aw.add (Int.toNat ac * 2)).add 0) = some (.int .i64 al) ∧
 ((cachetteref12_who.F al) = false →
 ∀ (aa : World), Ext no a8 aa →
 R (.bool false) aa) ∧
 ((cachetteref12_who.F al) = true →
 0 ≤ (ac : Int) ∧ (ac : Int) < (a0 : Int) ∧
 ∃ (b1 : Option Addr) (ap : Nat) (b0 : Nat), a8.cell? ((aw.add (Int.toNat ac * 2)).add 1) = some (.slice b1 ap b0) ∧
 ((ap : Int) ≠ 16 →
 ∀ (aa : World), Ext no a8 aa →
 R (.bool false) aa) ∧
 ((ap : Int) = 16 →
 (ac > 0 →
 (-9223372036854775808 : Int) ≤ (ac - 1) ∧ (ac - 1) < 9223372036854775808 ∧
 0 ≤ ((ac - 1) : Int) ∧ ((ac - 1) : Int) < (a0 : Int) ∧
 ∃ (am : Int), a8.cell? ((aw.add (Int.toNat (ac - 1) * 2)).add 0) = some (.int .i64 am) ∧
 0 ≤ (ac : Int) ∧ (ac : Int) < (a0 : Int) ∧
 ∃ (an : Int), a8.cell? ((aw.add (Int.toNat ac * 2)).add 0) = some (.int .i64 an) ∧
 (am ≥ an →
 ∀ (aa : World), Ext no a8 aa →
 R (.bool false) aa) ∧
 (am < an →
 (-9223372036854775808 : Int) ≤ (ac + 1) ∧ (ac + 1) < 9223372036854775808 ∧
 ∀ (aa : World), Ext no a8 aa →
 ∃ b6, b6 < az ∧ I1 b6 [.int .i64 (ac + 1)] aa)) ∧
 (ac ≤ 0 →
 (-9223372036854775808 : Int) ≤ (ac + 1) ∧ (ac + 1) < 9223372036854775808 ∧
 ∀ (aa : World), Ext no a8 aa →
 ∃ b5, b5 < az ∧ I1 b5 [.int .i64 (ac + 1)] aa)))) ∧
 ((a0 : Int) ≤ ac →
 (a4 = 0 →
 (a2 = 0 →
 (a1 = 0 →
 R (.bool (decide ((a0 : Int) > 0))) a8) ∧
 (a1 ≠ 0 →
 R (.bool false) a8)) ∧
 (a2 ≠ 0 →
 R (.bool false) a8)) ∧
 (a4 ≠ 0 →
 R (.bool false) a8))) ∧
 (a3 ≠ 3 →
 ∀ (ah : World), Ext no w ah →
 R (.bool false) ah)))))) ∧
 ((af : Int) = 0 →
 (a3 = 1 →
 ((cachetteref12_who.F a4) = true →
 (a2 ≠ 0 →
 (a1 = 0 →
 ∀ (ad : World), Ext no w ad →
 R (.bool ((a0 : Int) == 0)) ad) ∧
 (a1 ≠ 0 →
 ∀ (ad : World), Ext no w ad →
 R (.bool false) ad)) ∧
 (a2 = 0 →
 ∀ (ad : World), Ext no w ad →
 R (.bool false) ad)) ∧
 ((cachetteref12_who.F a4) = false →
 ∀ (ad : World), Ext no w ad →
 R (.bool false) ad)) ∧
 (a3 ≠ 1 →
 (a3 = 2 →
 ((cachetteref12_who.F a4) = true →
 (a4 ≠ 0 →
 (a2 = 0 →
 (a1 ≥ 0 →
 (a1 ≤ 200 →
 ∀ (a5 : World), Ext no w a5 →
 R (.bool ((a0 : Int) == 0)) a5) ∧
 ((200 : Int) < a1 →
 ∀ (a5 : World), Ext no w a5 →
 R (.bool false) a5)) ∧
 (a1 < 0 →
 ∀ (a5 : World), Ext no w a5 →
 R (.bool false) a5)) ∧
 (a2 ≠ 0 →
 ∀ (a5 : World), Ext no w a5 →
 R (.bool false) a5)) ∧
 (a4 = 0 →
 ∀ (a5 : World), Ext no w a5 →
 R (.bool false) a5)) ∧
 ((cachetteref12_who.F a4) = false →
 ∀ (a5 : World), Ext no w a5 →
 R (.bool false) a5)) ∧
 (a3 ≠ 2 →
 (a3 = 3 →
 ∀ (ah : World), Ext no w ah →
 ∃ (I1 : Nat → List Value → World → Prop) (b7 : Nat), I1 b7 [.int .i64 0] ah ∧ ∀ (b2 : Nat) (a9 : World) (ab : Int), I1 b2 [.int .i64 ab] a9 →
 (ab < (a0 : Int) →
 ∃ aq : Addr, ag = some aq ∧
 0 ≤ (ab : Int) ∧ (ab : Int) < (a0 : Int) ∧
 ∃ (ak : Int), a9.cell? ((aq.add (Int.toNat ab * 2)).add 0) = some (.int .i64 ak) ∧
 ((cachetteref12_who.F ak) = false →
 ∀ (a7 : World), Ext no a9 a7 →
 R (.bool false) a7) ∧
 ((cachetteref12_who.F ak) = true →
 0 ≤ (ab : Int) ∧ (ab : Int) < (a0 : Int) ∧
 ∃ (ax : Option Addr) (ao : Nat) (ay : Nat), a9.cell? ((aq.add (Int.toNat ab * 2)).add 1) = some (.slice ax ao ay) ∧
 ((ao : Int) ≠ 16 →
 ∀ (a7 : World), Ext no a9 a7 →
 R (.bool false) a7) ∧
 ((ao : Int) = 16 →
 (ab > 0 →
 (-9223372036854775808 : Int) ≤ (ab - 1) ∧ (ab - 1) < 9223372036854775808 ∧
 0 ≤ ((ab - 1) : Int) ∧ ((ab - 1) : Int) < (a0 : Int) ∧
 ∃ (aj : Int), a9.cell? ((aq.add (Int.toNat (ab - 1) * 2)).add 0) = some (.int .i64 aj) ∧
 0 ≤ (ab : Int) ∧ (ab : Int) < (a0 : Int) ∧
 ∃ (ai : Int), a9.cell? ((aq.add (Int.toNat ab * 2)).add 0) = some (.int .i64 ai) ∧
 (aj ≥ ai →
 ∀ (a7 : World), Ext no a9 a7 →
 R (.bool false) a7) ∧
 (aj < ai →
 (-9223372036854775808 : Int) ≤ (ab + 1) ∧ (ab + 1) < 9223372036854775808 ∧
 ∀ (a7 : World), Ext no a9 a7 →
 ∃ av, av < b2 ∧ I1 av [.int .i64 (ab + 1)] a7)) ∧
 (ab ≤ 0 →
 (-9223372036854775808 : Int) ≤ (ab + 1) ∧ (ab + 1) < 9223372036854775808 ∧
 ∀ (a7 : World), Ext no a9 a7 →
 ∃ ar, ar < b2 ∧ I1 ar [.int .i64 (ab + 1)] a7)))) ∧
 ((a0 : Int) ≤ ab →
 (a4 = 0 →
 (a2 = 0 →
 (a1 = 0 →
 R (.bool (decide ((a0 : Int) > 0))) a9) ∧
 (a1 ≠ 0 →
 R (.bool false) a9)) ∧
 (a2 ≠ 0 →
 R (.bool false) a9)) ∧
 (a4 ≠ 0 →
 R (.bool false) a9))) ∧
 (a3 ≠ 3 →
 ∀ (ah : World), Ext no w ah →
 R (.bool false) ah))))

theorem cachetteref12_Right.up (a7 : Int) (a6 : Int) (a3 : Int) (a4 : Int) (a0 : Option Addr) (a2 : Nat) (a1 : Nat) (aa : Option Addr) (a8 : Nat) (a9 : Nat) {R : Value → World → Prop} {w : World} (h : cachetteref12_Right.N a7 a6 a3 a4 a0 a2 a1 aa a8 a9 R w) : cachetteref12_Right.M a7 a6 a3 a4 a0 a2 a1 aa a8 a9 R w := by
  unfold cachetteref12_Right.M
  unfold cachetteref12_Right.N at h
  refine thenW_in fun ap e7 => ?_
  have a5 := Blk.of_new e7
  have bq := ((Ext.refl no w)).size
  have ai := (Ext.refl no w).x_alloc e7
  refine ⟨aa, a8, a9, a5.celli 5 rfl rfl, ?_⟩
  refine bif_of (fun c8 => ?_) (fun c8 => ?_)
  have h := h.1 (bne_t c8)
  refine ⟨a7, a5.celli 0 rfl rfl, ?_⟩
  refine bif_of (fun c9 => ?_) (fun c9 => ?_)
  ·have h := h.1 (bne_t c9)
   have h := h ap ai
   exact h
  have h := h.2 (bne_f c9)
  refine ⟨aa, a8, a9, a5.celli 5 rfl rfl, ?_⟩
  refine bif_of (fun b2 => ?_) (fun b2 => ?_)
  ·have h := h.1 (bne_t b2)
   have h := h ap ai
   exact h
  have h := h.2 (bne_f b2)
  rotate_left
  have h := h.2 (bne_f c8)
  rotate_left
  all_goals
   unfold cachetteref12_Right.J1
   refine ⟨a7, a5.celli 0 rfl rfl, ?_⟩
   refine bif_of (fun aw => ?_) (fun aw => ?_)
   ·have h := h.1 (beq_t aw)
    refine ⟨a6, a5.celli 1 rfl rfl, ?_⟩
    refine (cachetteref12_who.pure a6).mono fun ee ww14 ⟨he, hxx⟩ => ⟨(cachetteref12_who.F a6), he, ?_⟩
    have ae := ai.trans hxx
    have a5 := a5.ext hxx id
    refine bif_fo (fun av => ?_) (fun av => ?_)
    ·have h := h.2 av
     have h := h ww14 ae
     exact h
    have h := h.1 av
    refine ⟨a3, a5.celli 2 rfl rfl, ?_⟩
    refine bif_fo (fun b8 => ?_) (fun b8 => ?_)
    ·have h := h.2 (bne_f b8)
     have h := h ww14 ae
     exact h
    have h := h.1 (bne_t b8)
    refine ⟨a4, a5.celli 3 rfl rfl, ?_⟩
    refine bif_fo (fun b0 => ?_) (fun b0 => ?_)
    ·have h := h.2 (beq_f b0)
     have h := h ww14 ae
     exact h
    have h := h.1 (beq_t b0)
    refine ⟨a0, a2, a1, a5.celli 4 rfl rfl, ?_⟩
    have h := h ww14 ae
    exact h
   have h := h.2 (beq_f aw)
   refine bif_of (fun b4 => ?_) (fun b4 => ?_)
   ·have h := h.1 (beq_t b4)
    refine ⟨a6, a5.celli 1 rfl rfl, ?_⟩
    refine (cachetteref12_who.pure a6).mono fun ee ww23 ⟨he, hxx⟩ => ⟨(cachetteref12_who.F a6), he, ?_⟩
    have ac := ai.trans hxx
    have a5 := a5.ext hxx id
    refine bif_fo (fun b9 => ?_) (fun b9 => ?_)
    ·have h := h.2 b9
     have h := h ww23 ac
     exact h
    have h := h.1 b9
    refine ⟨a6, a5.celli 1 rfl rfl, ?_⟩
    refine bif_fo (fun aq => ?_) (fun aq => ?_)
    ·have h := h.2 (bne_f aq)
     have h := h ww23 ac
     exact h
    have h := h.1 (bne_t aq)
    refine ⟨a3, a5.celli 2 rfl rfl, ?_⟩
    refine bif_fo (fun az => ?_) (fun az => ?_)
    ·have h := h.2 (beq_f az)
     have h := h ww23 ac
     exact h
    have h := h.1 (beq_t az)
    refine ⟨a4, a5.celli 3 rfl rfl, ?_⟩
    refine bif_fo (fun bg => ?_) (fun bg => ?_)
    ·have h := h.2 (Int.not_le.1 (of_decide_eq_false bg))
     have h := h ww23 ac
     exact h
    have h := h.1 (of_decide_eq_true bg)
    refine ⟨a4, a5.celli 3 rfl rfl, ?_⟩
    refine bif_fo (fun bh => ?_) (fun bh => ?_)
    ·have h := h.2 (Int.not_le.1 (of_decide_eq_false bh))
     have h := h ww23 ac
     exact h
    have h := h.1 (of_decide_eq_true bh)
    refine ⟨a0, a2, a1, a5.celli 4 rfl rfl, ?_⟩
    have h := h ww23 ac
    exact h
   have h := h.2 (beq_f b4)
   refine bif_fo (fun bd => ?_) (fun bd => ?_)
   ·have h := h.2 (beq_f bd)
    have h := h ap ai
    exact h
   have h := h.1 (beq_t bd)
   have h := h ap ai
   obtain ⟨I1, bp, h0, h⟩ := h
   refine ⟨fun k vs ww => Blk ww w.heap.size 67 [.int .i64 a7, .int .i64 a6, .int .u64 a3, .int .i64 a4, .slice a0 a2 a1, .slice aa a8 a9] ∧ I1 k vs ww, bp, ⟨a5, h0⟩, fun bk aj bm hI => ?_⟩
   obtain ⟨a5, hI⟩ := hI
   have h := h bk aj bm hI
   refine ⟨a0, a2, a1, a5.celli 4 rfl rfl, ?_⟩
   refine bif_fo (fun bf => ?_) (fun bf => ?_)
   ·have h := h.2 (Int.not_lt.1 (of_decide_eq_false bf))
    refine ⟨a6, a5.celli 1 rfl rfl, ?_⟩
    refine bif_fo (fun au => ?_) (fun au => ?_)
    ·have h := h.2 (beq_f au)
     exact h
    have h := h.1 (beq_t au)
    refine ⟨a3, a5.celli 2 rfl rfl, ?_⟩
    refine bif_fo (fun ay => ?_) (fun ay => ?_)
    ·have h := h.2 (beq_f ay)
     exact h
    have h := h.1 (beq_t ay)
    refine ⟨a4, a5.celli 3 rfl rfl, ?_⟩
    refine bif_fo (fun b3 => ?_) (fun b3 => ?_)
    ·have h := h.2 (beq_f b3)
     exact h
    have h := h.1 (beq_t b3)
    refine ⟨a0, a2, a1, a5.celli 4 rfl rfl, ?_⟩
    exact h
   have h := h.1 (of_decide_eq_true bf)
   refine thenW_in fun bn bj => ?_
   have am := (Ext.refl no aj).x_drew bj
   have a5 := a5.x_drew bj
   refine ⟨a0, a2, a1, a5.celli 4 rfl rfl, ?_⟩
   obtain ⟨br, af, h⟩ := h
   refine elim_some af ?_
   obtain ⟨ag, ah, h⟩ := h
   refine ⟨ag, ah, ?_⟩
   obtain ⟨ad, bb, h⟩ := h
   refine ⟨ad, (am).cell bb id, ?_⟩
   refine (cachetteref12_who.pure ad).mono fun ee ww46 ⟨he, hxx⟩ => ⟨(cachetteref12_who.F ad), he, ?_⟩
   have ab := am.trans hxx
   have a5 := a5.ext hxx id
   refine bif_of (fun ba => ?_) (fun ba => ?_)
   ·have h := h.1 (not_t ba)
    have h := h ww46 ab
    exact h
   have h := h.2 (not_f ba)
   refine ⟨a0, a2, a1, a5.celli 4 rfl rfl, ?_⟩
   refine elim_some af ?_
   obtain ⟨ag, ah, h⟩ := h
   refine ⟨ag, ah, ?_⟩
   obtain ⟨b5, bi, b1, be, h⟩ := h
   refine ⟨b5, bi, b1, (ab).cell be id, ?_⟩
   refine bif_of (fun b6 => ?_) (fun b6 => ?_)
   ·have h := h.1 (bne_t b6)
    have h := h ww46 ab
    exact h
   have h := h.2 (bne_f b6)
   refine bif_fo (fun ar => ?_) (fun ar => ?_)
   ·have h := h.2 (Int.not_lt.1 (of_decide_eq_false ar))
    obtain ⟨ak, an, h⟩ := h
    try rw [w64 ak an]
    have h := h ww46 ab
    obtain ⟨bl, hk, h⟩ := h
    exact ⟨bl, hk, a5, h⟩
   have h := h.1 (of_decide_eq_true ar)
   refine ⟨a0, a2, a1, a5.celli 4 rfl rfl, ?_⟩
   obtain ⟨ak, an, h⟩ := h
   try rw [w64 ak an]
   refine elim_some af ?_
   obtain ⟨ag, ah, h⟩ := h
   refine ⟨ag, ah, ?_⟩
   obtain ⟨al, b7, h⟩ := h
   refine ⟨al, (ab).cell b7 id, ?_⟩
   refine ⟨a0, a2, a1, a5.celli 4 rfl rfl, ?_⟩
   refine elim_some af ?_
   obtain ⟨ag, ah, h⟩ := h
   refine ⟨ag, ah, ?_⟩
   obtain ⟨ao, bc, h⟩ := h
   refine ⟨ao, (ab).cell bc id, ?_⟩
   refine bif_of (fun ax => ?_) (fun ax => ?_)
   ·have h := h.1 (of_decide_eq_true ax)
    have h := h ww46 ab
    exact h
   have h := h.2 (Int.not_le.1 (of_decide_eq_false ax))
   obtain ⟨ak, an, h⟩ := h
   try rw [w64 ak an]
   have h := h ww46 ab
   obtain ⟨bo, hk, h⟩ := h
   exact ⟨bo, hk, a5, h⟩

theorem cachetteref12_Right.go (a6 : Int) (a9 : Int) (a2 : Int) (a4 : Int) (a0 : Option Addr) (a1 : Nat) (a3 : Nat) (a5 : Option Addr) (a7 : Nat) (a8 : Nat) {R : Value → World → Prop} {w : World} (h : cachetteref12_Right.N a6 a9 a2 a4 a0 a1 a3 a5 a7 a8 R w) : Calls Try.prog 43 #[.agg #[.int .i64 a6, .int .i64 a9, .int .u64 a2, .int .i64 a4, .slice a0 a1 a3, .slice a5 a7 a8]] w fun e w' => ∃ v, e = .returned v ∧ R v w' := cachetteref12_Right.ok a6 a9 a2 a4 a0 a1 a3 a5 a7 a8 (cachetteref12_Right.up a6 a9 a2 a4 a0 a1 a3 a5 a7 a8 h)
theorem cachetteref12_Right.run (a6 : Int) (a9 : Int) (a2 : Int) (a4 : Int) (a0 : Option Addr) (a1 : Nat) (a3 : Nat) (a5 : Option Addr) (a7 : Nat) (a8 : Nat) {V : Value} {Q : World → Prop} {w : World} (h : cachetteref12_Right.N a6 a9 a2 a4 a0 a1 a3 a5 a7 a8 (fun v w' => v = V ∧ Q w') w) : Calls Try.prog 43 #[.agg #[.int .i64 a6, .int .i64 a9, .int .u64 a2, .int .i64 a4, .slice a0 a1 a3, .slice a5 a7 a8]] w (Ret V Q) := (cachetteref12_Right.go a6 a9 a2 a4 a0 a1 a3 a5 a7 a8 h).mono fun e w' ⟨v, he, hv, hq⟩ => ⟨by rw [he, hv], hq⟩

def cachetteref12_Find.M (b0 : Option Addr) (b4 : Nat) (b2 : Nat) (ag : Int) (b3 : Int) (R : Value → World → Prop) (w : World) : Prop :=
 thenW (w.alloc (.cells #[.slice b0 b4 b2, .int .i64 ag] 46)) fun a2 =>
 thenW (a2.alloc (.cells #[.int .i64 0, .int .u64 0, .int .i64 0, .int .i64 0, .int .i64 0] 121)) fun b9 =>
 ∃ (I0 : Nat → List Value → World → Prop) (m7 : Nat), I0 m7 [.int .i64 0] b9 ∧ ∀ (m8 : Nat) (af : World) (i6 : Int), I0 m8 [.int .i64 i6] af →
 ∃ (b1 : Option Addr) (aj : Nat) (b7 : Nat), af.cell? ((blk w.heap.size).add 0) = some (.slice b1 aj b7) ∧
 bif decide (i6 < (aj : Int)) then (
 ∃ (an : Option Addr) (ay : Nat) (b6 : Nat), af.cell? ((blk w.heap.size).add 0) = some (.slice an ay b6) ∧
 an.elim False fun ba =>
 0 ≤ (i6 : Int) ∧ (i6 : Int) < (ay : Int) ∧
 ∃ (ai : Int), af.cell? ((ba.add (Int.toNat i6 * 5)).add 0) = some (.int .i64 ai) ∧
 bif ai == b3 then (
 ∃ (al : Option Addr) (aq : Nat) (b5 : Nat), af.cell? ((blk w.heap.size).add 0) = some (.slice al aq b5) ∧
 al.elim False fun bb =>
 0 ≤ (i6 : Int) ∧ (i6 : Int) < (aq : Int) ∧
 ∃ (ae : Int) (a6 : Int) (ac : Int) (ah : Int) (aa : Int), cellsAt af (bb.add (Int.toNat i6 * 5)) [.int .i64 ae, .int .u64 a6, .int .i64 ac, .int .i64 ah, .int .i64 aa] 0 ∧
 canStore af ((blk a2.heap.size).add 0) ∧
 thenW (af.setCell ((blk a2.heap.size).add 0) (.int .i64 ae)) fun ar =>
 canStore ar ((blk a2.heap.size).add 1) ∧
 thenW (ar.setCell ((blk a2.heap.size).add 1) (.int .u64 a6)) fun aw =>
 canStore aw ((blk a2.heap.size).add 2) ∧
 thenW (aw.setCell ((blk a2.heap.size).add 2) (.int .i64 ac)) fun ap =>
 canStore ap ((blk a2.heap.size).add 3) ∧
 thenW (ap.setCell ((blk a2.heap.size).add 3) (.int .i64 ah)) fun au =>
 canStore au ((blk a2.heap.size).add 4) ∧
 thenW (au.setCell ((blk a2.heap.size).add 4) (.int .i64 aa)) fun az =>
 ∃ (a9 : Int) (a1 : Int) (a7 : Int) (ad : Int) (a3 : Int), cellsAt az (blk a2.heap.size) [.int .i64 a9, .int .u64 a1, .int .i64 a7, .int .i64 ad, .int .i64 a3] 0 ∧
 R (.tuple #[.agg #[.int .i64 a9, .int .u64 a1, .int .i64 a7, .int .i64 ad, .int .i64 a3], .bool true]) az) else (
 ∃ b8, b8 < m8 ∧ I0 b8 [.int .i64 (IntKind.i64.wrap (i6 + 1))] af)) else (
 canStore af ((blk a2.heap.size).add 0) ∧
 thenW (af.setCell ((blk a2.heap.size).add 0) (.int .i64 0)) fun ax =>
 canStore ax ((blk a2.heap.size).add 1) ∧
 thenW (ax.setCell ((blk a2.heap.size).add 1) (.int .u64 0)) fun ak =>
 canStore ak ((blk a2.heap.size).add 2) ∧
 thenW (ak.setCell ((blk a2.heap.size).add 2) (.int .i64 0)) fun av =>
 canStore av ((blk a2.heap.size).add 3) ∧
 thenW (av.setCell ((blk a2.heap.size).add 3) (.int .i64 0)) fun am =>
 canStore am ((blk a2.heap.size).add 4) ∧
 thenW (am.setCell ((blk a2.heap.size).add 4) (.int .i64 0)) fun ao =>
 ∃ (a8 : Int) (a0 : Int) (a5 : Int) (ab : Int) (a4 : Int), cellsAt ao (blk a2.heap.size) [.int .i64 a8, .int .u64 a0, .int .i64 a5, .int .i64 ab, .int .i64 a4] 0 ∧
 R (.tuple #[.agg #[.int .i64 a8, .int .u64 a0, .int .i64 a5, .int .i64 ab, .int .i64 a4], .bool false]) ao)

theorem cachetteref12_Find.eq (sL1a : Option Addr) (sL1n : Nat) (sL1c : Nat) (sEpoch2 : Int) (who3 : Int) (R : Value → World → Prop) (w : World) : mfunc Try.prog [(0, [1, 2, 4], [(6, (.one (.int .i64)))])] 44 [.agg #[.slice sL1a sL1n sL1c, .int .i64 sEpoch2], .int .i64 who3] R w = cachetteref12_Find.M sL1a sL1n sL1c sEpoch2 who3 R w := by kernel_rfl
theorem cachetteref12_Find.ok (a1 : Option Addr) (a2 : Nat) (a3 : Nat) (a0 : Int) (a4 : Int) {R : Value → World → Prop} {w : World} (h : cachetteref12_Find.M a1 a2 a3 a0 a4 R w) : Calls Try.prog 44 #[.agg #[.slice a1 a2 a3, .int .i64 a0], .int .i64 a4] w fun e w' => ∃ v, e = .returned v ∧ R v w' :=
  mfunc_ok follows (H := [(0, [1, 2, 4], [(6, (.one (.int .i64)))])]) (args := [.agg #[.slice a1 a2 a3, .int .i64 a0], .int .i64 a4]) (by rw [cachetteref12_Find.eq]; exact h)

def cachetteref12_Find.N (ah : Option Addr) (a9 : Nat) (am : Nat) (ag : Int) (ab : Int) (R : Value → World → Prop) (w : World) : Prop :=
 ∀ (ai : World) (p7 : Nat), Ext no w ai → Priv w ai [p7] →
 ∃ (I0 : Nat → List Value → World → Prop) (an : Nat), I0 an [.int .i64 0, .int .i64 0, .int .u64 0, .int .i64 0, .int .i64 0, .int .i64 0] ai ∧ ∀ (ak : Nat) (a5 : World) (i8 : Int) (ae : Int) (a2 : Int) (a8 : Int) (ac : Int) (a3 : Int), I0 ak [.int .i64 i8, .int .i64 ae, .int .u64 a2, .int .i64 a8, .int .i64 ac, .int .i64 a3] a5 →
 (i8 < (a9 : Int) →
 ∃ aj : Addr, ah = some aj ∧
 0 ≤ (i8 : Int) ∧ (i8 : Int) < (a9 : Int) ∧
 ∃ (a7 : Int), a5.cell? ((aj.add (Int.toNat i8 * 5)).add 0) = some (.int .i64 a7) ∧
 (a7 = ab →
 0 ≤ (i8 : Int) ∧ (i8 : Int) < (a9 : Int) ∧
 ∃ (a6 : Int) (a0 : Int) (a4 : Int) (aa : Int) (a1 : Int), cellsAt a5 (aj.add (Int.toNat i8 * 5)) [.int .i64 a6, .int .u64 a0, .int .i64 a4, .int .i64 aa, .int .i64 a1] 0 ∧
 ∀ (af : World), Ext (fun b => b = p7) a5 af →
 R (.tuple #[.agg #[.int .i64 a6, .int .u64 a0, .int .i64 a4, .int .i64 aa, .int .i64 a1], .bool true]) af) ∧
 (a7 ≠ ab →
 (-9223372036854775808 : Int) ≤ (i8 + 1) ∧ (i8 + 1) < 9223372036854775808 ∧
 ∃ al, al < ak ∧ I0 al [.int .i64 (i8 + 1), .int .i64 ae, .int .u64 a2, .int .i64 a8, .int .i64 ac, .int .i64 a3] a5)) ∧
 ((a9 : Int) ≤ i8 →
 ∀ (ad : World), Ext (fun b => b = p7) a5 ad →
 R (.tuple #[.agg #[.int .i64 0, .int .u64 0, .int .i64 0, .int .i64 0, .int .i64 0], .bool false]) ad)

theorem cachetteref12_Find.up (ad : Option Addr) (af : Nat) (ae : Nat) (aa : Int) (aj : Int) {R : Value → World → Prop} {w : World} (h : cachetteref12_Find.N ad af ae aa aj R w) : cachetteref12_Find.M ad af ae aa aj R w := by
  unfold cachetteref12_Find.M
  unfold cachetteref12_Find.N at h
  refine thenW_in fun a7 e4 => ?_
  have ah := Blk.of_new e4
  have c1 := ((Ext.refl no w)).size
  have bl := (Ext.refl no w).x_alloc e4
  refine thenW_in fun br e5 => ?_
  have a3 := Blk.of_new e5
  have bx := (bl).size
  have bg := Nat.ne_of_lt ah.lt
  have ah := ah.x_alloc e5
  have bz := bl.x_alloc e5
  have h := h br (a7.heap.size) bz (Priv.cons bx a3.lt Priv.nil)
  obtain ⟨I0, bt, h0, h⟩ := h
  refine ⟨fun k vs ww => ∃ (ag : Int) (a2 : Int) (a4 : Int) (a9 : Int) (a0 : Int), Blk ww w.heap.size 46 [.slice ad af ae, .int .i64 aa] ∧ Blk ww a7.heap.size 121 [.int .i64 ag, .int .u64 a2, .int .i64 a4, .int .i64 a9, .int .i64 a0] ∧ I0 k (vs ++ [.int .i64 ag, .int .u64 a2, .int .i64 a4, .int .i64 a9, .int .i64 a0]) ww, bt, ⟨0, 0, 0, 0, 0, ah, a3, h0⟩, fun bu ab i8 hI => ?_⟩
  obtain ⟨ag, a2, a4, a9, a0, ah, a3, hI⟩ := hI
  have h := h bu ab i8 ag a2 a4 a9 a0 hI
  refine ⟨ad, af, ae, ah.celli 0 rfl rfl, ?_⟩
  refine bif_fo (fun ay => ?_) (fun ay => ?_)
  ·have h := h.2 (Int.not_lt.1 (of_decide_eq_false ay))
   have b7 : Ext (fun b => b = a7.heap.size) ab ab := ((Ext.refl no ab)).none
   refine ⟨a3.cani 0 rfl rfl, thenW_in fun bc bj => ?_⟩
   have be := b7.x_set (q := a7.heap.size) (i := 0) rfl (.inl rfl) bj
   have a3 : Blk bc a7.heap.size 121 [.int .i64 0, .int .u64 a2, .int .i64 a4, .int .i64 a9, .int .i64 a0] := a3.seti 0 rfl bj
   refine ⟨a3.cani 1 rfl rfl, thenW_in fun au bk => ?_⟩
   have aw := be.x_set (q := a7.heap.size) (i := 1) rfl (.inl rfl) bk
   have a3 : Blk au a7.heap.size 121 [.int .i64 0, .int .u64 0, .int .i64 a4, .int .i64 a9, .int .i64 a0] := a3.seti 1 rfl bk
   refine ⟨a3.cani 2 rfl rfl, thenW_in fun b4 bm => ?_⟩
   have b9 := aw.x_set (q := a7.heap.size) (i := 2) rfl (.inl rfl) bm
   have a3 : Blk b4 a7.heap.size 121 [.int .i64 0, .int .u64 0, .int .i64 0, .int .i64 a9, .int .i64 a0] := a3.seti 2 rfl bm
   refine ⟨a3.cani 3 rfl rfl, thenW_in fun ba bn => ?_⟩
   have ap := b9.x_set (q := a7.heap.size) (i := 3) rfl (.inl rfl) bn
   have a3 : Blk ba a7.heap.size 121 [.int .i64 0, .int .u64 0, .int .i64 0, .int .i64 0, .int .i64 a0] := a3.seti 3 rfl bn
   refine ⟨a3.cani 4 rfl rfl, thenW_in fun ak bf => ?_⟩
   have bb := ap.x_set (q := a7.heap.size) (i := 4) rfl (.inl rfl) bf
   have a3 : Blk ak a7.heap.size 121 [.int .i64 0, .int .u64 0, .int .i64 0, .int .i64 0, .int .i64 0] := a3.seti 4 rfl bf
   refine ⟨0, 0, 0, 0, 0, ⟨a3.celli 0 rfl rfl, a3.celli 1 rfl rfl, a3.celli 2 rfl rfl, a3.celli 3 rfl rfl, a3.celli 4 rfl rfl, trivial⟩, ?_⟩
   have h := h ak bb
   exact h
  have h := h.1 (of_decide_eq_true ay)
  refine ⟨ad, af, ae, ah.celli 0 rfl rfl, ?_⟩
  obtain ⟨c0, am, h⟩ := h
  refine elim_some am ?_
  obtain ⟨aq, b8, h⟩ := h
  refine ⟨aq, b8, ?_⟩
  obtain ⟨ai, b6, h⟩ := h
  refine ⟨ai, b6, ?_⟩
  refine bif_fo (fun b1 => ?_) (fun b1 => ?_)
  ·have h := h.2 (beq_f b1)
   obtain ⟨bs, bv, h⟩ := h
   try rw [w64 bs bv]
   obtain ⟨bw, hk, h⟩ := h
   exact ⟨bw, hk, ag, a2, a4, a9, a0, ah, a3, h⟩
  have h := h.1 (beq_t b1)
  refine ⟨ad, af, ae, ah.celli 0 rfl rfl, ?_⟩
  refine elim_some am ?_
  obtain ⟨aq, b8, h⟩ := h
  refine ⟨aq, b8, ?_⟩
  obtain ⟨a5, a1, a6, ac, a8, b5, h⟩ := h
  refine ⟨a5, a1, a6, ac, a8, b5, ?_⟩
  have b3 : Ext (fun b => b = a7.heap.size) ab ab := ((Ext.refl no ab)).none
  refine ⟨a3.cani 0 rfl rfl, thenW_in fun ar bi => ?_⟩
  have b2 := b3.x_set (q := a7.heap.size) (i := 0) rfl (.inl rfl) bi
  have a3 : Blk ar a7.heap.size 121 [.int .i64 a5, .int .u64 a2, .int .i64 a4, .int .i64 a9, .int .i64 a0] := a3.seti 0 rfl bi
  refine ⟨a3.cani 1 rfl rfl, thenW_in fun b0 bo => ?_⟩
  have ax := b2.x_set (q := a7.heap.size) (i := 1) rfl (.inl rfl) bo
  have a3 : Blk b0 a7.heap.size 121 [.int .i64 a5, .int .u64 a1, .int .i64 a4, .int .i64 a9, .int .i64 a0] := a3.seti 1 rfl bo
  refine ⟨a3.cani 2 rfl rfl, thenW_in fun ao bh => ?_⟩
  have az := ax.x_set (q := a7.heap.size) (i := 2) rfl (.inl rfl) bh
  have a3 : Blk ao a7.heap.size 121 [.int .i64 a5, .int .u64 a1, .int .i64 a6, .int .i64 a9, .int .i64 a0] := a3.seti 2 rfl bh
  refine ⟨a3.cani 3 rfl rfl, thenW_in fun bd bp => ?_⟩
  have an := az.x_set (q := a7.heap.size) (i := 3) rfl (.inl rfl) bp
  have a3 : Blk bd a7.heap.size 121 [.int .i64 a5, .int .u64 a1, .int .i64 a6, .int .i64 ac, .int .i64 a0] := a3.seti 3 rfl bp
  refine ⟨a3.cani 4 rfl rfl, thenW_in fun al bq => ?_⟩
  have av := an.x_set (q := a7.heap.size) (i := 4) rfl (.inl rfl) bq
  have a3 : Blk al a7.heap.size 121 [.int .i64 a5, .int .u64 a1, .int .i64 a6, .int .i64 ac, .int .i64 a8] := a3.seti 4 rfl bq
  refine ⟨a5, a1, a6, ac, a8, ⟨a3.celli 0 rfl rfl, a3.celli 1 rfl rfl, a3.celli 2 rfl rfl, a3.celli 3 rfl rfl, a3.celli 4 rfl rfl, trivial⟩, ?_⟩
  have h := h al av
  exact h

theorem cachetteref12_Find.go (a1 : Option Addr) (a2 : Nat) (a3 : Nat) (a0 : Int) (a4 : Int) {R : Value → World → Prop} {w : World} (h : cachetteref12_Find.N a1 a2 a3 a0 a4 R w) : Calls Try.prog 44 #[.agg #[.slice a1 a2 a3, .int .i64 a0], .int .i64 a4] w fun e w' => ∃ v, e = .returned v ∧ R v w' := cachetteref12_Find.ok a1 a2 a3 a0 a4 (cachetteref12_Find.up a1 a2 a3 a0 a4 h)
theorem cachetteref12_Find.run (a1 : Option Addr) (a2 : Nat) (a3 : Nat) (a0 : Int) (a4 : Int) {V : Value} {Q : World → Prop} {w : World} (h : cachetteref12_Find.N a1 a2 a3 a0 a4 (fun v w' => v = V ∧ Q w') w) : Calls Try.prog 44 #[.agg #[.slice a1 a2 a3, .int .i64 a0], .int .i64 a4] w (Ret V Q) := (cachetteref12_Find.go a1 a2 a3 a0 a4 h).mono fun e w' ⟨v, he, hv, hq⟩ => ⟨by rw [he, hv], hq⟩

abbrev cachetteref12_Now.J1 (al : Option Addr) (an : Nat) (am : Nat) (a5 : Int) (I0 : Nat → List Value → World → Prop) (m7 : Nat) (w : World) (R : Value → World → Prop) (a2 : World) : Prop :=
 ∃ (ac : Option Addr) (ae : Nat) (ag : Nat), a2.cell? ((blk w.heap.size).add 0) = some (.slice ac ae ag) ∧
 ac.elim False fun ap =>
 0 ≤ (a5 : Int) ∧ (a5 : Int) < (ae : Int) ∧
 ∃ (af : Int), a2.cell? ((ap.add (Int.toNat a5 * 5)).add 3) = some (.int .i64 af) ∧
 bif af == (-1) then (
 ∃ (aa : Option Addr) (a7 : Nat) (ah : Nat), a2.cell? ((blk w.heap.size).add 0) = some (.slice aa a7 ah) ∧
 aa.elim False fun ao =>
 0 ≤ (a5 : Int) ∧ (a5 : Int) < (a7 : Int) ∧
 ∃ (a4 : Int) (a0 : Int) (a3 : Int) (a6 : Int) (a1 : Int), cellsAt a2 (ao.add (Int.toNat a5 * 5)) [.int .i64 a4, .int .u64 a0, .int .i64 a3, .int .i64 a6, .int .i64 a1] 0 ∧
 thenW (a2.alloc (.cells #[.int .i64 a4, .int .u64 a0, .int .i64 a3, .int .i64 a6, .int .i64 a1] 121)) fun ai =>
 ∃ (a9 : Option Addr) (a8 : Nat) (ab : Nat) (ad : World), (Builtin.append_ #[44, 44] 44 #[.slice al an am, .slice (some (blk a2.heap.size)) 1 1]).run Try.prog ai = .ok (.slice a9 a8 ab) ad ∧
 ∃ ak, ak < m7 ∧ I0 ak [.slice a9 a8 ab, .int .i64 (IntKind.i64.wrap (a5 + 1))] ad) else (
 ∃ aj, aj < m7 ∧ I0 aj [.slice al an am, .int .i64 (IntKind.i64.wrap (a5 + 1))] a2)

def cachetteref12_Now.M (a5 : Option Addr) (a6 : Nat) (a7 : Nat) (a3 : Int) (R : Value → World → Prop) (w : World) : Prop :=
 thenW (w.alloc (.cells #[.slice a5 a6 a7, .int .i64 a3] 46)) fun aa =>
 ∃ (I0 : Nat → List Value → World → Prop) (m6 : Nat), I0 m6 [.slice none 0 0, .int .i64 0] aa ∧ ∀ (m7 : Nat) (a4 : World) (a0 : Option Addr) (a1 : Nat) (a2 : Nat) (i5 : Int), I0 m7 [.slice a0 a1 a2, .int .i64 i5] a4 →
 ∃ (a9 : Option Addr) (a8 : Nat) (ab : Nat), a4.cell? ((blk w.heap.size).add 0) = some (.slice a9 a8 ab) ∧
 bif decide (i5 < (a8 : Int)) then (
 cachetteref12_Now.J1 a0 a1 a2 i5 I0 m7 w R a4) else (
 R (.slice a0 a1 a2) a4)

theorem cachetteref12_Now.eq (sL1a : Option Addr) (sL1n : Nat) (sL1c : Nat) (sEpoch2 : Int) (R : Value → World → Prop) (w : World) : mfunc Try.prog [(0, [1], [(3, (.one .slice)), (4, (.one (.int .i64)))])] 46 [.agg #[.slice sL1a sL1n sL1c, .int .i64 sEpoch2]] R w = cachetteref12_Now.M sL1a sL1n sL1c sEpoch2 R w := by kernel_rfl
theorem cachetteref12_Now.ok (a1 : Option Addr) (a2 : Nat) (a3 : Nat) (a0 : Int) {R : Value → World → Prop} {w : World} (h : cachetteref12_Now.M a1 a2 a3 a0 R w) : Calls Try.prog 46 #[.agg #[.slice a1 a2 a3, .int .i64 a0]] w fun e w' => ∃ v, e = .returned v ∧ R v w' :=
  mfunc_ok follows (H := [(0, [1], [(3, (.one .slice)), (4, (.one (.int .i64)))])]) (args := [.agg #[.slice a1 a2 a3, .int .i64 a0]]) (by rw [cachetteref12_Now.eq]; exact h)

def cachetteref12_Now.N (ai : Option Addr) (a8 : Nat) (an : Nat) (ah : Int) (R : Value → World → Prop) (w : World) : Prop :=
 ∀ (ak : World) (p4 : Nat), Ext no w ak → Priv w ak [p4] →
 ∃ (I0 : Nat → List Value → World → Prop) (m7 : Nat), I0 m7 [.slice none 0 0, .int .i64 0] ak ∧ ∀ (m8 : Nat) (aa : World) (a3 : Option Addr) (a2 : Nat) (a1 : Nat) (i6 : Int), I0 m8 [.slice a3 a2 a1, .int .i64 i6] aa →
 (i6 < (a8 : Int) →
 ∃ aj : Addr, ai = some aj ∧
 0 ≤ (i6 : Int) ∧ (i6 : Int) < (a8 : Int) ∧
 ∃ (ab : Int), aa.cell? ((aj.add (Int.toNat i6 * 5)).add 3) = some (.int .i64 ab) ∧
 (ab = (-1) →
 0 ≤ (i6 : Int) ∧ (i6 : Int) < (a8 : Int) ∧
 ∃ (a6 : Int) (a0 : Int) (a5 : Int) (a9 : Int) (a4 : Int), cellsAt aa (aj.add (Int.toNat i6 * 5)) [.int .i64 a6, .int .u64 a0, .int .i64 a5, .int .i64 a9, .int .i64 a4] 0 ∧
 ∀ (a7 : World) (ag : Nat), Ext no aa a7 → Blk a7 ag 121 [.int .i64 a6, .int .u64 a0, .int .i64 a5, .int .i64 a9, .int .i64 a4] → aa.heap.size ≤ ag → ag < a7.heap.size →
 ∃ (af : Option Addr) (ad : Nat) (ae : Nat) (ac : World), (Builtin.append_ #[44, 44] 44 #[.slice a3 a2 a1, .slice (some (blk ag)) 1 1]).run Try.prog a7 = .ok (.slice af ad ae) ac ∧
 Keep [p4] a7 ac ∧
 (-9223372036854775808 : Int) ≤ (i6 + 1) ∧ (i6 + 1) < 9223372036854775808 ∧
 ∃ al, al < m8 ∧ I0 al [.slice af ad ae, .int .i64 (i6 + 1)] ac) ∧
 (ab ≠ (-1) →
 (-9223372036854775808 : Int) ≤ (i6 + 1) ∧ (i6 + 1) < 9223372036854775808 ∧
 ∃ am, am < m8 ∧ I0 am [.slice a3 a2 a1, .int .i64 (i6 + 1)] aa)) ∧
 ((a8 : Int) ≤ i6 →
 R (.slice a3 a2 a1) aa)

theorem cachetteref12_Now.up (a1 : Option Addr) (a3 : Nat) (a2 : Nat) (a0 : Int) {R : Value → World → Prop} {w : World} (h : cachetteref12_Now.N a1 a3 a2 a0 R w) : cachetteref12_Now.M a1 a3 a2 a0 R w := by
  unfold cachetteref12_Now.M
  unfold cachetteref12_Now.N at h
  refine thenW_in fun b0 e3 => ?_
  have a5 := Blk.of_new e3
  have az := ((Ext.refl no w)).size
  have ay := (Ext.refl no w).x_alloc e3
  have h := h b0 (w.heap.size) ay (Priv.cons az a5.lt Priv.nil)
  obtain ⟨I0, m7, h0, h⟩ := h
  refine ⟨fun k vs ww => Blk ww w.heap.size 46 [.slice a1 a3 a2, .int .i64 a0] ∧ I0 k vs ww, m7, ⟨a5, h0⟩, fun m8 ae ab aa a9 i6 hI => ?_⟩
  obtain ⟨a5, hI⟩ := hI
  have h := h m8 ae ab aa a9 i6 hI
  refine ⟨a1, a3, a2, a5.celli 0 rfl rfl, ?_⟩
  refine bif_fo (fun aq => ?_) (fun aq => ?_)
  ·have h := h.2 (Int.not_lt.1 (of_decide_eq_false aq))
   exact h
  have h := h.1 (of_decide_eq_true aq)
  unfold cachetteref12_Now.J1
  refine ⟨a1, a3, a2, a5.celli 0 rfl rfl, ?_⟩
  obtain ⟨b1, ad, h⟩ := h
  refine elim_some ad ?_
  obtain ⟨ag, am, h⟩ := h
  refine ⟨ag, am, ?_⟩
  obtain ⟨al, au, h⟩ := h
  refine ⟨al, au, ?_⟩
  refine bif_fo (fun ar => ?_) (fun ar => ?_)
  ·have h := h.2 (beq_f ar)
   obtain ⟨ai, ak, h⟩ := h
   try rw [w64 ai ak]
   obtain ⟨ax, hk, h⟩ := h
   exact ⟨ax, hk, a5, h⟩
  have h := h.1 (beq_t ar)
  refine ⟨a1, a3, a2, a5.celli 0 rfl rfl, ?_⟩
  refine elim_some ad ?_
  obtain ⟨ag, am, h⟩ := h
  refine ⟨ag, am, ?_⟩
  obtain ⟨a8, a4, a7, ac, a6, ah, h⟩ := h
  refine ⟨a8, a4, a7, ac, a6, ah, ?_⟩
  refine thenW_in fun ao af => ?_
  have a5 := a5.x_alloc af
  have h := h ao ae.heap.size ((Ext.refl no ae).x_alloc af) (Blk.of_new af) ((Ext.refl no ae)).size (size_lt_alloc af)
  obtain ⟨av, aj, an, ap, hr, hk, h⟩ := h
  refine ⟨av, aj, an, ap, hr, ?_⟩
  have a5 := hk.blk a5 (by simp)
  obtain ⟨ai, ak, h⟩ := h
  try rw [w64 ai ak]
  obtain ⟨aw, hk, h⟩ := h
  exact ⟨aw, hk, a5, h⟩

theorem cachetteref12_Now.go (a1 : Option Addr) (a2 : Nat) (a3 : Nat) (a0 : Int) {R : Value → World → Prop} {w : World} (h : cachetteref12_Now.N a1 a2 a3 a0 R w) : Calls Try.prog 46 #[.agg #[.slice a1 a2 a3, .int .i64 a0]] w fun e w' => ∃ v, e = .returned v ∧ R v w' := cachetteref12_Now.ok a1 a2 a3 a0 (cachetteref12_Now.up a1 a2 a3 a0 h)
abbrev cachetteref12_put.J1 (a5 : Int) (I0 : Nat → List Value → World → Prop) (ax : Nat) (w : World) (ae : World) (ay : World) (R : Value → World → Prop) (aq : World) : Prop :=
 thenW (aq.drew) fun a4 =>
 ∃ (af : Option Addr) (ah : Nat) (ao : Nat), a4.cell? ((blk w.heap.size).add 0) = some (.slice af ah ao) ∧
 af.elim False fun aw =>
 0 ≤ (a5 : Int) ∧ (a5 : Int) < (ah : Int) ∧
 ∃ (ab : Int), a4.cell? ((aw.add (Int.toNat a5 * 5)).add 0) = some (.int .i64 ab) ∧
 ∃ (a9 : Int), a4.cell? ((blk ay.heap.size).add 0) = some (.int .i64 a9) ∧
 bif ab != a9 then (
 thenW (a4.drew) fun a2 =>
 ∃ (ac : Option Addr) (a7 : Nat) (aa : Nat), a2.cell? ((blk ae.heap.size).add 0) = some (.slice ac a7 aa) ∧
 ∃ (al : Option Addr) (ai : Nat) (ap : Nat), a2.cell? ((blk w.heap.size).add 0) = some (.slice al ai ap) ∧
 al.elim False fun av =>
 0 ≤ (a5 : Int) ∧ (a5 : Int) < (ai : Int) ∧
 ∃ (a6 : Int) (a0 : Int) (a3 : Int) (a8 : Int) (a1 : Int), cellsAt a2 (av.add (Int.toNat a5 * 5)) [.int .i64 a6, .int .u64 a0, .int .i64 a3, .int .i64 a8, .int .i64 a1] 0 ∧
 thenW (a2.alloc (.cells #[.int .i64 a6, .int .u64 a0, .int .i64 a3, .int .i64 a8, .int .i64 a1] 121)) fun am =>
 am.cell? ((blk ae.heap.size).add 0) = some (.slice ac a7 aa) ∧
 ∃ (aj : Option Addr) (ak : Nat) (ag : Nat) (ad : World), (Builtin.append_ #[44, 44] 44 #[.slice ac a7 aa, .slice (some (blk a2.heap.size)) 1 1]).run Try.prog am = .ok (.slice aj ak ag) ad ∧
 canStore ad (((blk ae.heap.size).add 0).add 0) ∧
 thenW (ad.setCell (((blk ae.heap.size).add 0).add 0) (.slice aj ak ag)) fun au =>
 ∃ an, an < ax ∧ I0 an [.bool true, .int .i64 (IntKind.i64.wrap (a5 + 1))] au) else (
 ∃ ar, ar < ax ∧ I0 ar [.bool true, .int .i64 (IntKind.i64.wrap (a5 + 1))] a4)

abbrev cachetteref12_put.J2 (ar : Bool) (a2 : Int) (I0 : Nat → List Value → World → Prop) (ay : Nat) (w : World) (ae : World) (az : World) (R : Value → World → Prop) (an : World) : Prop :=
 thenW (an.drew) fun a5 =>
 ∃ (aj : Option Addr) (af : Nat) (au : Nat), a5.cell? ((blk w.heap.size).add 0) = some (.slice aj af au) ∧
 aj.elim False fun aw =>
 0 ≤ (a2 : Int) ∧ (a2 : Int) < (af : Int) ∧
 ∃ (aa : Int), a5.cell? ((aw.add (Int.toNat a2 * 5)).add 0) = some (.int .i64 aa) ∧
 ∃ (a9 : Int), a5.cell? ((blk az.heap.size).add 0) = some (.int .i64 a9) ∧
 bif aa != a9 then (
 thenW (a5.drew) fun a4 =>
 ∃ (a7 : Option Addr) (ab : Nat) (ac : Nat), a4.cell? ((blk ae.heap.size).add 0) = some (.slice a7 ab ac) ∧
 ∃ (ai : Option Addr) (ag : Nat) (ap : Nat), a4.cell? ((blk w.heap.size).add 0) = some (.slice ai ag ap) ∧
 ai.elim False fun ax =>
 0 ≤ (a2 : Int) ∧ (a2 : Int) < (ag : Int) ∧
 ∃ (a6 : Int) (a0 : Int) (a3 : Int) (ad : Int) (a1 : Int), cellsAt a4 (ax.add (Int.toNat a2 * 5)) [.int .i64 a6, .int .u64 a0, .int .i64 a3, .int .i64 ad, .int .i64 a1] 0 ∧
 thenW (a4.alloc (.cells #[.int .i64 a6, .int .u64 a0, .int .i64 a3, .int .i64 ad, .int .i64 a1] 121)) fun ah =>
 ah.cell? ((blk ae.heap.size).add 0) = some (.slice a7 ab ac) ∧
 ∃ (am : Option Addr) (al : Nat) (ak : Nat) (a8 : World), (Builtin.append_ #[44, 44] 44 #[.slice a7 ab ac, .slice (some (blk a4.heap.size)) 1 1]).run Try.prog ah = .ok (.slice am al ak) a8 ∧
 canStore a8 (((blk ae.heap.size).add 0).add 0) ∧
 thenW (a8.setCell (((blk ae.heap.size).add 0).add 0) (.slice am al ak)) fun av =>
 ∃ ao, ao < ay ∧ I0 ao [.bool ar, .int .i64 (IntKind.i64.wrap (a2 + 1))] av) else (
 ∃ aq, aq < ay ∧ I0 aq [.bool ar, .int .i64 (IntKind.i64.wrap (a2 + 1))] a5)

abbrev cachetteref12_put.J3 (ak : Bool) (aj : Bool) (ah : Int) (I0 : Nat → List Value → World → Prop) (ai : Nat) (w : World) (a3 : World) (ae : World) (R : Value → World → Prop) (a4 : World) : Prop :=
 bif ak then (
 ∃ (ab : Option Addr) (a8 : Nat) (aa : Nat), a4.cell? ((blk a3.heap.size).add 0) = some (.slice ab a8 aa) ∧
 ∃ (a5 : Int) (a0 : Int) (a2 : Int) (a6 : Int) (a1 : Int), cellsAt a4 (blk ae.heap.size) [.int .i64 a5, .int .u64 a0, .int .i64 a2, .int .i64 a6, .int .i64 a1] 0 ∧
 thenW (a4.alloc (.cells #[.int .i64 a5, .int .u64 a0, .int .i64 a2, .int .i64 a6, .int .i64 a1] 121)) fun af =>
 ∃ (ac : Option Addr) (a9 : Nat) (ad : Nat) (a7 : World), (Builtin.append_ #[44, 44] 44 #[.slice ab a8 aa, .slice (some (blk a4.heap.size)) 1 1]).run Try.prog af = .ok (.slice ac a9 ad) a7 ∧
 canStore a7 (((blk a3.heap.size).add 0).add 0) ∧
 thenW (a7.setCell (((blk a3.heap.size).add 0).add 0) (.slice ac a9 ad)) fun ag =>
 cachetteref12_put.J1 ah I0 ai w a3 ae R ag) else (
 cachetteref12_put.J2 aj ah I0 ai w a3 ae R a4)

abbrev cachetteref12_put.J4 (a3 : Bool) (a2 : Int) (I0 : Nat → List Value → World → Prop) (a4 : Nat) (w : World) (a1 : World) (a5 : World) (R : Value → World → Prop) (a0 : World) : Prop :=
 cachetteref12_put.J2 a3 a2 I0 a4 w a1 a5 R a0

abbrev cachetteref12_put.J5 (aa : Bool) (a5 : Int) (I0 : Nat → List Value → World → Prop) (ab : Nat) (w : World) (a3 : World) (a9 : World) (R : Value → World → Prop) (a8 : World) : Prop :=
 thenW (a8.drew) fun a0 =>
 bif !aa then (
 ∃ (a6 : Option Addr) (a4 : Nat) (a7 : Nat), a0.cell? ((blk w.heap.size).add 0) = some (.slice a6 a4 a7) ∧
 a6.elim False fun ac =>
 0 ≤ (a5 : Int) ∧ (a5 : Int) < (a4 : Int) ∧
 ∃ (a1 : Int), a0.cell? ((ac.add (Int.toNat a5 * 5)).add 0) = some (.int .i64 a1) ∧
 ∃ (a2 : Int), a0.cell? ((blk a9.heap.size).add 0) = some (.int .i64 a2) ∧
 cachetteref12_put.J3 (decide (a1 ≥ a2)) aa a5 I0 ab w a3 a9 R a0) else (
 cachetteref12_put.J4 aa a5 I0 ab w a3 a9 R a0)

def cachetteref12_put.M (bd : Option Addr) (bj : Nat) (bg : Nat) (av : Int) (b9 : Int) (am : Int) (b7 : Int) (bl : Int) (aw : Int) (R : Value → World → Prop) (w : World) : Prop :=
 thenW (w.alloc (.cells #[.slice bd bj bg, .int .i64 av] 46)) fun be =>
 thenW (be.alloc (.cells #[.int .i64 b9, .int .u64 am, .int .i64 b7, .int .i64 bl, .int .i64 aw] 121)) fun ap =>
 thenW (ap.alloc (.cells #[.slice none 0 0, .int .i64 0] 46)) fun a2 =>
 ∃ (af : Int), a2.cell? ((blk w.heap.size).add 1) = some (.int .i64 af) ∧
 thenW (a2.alloc (.cells #[.slice none 0 0, .int .i64 0] 46)) fun bb =>
 canStore bb ((blk a2.heap.size).add 0) ∧
 thenW (bb.setCell ((blk a2.heap.size).add 0) (.slice none 0 0)) fun bc =>
 canStore bc ((blk a2.heap.size).add 1) ∧
 thenW (bc.setCell ((blk a2.heap.size).add 1) (.int .i64 af)) fun bi =>
 ∃ (I0 : Nat → List Value → World → Prop) (bn : Nat), I0 bn [.bool false, .int .i64 0] bi ∧ ∀ (bm : Nat) (a4 : World) (ao : Bool) (bf : Int), I0 bm [.bool ao, .int .i64 bf] a4 →
 ∃ (bh : Option Addr) (b8 : Nat) (bk : Nat), a4.cell? ((blk w.heap.size).add 0) = some (.slice bh b8 bk) ∧
 bif decide (bf < (b8 : Int)) then (
 cachetteref12_put.J5 ao bf I0 bm w a2 be R a4) else (
 bif !ao then (
 ∃ (b2 : Option Addr) (ay : Nat) (b5 : Nat), a4.cell? ((blk a2.heap.size).add 0) = some (.slice b2 ay b5) ∧
 ∃ (ag : Int) (a3 : Int) (a8 : Int) (ak : Int) (a5 : Int), cellsAt a4 (blk be.heap.size) [.int .i64 ag, .int .u64 a3, .int .i64 a8, .int .i64 ak, .int .i64 a5] 0 ∧
 thenW (a4.alloc (.cells #[.int .i64 ag, .int .u64 a3, .int .i64 a8, .int .i64 ak, .int .i64 a5] 121)) fun ba =>
 ∃ (b3 : Option Addr) (b1 : Nat) (b4 : Nat) (ai : World), (Builtin.append_ #[44, 44] 44 #[.slice b2 ay b5, .slice (some (blk a4.heap.size)) 1 1]).run Try.prog ba = .ok (.slice b3 b1 b4) ai ∧
 canStore ai (((blk a2.heap.size).add 0).add 0) ∧
 thenW (ai.setCell (((blk a2.heap.size).add 0).add 0) (.slice b3 b1 b4)) fun ar =>
 ∃ (au : Option Addr) (aq : Nat) (ah : Nat) (a6 : Int), cellsAt ar (blk a2.heap.size) [.slice au aq ah, .int .i64 a6] 0 ∧
 canStore ar ((blk ap.heap.size).add 0) ∧
 thenW (ar.setCell ((blk ap.heap.size).add 0) (.slice au aq ah)) fun az =>
 canStore az ((blk ap.heap.size).add 1) ∧
 thenW (az.setCell ((blk ap.heap.size).add 1) (.int .i64 a6)) fun b6 =>
 ∃ (ad : Option Addr) (a9 : Nat) (ae : Nat) (a0 : Int), cellsAt b6 (blk ap.heap.size) [.slice ad a9 ae, .int .i64 a0] 0 ∧
 R (.agg #[.slice ad a9 ae, .int .i64 a0]) b6) else (
 ∃ (al : Option Addr) (an : Nat) (aj : Nat) (a7 : Int), cellsAt a4 (blk a2.heap.size) [.slice al an aj, .int .i64 a7] 0 ∧
 canStore a4 ((blk ap.heap.size).add 0) ∧
 thenW (a4.setCell ((blk ap.heap.size).add 0) (.slice al an aj)) fun b0 =>
 canStore b0 ((blk ap.heap.size).add 1) ∧
 thenW (b0.setCell ((blk ap.heap.size).add 1) (.int .i64 a7)) fun ax =>
 ∃ (aa : Option Addr) (ab : Nat) (ac : Nat) (a1 : Int), cellsAt ax (blk ap.heap.size) [.slice aa ab ac, .int .i64 a1] 0 ∧
 R (.agg #[.slice aa ab ac, .int .i64 a1]) ax))

theorem cachetteref12_put.eq (sL1a : Option Addr) (sL1n : Nat) (sL1c : Nat) (sEpoch2 : Int) (mWho3 : Int) (mPublic4 : Int) (mFrom5 : Int) (mTo6 : Int) (mLimit7 : Int) (R : Value → World → Prop) (w : World) : mfunc Try.prog [(0, [2, 3, 4, 5], [(6, (.one .bool)), (7, (.one (.int .i64)))])] 45 [.agg #[.slice sL1a sL1n sL1c, .int .i64 sEpoch2], .agg #[.int .i64 mWho3, .int .u64 mPublic4, .int .i64 mFrom5, .int .i64 mTo6, .int .i64 mLimit7]] R w = cachetteref12_put.M sL1a sL1n sL1c sEpoch2 mWho3 mPublic4 mFrom5 mTo6 mLimit7 R w := by kernel_rfl
theorem cachetteref12_put.ok (a5 : Option Addr) (a6 : Nat) (a7 : Nat) (a2 : Int) (a4 : Int) (a0 : Int) (a3 : Int) (a8 : Int) (a1 : Int) {R : Value → World → Prop} {w : World} (h : cachetteref12_put.M a5 a6 a7 a2 a4 a0 a3 a8 a1 R w) : Calls Try.prog 45 #[.agg #[.slice a5 a6 a7, .int .i64 a2], .agg #[.int .i64 a4, .int .u64 a0, .int .i64 a3, .int .i64 a8, .int .i64 a1]] w fun e w' => ∃ v, e = .returned v ∧ R v w' :=
  mfunc_ok follows (H := [(0, [2, 3, 4, 5], [(6, (.one .bool)), (7, (.one (.int .i64)))])]) (args := [.agg #[.slice a5 a6 a7, .int .i64 a2], .agg #[.int .i64 a4, .int .u64 a0, .int .i64 a3, .int .i64 a8, .int .i64 a1]]) (by rw [cachetteref12_put.eq]; exact h)

def cachetteref12_put.N (bp : Option Addr) (a9 : Nat) (cl : Nat) (b5 : Int) (a4 : Int) (ac : Int) (ay : Int) (bu : Int) (an : Int) (R : Value → World → Prop) (w : World) : Prop :=
 ∀ (bi : World) (c5 : Nat) (c0 : Nat) (bb : Nat) (az : Nat), Ext no w bi → Priv w bi [c5, c0, bb, az] →
 ∃ (I0 : Nat → List Value → World → Prop) (cm : Nat), I0 cm [.bool false, .int .i64 0, .slice none 0 0, .int .i64 0, .slice none 0 0, .int .i64 b5] bi ∧ ∀ (bc : Nat) (a3 : World) (a5 : Bool) (a1 : Int) (ai : Option Addr) (ah : Nat) (aj : Nat) (a2 : Int) (af : Option Addr) (ag : Nat) (ae : Nat) (a0 : Int), I0 bc [.bool a5, .int .i64 a1, .slice ai ah aj, .int .i64 a2, .slice af ag ae, .int .i64 a0] a3 →
 (a1 < (a9 : Int) →
 (a5 = false →
 ∃ bm : Addr, bp = some bm ∧
 0 ≤ (a1 : Int) ∧ (a1 : Int) < (a9 : Int) ∧
 ∃ (au : Int), a3.cell? ((bm.add (Int.toNat a1 * 5)).add 0) = some (.int .i64 au) ∧
 (au ≥ a4 →
 ∀ (b3 : World) (cb : Nat), Ext no a3 b3 → Blk b3 cb 121 [.int .i64 a4, .int .u64 ac, .int .i64 ay, .int .i64 bu, .int .i64 an] → a3.heap.size ≤ cb → cb < b3.heap.size →
 ∃ (bh : Option Addr) (bj : Nat) (bl : Nat) (bg : World), (Builtin.append_ #[44, 44] 44 #[.slice af ag ae, .slice (some (blk cb)) 1 1]).run Try.prog b3 = .ok (.slice bh bj bl) bg ∧
 Keep [c5, c0, bb, az] b3 bg ∧
 0 ≤ (a1 : Int) ∧ (a1 : Int) < (a9 : Int) ∧
 ∀ (ao : World), Ext (fun b => b = az) bg ao →
 ∃ (ap : Int), ao.cell? ((bm.add (Int.toNat a1 * 5)).add 0) = some (.int .i64 ap) ∧
 (ap ≠ a4 →
 0 ≤ (a1 : Int) ∧ (a1 : Int) < (a9 : Int) ∧
 ∃ (b0 : Int) (a7 : Int) (am : Int) (ba : Int) (ad : Int), cellsAt ao (bm.add (Int.toNat a1 * 5)) [.int .i64 b0, .int .u64 a7, .int .i64 am, .int .i64 ba, .int .i64 ad] 0 ∧
 ∀ (av : World) (cd : Nat), Ext no ao av → Blk av cd 121 [.int .i64 b0, .int .u64 a7, .int .i64 am, .int .i64 ba, .int .i64 ad] → ao.heap.size ≤ cd → cd < av.heap.size →
 ∃ (c1 : Option Addr) (br : Nat) (bq : Nat) (bd : World), (Builtin.append_ #[44, 44] 44 #[.slice bh bj bl, .slice (some (blk cd)) 1 1]).run Try.prog av = .ok (.slice c1 br bq) bd ∧
 Keep [c5, c0, bb, az] av bd ∧
 (-9223372036854775808 : Int) ≤ (a1 + 1) ∧ (a1 + 1) < 9223372036854775808 ∧
 ∀ (c7 : World), Ext (fun b => b = az) bd c7 →
 ∃ cg, cg < bc ∧ I0 cg [.bool true, .int .i64 (a1 + 1), .slice ai ah aj, .int .i64 a2, .slice c1 br bq, .int .i64 a0] c7) ∧
 (ap = a4 →
 (-9223372036854775808 : Int) ≤ (a1 + 1) ∧ (a1 + 1) < 9223372036854775808 ∧
 ∃ ck, ck < bc ∧ I0 ck [.bool true, .int .i64 (a1 + 1), .slice ai ah aj, .int .i64 a2, .slice bh bj bl, .int .i64 a0] ao)) ∧
 (au < a4 →
 0 ≤ (a1 : Int) ∧ (a1 : Int) < (a9 : Int) ∧
 ∃ (b2 : Int), a3.cell? ((bm.add (Int.toNat a1 * 5)).add 0) = some (.int .i64 b2) ∧
 (b2 ≠ a4 →
 0 ≤ (a1 : Int) ∧ (a1 : Int) < (a9 : Int) ∧
 ∃ (ax : Int) (a6 : Int) (al : Int) (b6 : Int) (ab : Int), cellsAt a3 (bm.add (Int.toNat a1 * 5)) [.int .i64 ax, .int .u64 a6, .int .i64 al, .int .i64 b6, .int .i64 ab] 0 ∧
 ∀ (b1 : World) (ca : Nat), Ext no a3 b1 → Blk b1 ca 121 [.int .i64 ax, .int .u64 a6, .int .i64 al, .int .i64 b6, .int .i64 ab] → a3.heap.size ≤ ca → ca < b1.heap.size →
 ∃ (bz : Option Addr) (c4 : Nat) (bn : Nat) (be : World), (Builtin.append_ #[44, 44] 44 #[.slice af ag ae, .slice (some (blk ca)) 1 1]).run Try.prog b1 = .ok (.slice bz c4 bn) be ∧
 Keep [c5, c0, bb, az] b1 be ∧
 (-9223372036854775808 : Int) ≤ (a1 + 1) ∧ (a1 + 1) < 9223372036854775808 ∧
 ∀ (bs : World), Ext (fun b => b = az) be bs →
 ∃ cf, cf < bc ∧ I0 cf [.bool a5, .int .i64 (a1 + 1), .slice ai ah aj, .int .i64 a2, .slice bz c4 bn, .int .i64 a0] bs) ∧
 (b2 = a4 →
 (-9223372036854775808 : Int) ≤ (a1 + 1) ∧ (a1 + 1) < 9223372036854775808 ∧
 ∀ (bt : World), Ext no a3 bt →
 ∃ cj, cj < bc ∧ I0 cj [.bool a5, .int .i64 (a1 + 1), .slice ai ah aj, .int .i64 a2, .slice af ag ae, .int .i64 a0] bt))) ∧
 (a5 = true →
 ∃ ce : Addr, bp = some ce ∧
 0 ≤ (a1 : Int) ∧ (a1 : Int) < (a9 : Int) ∧
 ∃ (aq : Int), a3.cell? ((ce.add (Int.toNat a1 * 5)).add 0) = some (.int .i64 aq) ∧
 (aq ≠ a4 →
 0 ≤ (a1 : Int) ∧ (a1 : Int) < (a9 : Int) ∧
 ∃ (ar : Int) (a8 : Int) (ak : Int) (b9 : Int) (aa : Int), cellsAt a3 (ce.add (Int.toNat a1 * 5)) [.int .i64 ar, .int .u64 a8, .int .i64 ak, .int .i64 b9, .int .i64 aa] 0 ∧
 ∀ (b4 : World) (c9 : Nat), Ext no a3 b4 → Blk b4 c9 121 [.int .i64 ar, .int .u64 a8, .int .i64 ak, .int .i64 b9, .int .i64 aa] → a3.heap.size ≤ c9 → c9 < b4.heap.size →
 ∃ (c3 : Option Addr) (bx : Nat) (bv : Nat) (bk : World), (Builtin.append_ #[44, 44] 44 #[.slice af ag ae, .slice (some (blk c9)) 1 1]).run Try.prog b4 = .ok (.slice c3 bx bv) bk ∧
 Keep [c5, c0, bb, az] b4 bk ∧
 (-9223372036854775808 : Int) ≤ (a1 + 1) ∧ (a1 + 1) < 9223372036854775808 ∧
 ∀ (c8 : World), Ext (fun b => b = az) bk c8 →
 ∃ ch, ch < bc ∧ I0 ch [.bool a5, .int .i64 (a1 + 1), .slice ai ah aj, .int .i64 a2, .slice c3 bx bv, .int .i64 a0] c8) ∧
 (aq = a4 →
 (-9223372036854775808 : Int) ≤ (a1 + 1) ∧ (a1 + 1) < 9223372036854775808 ∧
 ∀ (c6 : World), Ext no a3 c6 →
 ∃ ci, ci < bc ∧ I0 ci [.bool a5, .int .i64 (a1 + 1), .slice ai ah aj, .int .i64 a2, .slice af ag ae, .int .i64 a0] c6))) ∧
 ((a9 : Int) ≤ a1 →
 (a5 = false →
 ∀ (aw : World) (cc : Nat), Ext no a3 aw → Blk aw cc 121 [.int .i64 a4, .int .u64 ac, .int .i64 ay, .int .i64 bu, .int .i64 an] → a3.heap.size ≤ cc → cc < aw.heap.size →
 ∃ (bo : Option Addr) (c2 : Nat) (bw : Nat) (bf : World), (Builtin.append_ #[44, 44] 44 #[.slice af ag ae, .slice (some (blk cc)) 1 1]).run Try.prog aw = .ok (.slice bo c2 bw) bf ∧
 Keep [bb, az] aw bf ∧
 ∀ (b8 : World), Ext (fun b => b = bb ∨ b = az) bf b8 →
 R (.agg #[.slice bo c2 bw, .int .i64 a0]) b8) ∧
 (a5 = true →
 ∀ (b7 : World), Ext (fun b => b = bb) a3 b7 →
 R (.agg #[.slice af ag ae, .int .i64 a0]) b7))

theorem cachetteref12_put.up (af : Option Addr) (ag : Nat) (ah : Nat) (a9 : Int) (a8 : Int) (a7 : Int) (ai : Int) (b2 : Int) (aa : Int) {R : Value → World → Prop} {w : World} (h : cachetteref12_put.N af ag ah a9 a8 a7 ai b2 aa R w) : cachetteref12_put.M af ag ah a9 a8 a7 ai b2 aa R w := by
  unfold cachetteref12_put.M
  unfold cachetteref12_put.N at h
  refine thenW_in fun er e8 => ?_
  have a5 := Blk.of_new e8
  have f6 := ((Ext.refl no w)).size
  have es := (Ext.refl no w).x_alloc e8
  refine thenW_in fun bc e9 => ?_
  have a3 := Blk.of_new e9
  have f1 := (es).size
  have en := Nat.ne_of_lt a5.lt
  have a5 := a5.x_alloc e9
  have em := es.x_alloc e9
  refine thenW_in fun a4 d7 => ?_
  have a0 := Blk.of_new d7
  have f7 := (em).size
  have el := Nat.ne_of_lt a5.lt
  have a5 := a5.x_alloc d7
  have ep := Nat.ne_of_lt a3.lt
  have a3 := a3.x_alloc d7
  have ci := em.x_alloc d7
  refine ⟨a9, a5.celli 1 rfl rfl, ?_⟩
  refine thenW_in fun ew cc => ?_
  have a1 := Blk.of_new cc
  have dy := (ci).size
  have an := Nat.ne_of_lt a5.lt
  have a5 := a5.x_alloc cc
  have am := Nat.ne_of_lt a3.lt
  have a3 := a3.x_alloc cc
  have ae := Nat.ne_of_lt a0.lt
  have a0 := a0.x_alloc cc
  have dc := ci.x_alloc cc
  refine ⟨a1.cani 0 rfl rfl, thenW_in fun f0 c0 => ?_⟩
  have dp := dc.x_set (q := a4.heap.size) (i := 0) rfl (.inr dy) c0
  have a5 := a5.oth (q := a4.heap.size) (i := 0) rfl an c0
  have a3 := a3.oth (q := a4.heap.size) (i := 0) rfl am c0
  have a0 := a0.oth (q := a4.heap.size) (i := 0) rfl ae c0
  have a1 := a1.seti 0 rfl c0
  refine ⟨a1.cani 1 rfl rfl, thenW_in fun e1 cb => ?_⟩
  have eg := dp.x_set (q := a4.heap.size) (i := 1) rfl (.inr dy) cb
  have a5 := a5.oth (q := a4.heap.size) (i := 1) rfl an cb
  have a3 := a3.oth (q := a4.heap.size) (i := 1) rfl am cb
  have a0 := a0.oth (q := a4.heap.size) (i := 1) rfl ae cb
  have a1 := a1.seti 1 rfl cb
  have h := h e1 (w.heap.size) (er.heap.size) (bc.heap.size) (a4.heap.size) eg (Priv.cons f6 a5.lt (Priv.cons f1 a3.lt (Priv.cons f7 a0.lt (Priv.cons dy a1.lt Priv.nil))))
  obtain ⟨I0, f5, h0, h⟩ := h
  refine ⟨fun k vs ww => ∃ (ak : Option Addr) (aj : Nat) (al : Nat) (a6 : Int) (ac : Option Addr) (ad : Nat) (ab : Nat) (a2 : Int), Blk ww w.heap.size 46 [.slice af ag ah, .int .i64 a9] ∧ Blk ww er.heap.size 121 [.int .i64 a8, .int .u64 a7, .int .i64 ai, .int .i64 b2, .int .i64 aa] ∧ Blk ww bc.heap.size 46 [.slice ak aj al, .int .i64 a6] ∧ Blk ww a4.heap.size 46 [.slice ac ad ab, .int .i64 a2] ∧ I0 k (vs ++ [.slice ak aj al, .int .i64 a6, .slice ac ad ab, .int .i64 a2]) ww, f5, ⟨none, 0, 0, 0, none, 0, 0, a9, a5, a3, a0, a1, h0⟩, fun et ao cx ez hI => ?_⟩
  obtain ⟨ak, aj, al, a6, ac, ad, ab, a2, a5, a3, a0, a1, hI⟩ := hI
  have h := h et ao cx ez ak aj al a6 ac ad ab a2 hI
  refine ⟨af, ag, ah, a5.celli 0 rfl rfl, ?_⟩
  refine bif_fo (fun ei => ?_) (fun ei => ?_)
  ·have h := h.2 (Int.not_lt.1 (of_decide_eq_false ei))
   refine bif_fo (fun df => ?_) (fun df => ?_)
   ·have h := h.2 (not_f df)
    refine ⟨ac, ad, ab, a2, ⟨a1.celli 0 rfl rfl, a1.celli 1 rfl rfl, trivial⟩, ?_⟩
    have d2 : Ext (fun b => b = bc.heap.size) ao ao := ((Ext.refl no ao)).none
    refine ⟨a0.cani 0 rfl rfl, thenW_in fun eo d0 => ?_⟩
    have ce := d2.x_set (q := bc.heap.size) (i := 0) rfl (.inl rfl) d0
    have a0 := a0.seti 0 rfl d0
    refine ⟨a0.cani 1 rfl rfl, thenW_in fun cf d5 => ?_⟩
    have cq := ce.x_set (q := bc.heap.size) (i := 1) rfl (.inl rfl) d5
    have a0 := a0.seti 1 rfl d5
    refine ⟨ac, ad, ab, a2, ⟨a0.celli 0 rfl rfl, a0.celli 1 rfl rfl, trivial⟩, ?_⟩
    have h := h cf cq
    exact h
   have h := h.1 (not_t df)
   refine ⟨ac, ad, ab, a1.celli 0 rfl rfl, ?_⟩
   refine ⟨a8, a7, ai, b2, aa, ⟨a3.celli 0 rfl rfl, a3.celli 1 rfl rfl, a3.celli 2 rfl rfl, a3.celli 3 rfl rfl, a3.celli 4 rfl rfl, trivial⟩, ?_⟩
   refine thenW_in fun du cn => ?_
   have a0 := a0.x_alloc cn
   have a1 := a1.x_alloc cn
   have h := h du ao.heap.size ((Ext.refl no ao).x_alloc cn) (Blk.of_new cn) ((Ext.refl no ao)).size (size_lt_alloc cn)
   obtain ⟨bg, bp, bm, az, hr, hk, h⟩ := h
   refine ⟨bg, bp, bm, az, hr, ?_⟩
   have a0 := hk.blk a0 (by simp)
   have a1 := hk.blk a1 (by simp)
   have dn : Ext (fun b => b = a4.heap.size) az az := ((Ext.refl no az)).none
   refine ⟨a1.cani 0 rfl rfl, thenW_in fun dm ea => ?_⟩
   have dx := dn.x_set (q := a4.heap.size) (i := 0) rfl (.inl rfl) ea
   have a0 := a0.oth (q := a4.heap.size) (i := 0) rfl ae ea
   have a1 := a1.seti 0 rfl ea
   refine ⟨bg, bp, bm, a2, ⟨a1.celli 0 rfl rfl, a1.celli 1 rfl rfl, trivial⟩, ?_⟩
   have bx : Ext (fun b => b = bc.heap.size ∨ b = a4.heap.size) az dm := (dx).mono fun _ h _ => .inr h
   refine ⟨a0.cani 0 rfl rfl, thenW_in fun eq cp => ?_⟩
   have c7 := bx.x_set (q := bc.heap.size) (i := 0) rfl (.inl (.inl rfl)) cp
   have a0 := a0.seti 0 rfl cp
   refine ⟨a0.cani 1 rfl rfl, thenW_in fun cs cg => ?_⟩
   have cu := c7.x_set (q := bc.heap.size) (i := 1) rfl (.inl (.inl rfl)) cg
   have a0 := a0.seti 1 rfl cg
   refine ⟨bg, bp, bm, a2, ⟨a0.celli 0 rfl rfl, a0.celli 1 rfl rfl, trivial⟩, ?_⟩
   have h := h cs cu
   exact h
  have h := h.1 (of_decide_eq_true ei)
  unfold cachetteref12_put.J5
  refine thenW_in fun dg cm => ?_
  have aw := (Ext.refl no ao).x_drew cm
  have a5 := a5.x_drew cm
  have a3 := a3.x_drew cm
  have a0 := a0.x_drew cm
  have a1 := a1.x_drew cm
  refine bif_fo (fun d9 => ?_) (fun d9 => ?_)
  ·have h := h.2 (not_f d9)
   first | unfold cachetteref12_put.J3 | unfold cachetteref12_put.J4
   first | unfold cachetteref12_put.J1 | unfold cachetteref12_put.J2
   refine thenW_in fun ec c1 => ?_
   have bj := aw.x_drew c1
   have a5 := a5.x_drew c1
   have a3 := a3.x_drew c1
   have a0 := a0.x_drew c1
   have a1 := a1.x_drew c1
   refine ⟨af, ag, ah, a5.celli 0 rfl rfl, ?_⟩
   obtain ⟨f8, bz, h⟩ := h
   refine elim_some bz ?_
   obtain ⟨ap, aq, h⟩ := h
   refine ⟨ap, aq, ?_⟩
   obtain ⟨c4, e5, h⟩ := h
   refine ⟨c4, (bj).cell e5 id, ?_⟩
   refine ⟨a8, a3.celli 0 rfl rfl, ?_⟩
   refine bif_fo (fun e3 => ?_) (fun e3 => ?_)
   ·have h := h.2 (bne_f e3)
    obtain ⟨b0, b3, h⟩ := h
    try rw [w64 b0 b3]
    have h := h ec bj
    obtain ⟨f2, hk, h⟩ := h
    exact ⟨f2, hk, ak, aj, al, a6, ac, ad, ab, a2, a5, a3, a0, a1, h⟩
   have h := h.1 (bne_t e3)
   refine thenW_in fun da c8 => ?_
   have bl := bj.x_drew c8
   have a5 := a5.x_drew c8
   have a3 := a3.x_drew c8
   have a0 := a0.x_drew c8
   have a1 := a1.x_drew c8
   refine ⟨ac, ad, ab, a1.celli 0 rfl rfl, ?_⟩
   refine ⟨af, ag, ah, a5.celli 0 rfl rfl, ?_⟩
   refine elim_some bz ?_
   obtain ⟨ap, aq, h⟩ := h
   refine ⟨ap, aq, ?_⟩
   obtain ⟨bh, av, b6, cw, ax, dj, h⟩ := h
   refine ⟨bh, av, b6, cw, ax, cellsAt_no (bl) dj, ?_⟩
   refine thenW_in fun ej be => ?_
   have a5 := a5.x_alloc be
   have a3 := a3.x_alloc be
   have a0 := a0.x_alloc be
   have a1 := a1.x_alloc be
   have h := h ej da.heap.size (bl.x_alloc be) (Blk.of_new be) (bl).size (size_lt_alloc be)
   refine ⟨a1.celli 0 rfl rfl, ?_⟩
   obtain ⟨ct, ck, ch, ba, hr, hk, h⟩ := h
   refine ⟨ct, ck, ch, ba, hr, ?_⟩
   have a5 := hk.blk a5 (by simp)
   have a3 := hk.blk a3 (by simp)
   have a0 := hk.blk a0 (by simp)
   have a1 := hk.blk a1 (by simp)
   have eb : Ext (fun b => b = a4.heap.size) ba ba := ((Ext.refl no ba)).none
   refine ⟨a1.cani 0 rfl rfl, thenW_in fun ek d4 => ?_⟩
   have dl := eb.x_set (q := a4.heap.size) (i := 0) rfl (.inl rfl) d4
   have a5 := a5.oth (q := a4.heap.size) (i := 0) rfl an d4
   have a3 := a3.oth (q := a4.heap.size) (i := 0) rfl am d4
   have a0 := a0.oth (q := a4.heap.size) (i := 0) rfl ae d4
   have a1 := a1.seti 0 rfl d4
   obtain ⟨b0, b3, h⟩ := h
   try rw [w64 b0 b3]
   have h := h ek dl
   obtain ⟨ey, hk, h⟩ := h
   exact ⟨ey, hk, ak, aj, al, a6, ct, ck, ch, a2, a5, a3, a0, a1, h⟩
  have h := h.1 (not_t d9)
  refine ⟨af, ag, ah, a5.celli 0 rfl rfl, ?_⟩
  obtain ⟨f9, b1, h⟩ := h
  refine elim_some b1 ?_
  obtain ⟨ap, aq, h⟩ := h
  refine ⟨ap, aq, ?_⟩
  obtain ⟨c6, ef, h⟩ := h
  refine ⟨c6, (aw).cell ef id, ?_⟩
  refine ⟨a8, a3.celli 0 rfl rfl, ?_⟩
  first | unfold cachetteref12_put.J3 | unfold cachetteref12_put.J4
  refine bif_fo (fun ee => ?_) (fun ee => ?_)
  ·have h := h.2 (Int.not_le.1 (of_decide_eq_false ee))
   first | unfold cachetteref12_put.J1 | unfold cachetteref12_put.J2
   refine thenW_in fun dr cr => ?_
   have bd := aw.x_drew cr
   have a5 := a5.x_drew cr
   have a3 := a3.x_drew cr
   have a0 := a0.x_drew cr
   have a1 := a1.x_drew cr
   refine ⟨af, ag, ah, a5.celli 0 rfl rfl, ?_⟩
   refine elim_some b1 ?_
   obtain ⟨ap, aq, h⟩ := h
   refine ⟨ap, aq, ?_⟩
   obtain ⟨d3, di, h⟩ := h
   refine ⟨d3, (bd).cell di id, ?_⟩
   refine ⟨a8, a3.celli 0 rfl rfl, ?_⟩
   refine bif_fo (fun dw => ?_) (fun dw => ?_)
   ·have h := h.2 (bne_f dw)
    obtain ⟨b0, b3, h⟩ := h
    try rw [w64 b0 b3]
    have h := h dr bd
    obtain ⟨f3, hk, h⟩ := h
    exact ⟨f3, hk, ak, aj, al, a6, ac, ad, ab, a2, a5, a3, a0, a1, h⟩
   have h := h.1 (bne_t dw)
   refine thenW_in fun d8 cv => ?_
   have bt := bd.x_drew cv
   have a5 := a5.x_drew cv
   have a3 := a3.x_drew cv
   have a0 := a0.x_drew cv
   have a1 := a1.x_drew cv
   refine ⟨ac, ad, ab, a1.celli 0 rfl rfl, ?_⟩
   refine ⟨af, ag, ah, a5.celli 0 rfl rfl, ?_⟩
   refine elim_some b1 ?_
   obtain ⟨ap, aq, h⟩ := h
   refine ⟨ap, aq, ?_⟩
   obtain ⟨bn, ar, b8, c2, ay, dk, h⟩ := h
   refine ⟨bn, ar, b8, c2, ay, cellsAt_no (bt) dk, ?_⟩
   refine thenW_in fun e7 bo => ?_
   have a5 := a5.x_alloc bo
   have a3 := a3.x_alloc bo
   have a0 := a0.x_alloc bo
   have a1 := a1.x_alloc bo
   have h := h e7 d8.heap.size (bt.x_alloc bo) (Blk.of_new bo) (bt).size (size_lt_alloc bo)
   refine ⟨a1.celli 0 rfl rfl, ?_⟩
   obtain ⟨cl, cy, bv, b7, hr, hk, h⟩ := h
   refine ⟨cl, cy, bv, b7, hr, ?_⟩
   have a5 := hk.blk a5 (by simp)
   have a3 := hk.blk a3 (by simp)
   have a0 := hk.blk a0 (by simp)
   have a1 := hk.blk a1 (by simp)
   have e4 : Ext (fun b => b = a4.heap.size) b7 b7 := ((Ext.refl no b7)).none
   refine ⟨a1.cani 0 rfl rfl, thenW_in fun dq d6 => ?_⟩
   have e2 := e4.x_set (q := a4.heap.size) (i := 0) rfl (.inl rfl) d6
   have a5 := a5.oth (q := a4.heap.size) (i := 0) rfl an d6
   have a3 := a3.oth (q := a4.heap.size) (i := 0) rfl am d6
   have a0 := a0.oth (q := a4.heap.size) (i := 0) rfl ae d6
   have a1 := a1.seti 0 rfl d6
   obtain ⟨b0, b3, h⟩ := h
   try rw [w64 b0 b3]
   have h := h dq e2
   obtain ⟨eu, hk, h⟩ := h
   exact ⟨eu, hk, ak, aj, al, a6, cl, cy, bv, a2, a5, a3, a0, a1, h⟩
  have h := h.1 (of_decide_eq_true ee)
  refine ⟨ac, ad, ab, a1.celli 0 rfl rfl, ?_⟩
  refine ⟨a8, a7, ai, b2, aa, ⟨a3.celli 0 rfl rfl, a3.celli 1 rfl rfl, a3.celli 2 rfl rfl, a3.celli 3 rfl rfl, a3.celli 4 rfl rfl, trivial⟩, ?_⟩
  refine thenW_in fun eh bi => ?_
  have a5 := a5.x_alloc bi
  have a3 := a3.x_alloc bi
  have a0 := a0.x_alloc bi
  have a1 := a1.x_alloc bi
  have h := h eh dg.heap.size (aw.x_alloc bi) (Blk.of_new bi) (aw).size (size_lt_alloc bi)
  obtain ⟨bk, bs, bu, b9, hr, hk, h⟩ := h
  refine ⟨bk, bs, bu, b9, hr, ?_⟩
  have a5 := hk.blk a5 (by simp)
  have a3 := hk.blk a3 (by simp)
  have a0 := hk.blk a0 (by simp)
  have a1 := hk.blk a1 (by simp)
  have dz : Ext (fun b => b = a4.heap.size) b9 b9 := ((Ext.refl no b9)).none
  refine ⟨a1.cani 0 rfl rfl, thenW_in fun ev cj => ?_⟩
  have e0 := dz.x_set (q := a4.heap.size) (i := 0) rfl (.inl rfl) cj
  have a5 := a5.oth (q := a4.heap.size) (i := 0) rfl an cj
  have a3 := a3.oth (q := a4.heap.size) (i := 0) rfl am cj
  have a0 := a0.oth (q := a4.heap.size) (i := 0) rfl ae cj
  have a1 := a1.seti 0 rfl cj
  first | unfold cachetteref12_put.J1 | unfold cachetteref12_put.J2
  refine thenW_in fun bw ca => ?_
  have de := e0.x_drew ca
  have a5 := a5.x_drew ca
  have a3 := a3.x_drew ca
  have a0 := a0.x_drew ca
  have a1 := a1.x_drew ca
  refine ⟨af, ag, ah, a5.celli 0 rfl rfl, ?_⟩
  refine elim_some b1 ?_
  obtain ⟨ap, aq, h⟩ := h
  refine ⟨ap, aq, ?_⟩
  have h := h bw de
  obtain ⟨c3, dh, h⟩ := h
  refine ⟨c3, dh, ?_⟩
  refine ⟨a8, a3.celli 0 rfl rfl, ?_⟩
  refine bif_fo (fun dv => ?_) (fun dv => ?_)
  ·have h := h.2 (bne_f dv)
   obtain ⟨b0, b3, h⟩ := h
   try rw [w64 b0 b3]
   obtain ⟨f4, hk, h⟩ := h
   exact ⟨f4, hk, ak, aj, al, a6, bk, bs, bu, a2, a5, a3, a0, a1, h⟩
  have h := h.1 (bne_t dv)
  refine thenW_in fun db cz => ?_
  have bq := (Ext.refl no bw).x_drew cz
  have a5 := a5.x_drew cz
  have a3 := a3.x_drew cz
  have a0 := a0.x_drew cz
  have a1 := a1.x_drew cz
  refine ⟨bk, bs, bu, a1.celli 0 rfl rfl, ?_⟩
  refine ⟨af, ag, ah, a5.celli 0 rfl rfl, ?_⟩
  refine elim_some b1 ?_
  obtain ⟨ap, aq, h⟩ := h
  refine ⟨ap, aq, ?_⟩
  obtain ⟨br, au, bb, d1, b4, dd, h⟩ := h
  refine ⟨br, au, bb, d1, b4, cellsAt_no (bq) dd, ?_⟩
  refine thenW_in fun dt bf => ?_
  have a5 := a5.x_alloc bf
  have a3 := a3.x_alloc bf
  have a0 := a0.x_alloc bf
  have a1 := a1.x_alloc bf
  have h := h dt db.heap.size (bq.x_alloc bf) (Blk.of_new bf) (bq).size (size_lt_alloc bf)
  refine ⟨a1.celli 0 rfl rfl, ?_⟩
  obtain ⟨co, cd, c9, b5, hr, hk, h⟩ := h
  refine ⟨co, cd, c9, b5, hr, ?_⟩
  have a5 := hk.blk a5 (by simp)
  have a3 := hk.blk a3 (by simp)
  have a0 := hk.blk a0 (by simp)
  have a1 := hk.blk a1 (by simp)
  have ds : Ext (fun b => b = a4.heap.size) b5 b5 := ((Ext.refl no b5)).none
  refine ⟨a1.cani 0 rfl rfl, thenW_in fun ed c5 => ?_⟩
  have e6 := ds.x_set (q := a4.heap.size) (i := 0) rfl (.inl rfl) c5
  have a5 := a5.oth (q := a4.heap.size) (i := 0) rfl an c5
  have a3 := a3.oth (q := a4.heap.size) (i := 0) rfl am c5
  have a0 := a0.oth (q := a4.heap.size) (i := 0) rfl ae c5
  have a1 := a1.seti 0 rfl c5
  obtain ⟨b0, b3, h⟩ := h
  try rw [w64 b0 b3]
  have h := h ed e6
  obtain ⟨ex, hk, h⟩ := h
  exact ⟨ex, hk, ak, aj, al, a6, co, cd, c9, a2, a5, a3, a0, a1, h⟩

theorem cachetteref12_put.go (a5 : Option Addr) (a6 : Nat) (a7 : Nat) (a2 : Int) (a4 : Int) (a0 : Int) (a3 : Int) (a8 : Int) (a1 : Int) {R : Value → World → Prop} {w : World} (h : cachetteref12_put.N a5 a6 a7 a2 a4 a0 a3 a8 a1 R w) : Calls Try.prog 45 #[.agg #[.slice a5 a6 a7, .int .i64 a2], .agg #[.int .i64 a4, .int .u64 a0, .int .i64 a3, .int .i64 a8, .int .i64 a1]] w fun e w' => ∃ v, e = .returned v ∧ R v w' := cachetteref12_put.ok a5 a6 a7 a2 a4 a0 a3 a8 a1 (cachetteref12_put.up a5 a6 a7 a2 a4 a0 a3 a8 a1 h)
abbrev cachetteref12_Apply.J1 (aa : Addr) (ak : Addr) (al : Addr) (R : Value → World → Prop) (a4 : World) : Prop :=
 ∃ (a9 : Option Addr) (ad : Nat) (ac : Nat) (a2 : Int), cellsAt a4 al [.slice a9 ad ac, .int .i64 a2] 0 ∧
 ∃ (ab : Int), a4.cell? (ak.add 1) = some (.int .i64 ab) ∧
 ∃ (a1 : Int), a4.cell? (ak.add 2) = some (.int .u64 a1) ∧
 ∃ (a8 : Int), a4.cell? (al.add 1) = some (.int .i64 a8) ∧
 Calls Try.prog 45 #[.agg #[.slice a9 ad ac, .int .i64 a2], .agg #[.int .i64 ab, .int .u64 a1, .int .i64 (IntKind.i64.wrap (a8 + 1)), .int .i64 (-1), .int .i64 0]] a4 fun am ah => ∃ (ag : Option Addr) (ai : Nat) (ae : Nat) (a5 : Int), am = .returned (.agg #[.slice ag ai ae, .int .i64 a5]) ∧
 canStore ah (aa.add 0) ∧
 thenW (ah.setCell (aa.add 0) (.slice ag ai ae)) fun af =>
 canStore af (aa.add 1) ∧
 thenW (af.setCell (aa.add 1) (.int .i64 a5)) fun aj =>
 ∃ (a6 : Option Addr) (a3 : Nat) (a7 : Nat) (a0 : Int), cellsAt aj aa [.slice a6 a3 a7, .int .i64 a0] 0 ∧
 R (.tuple #[.agg #[.slice a6 a3 a7, .int .i64 a0], .int .i64 0]) aj

abbrev cachetteref12_Apply.J2 (ao : Addr) (ac : Addr) (aq : Addr) (ar : Addr) (R : Value → World → Prop) (ag : World) : Prop :=
 ∃ (a9 : Int), ag.cell? (aq.add 3) = some (.int .i64 a9) ∧
 canStore ag ((ao.add 4).add 0) ∧
 thenW (ag.setCell ((ao.add 4).add 0) (.int .i64 a9)) fun ae =>
 ∃ (af : Option Addr) (ab : Nat) (ad : Nat) (a3 : Int), cellsAt ae ar [.slice af ab ad, .int .i64 a3] 0 ∧
 ∃ (aa : Int) (a1 : Int) (a8 : Int) (ah : Int) (a2 : Int), cellsAt ae ao [.int .i64 aa, .int .u64 a1, .int .i64 a8, .int .i64 ah, .int .i64 a2] 0 ∧
 Calls Try.prog 45 #[.agg #[.slice af ab ad, .int .i64 a3], .agg #[.int .i64 aa, .int .u64 a1, .int .i64 a8, .int .i64 ah, .int .i64 a2]] ae fun ap al => ∃ (am : Option Addr) (ai : Nat) (an : Nat) (a5 : Int), ap = .returned (.agg #[.slice am ai an, .int .i64 a5]) ∧
 canStore al (ac.add 0) ∧
 thenW (al.setCell (ac.add 0) (.slice am ai an)) fun aj =>
 canStore aj (ac.add 1) ∧
 thenW (aj.setCell (ac.add 1) (.int .i64 a5)) fun ak =>
 ∃ (a7 : Option Addr) (a4 : Nat) (a6 : Nat) (a0 : Int), cellsAt ak ac [.slice a7 a4 a6, .int .i64 a0] 0 ∧
 R (.tuple #[.agg #[.slice a7 a4 a6, .int .i64 a0], .int .i64 0]) ak

abbrev cachetteref12_Apply.J3 (a1 : Addr) (a8 : Addr) (a7 : Addr) (a5 : Addr) (R : Value → World → Prop) (a3 : World) : Prop :=
 ∃ (a0 : Int), a3.cell? (a5.add 1) = some (.int .i64 a0) ∧
 canStore a3 ((a1.add 3).add 0) ∧
 thenW (a3.setCell ((a1.add 3).add 0) (.int .i64 a0)) fun a2 =>
 ∃ (a4 : Int), a2.cell? (a1.add 3) = some (.int .i64 a4) ∧
 bif decide (a4 < 0) then (
 canStore a2 ((a1.add 3).add 0) ∧
 thenW (a2.setCell ((a1.add 3).add 0) (.int .i64 (-2))) fun a6 =>
 cachetteref12_Apply.J2 a1 a8 a7 a5 R a6) else (
 cachetteref12_Apply.J2 a1 a8 a7 a5 R a2)

abbrev cachetteref12_Apply.J4 (a9 : Addr) (a5 : Addr) (aa : Addr) (ab : Addr) (R : Value → World → Prop) (a4 : World) : Prop :=
 ∃ (a6 : Int), a4.cell? (a9.add 3) = some (.int .i64 a6) ∧
 bif a6 != (-1) then (
 canStore a4 (a5.add 0) ∧
 thenW (a4.setCell (a5.add 0) (.slice none 0 0)) fun a7 =>
 canStore a7 (a5.add 1) ∧
 thenW (a7.setCell (a5.add 1) (.int .i64 0)) fun a8 =>
 ∃ (a2 : Option Addr) (a3 : Nat) (a1 : Nat) (a0 : Int), cellsAt a8 a5 [.slice a2 a3 a1, .int .i64 a0] 0 ∧
 R (.tuple #[.agg #[.slice a2 a3 a1, .int .i64 a0], .int .i64 10]) a8) else (
 cachetteref12_Apply.J3 a9 a5 aa ab R a4)

abbrev cachetteref12_Apply.J5 (ax : Option Addr) (aq : Nat) (a2 : Addr) (ay : Addr) (au : Addr) (R : Value → World → Prop) (av : World) : Prop :=
 ∃ (I1 : Nat → List Value → World → Prop) (az : Nat), I1 az [.int .i64 0] av ∧ ∀ (ar : Nat) (a5 : World) (a7 : Int), I1 ar [.int .i64 a7] a5 →
 bif decide (a7 < (aq : Int)) then (
 thenW (a5.drew) fun a6 =>
 ax.elim False fun b0 =>
 0 ≤ (a7 : Int) ∧ (a7 : Int) < (aq : Int) ∧
 ∃ (ah : Int), a6.cell? ((b0.add (Int.toNat a7 * 5)).add 0) = some (.int .i64 ah) ∧
 ∃ (a3 : Option Addr) (a4 : Nat) (af : Nat), a6.cell? (ay.add 4) = some (.slice a3 a4 af) ∧
 a3.elim False fun aw =>
 0 ≤ (a7 : Int) ∧ (a7 : Int) < (a4 : Int) ∧
 ∃ (ag : Int), a6.cell? ((aw.add (Int.toNat a7 * 2)).add 0) = some (.int .i64 ag) ∧
 bif ah != ag then (
 canStore a6 (a2.add 0) ∧
 thenW (a6.setCell (a2.add 0) (.slice none 0 0)) fun an =>
 canStore an (a2.add 1) ∧
 thenW (an.setCell (a2.add 1) (.int .i64 0)) fun al =>
 ∃ (ae : Option Addr) (a9 : Nat) (ab : Nat) (a0 : Int), cellsAt al a2 [.slice ae a9 ab, .int .i64 a0] 0 ∧
 R (.tuple #[.agg #[.slice ae a9 ab, .int .i64 a0], .int .i64 10]) al) else (
 ∃ ap, ap < ar ∧ I1 ap [.int .i64 (IntKind.i64.wrap (a7 + 1))] a6)) else (
 ∃ (am : Option Addr) (ak : Nat) (ao : Nat), a5.cell? (au.add 0) = some (.slice am ak ao) ∧
 ∃ (a8 : Int), a5.cell? (au.add 1) = some (.int .i64 a8) ∧
 canStore a5 (a2.add 0) ∧
 thenW (a5.setCell (a2.add 0) (.slice am ak ao)) fun aj =>
 canStore aj (a2.add 1) ∧
 thenW (aj.setCell (a2.add 1) (.int .i64 (IntKind.i64.wrap (a8 + 1)))) fun ai =>
 ∃ (ac : Option Addr) (ad : Nat) (aa : Nat) (a1 : Int), cellsAt ai a2 [.slice ac ad aa, .int .i64 a1] 0 ∧
 R (.tuple #[.agg #[.slice ac ad aa, .int .i64 a1], .int .i64 0]) ai)

abbrev cachetteref12_Apply.J6 (a3 : Addr) (av : Addr) (aw : Addr) (R : Value → World → Prop) (aq : World) : Prop :=
 ∃ (ak : Option Addr) (aj : Nat) (ai : Nat) (a5 : Int), cellsAt aq aw [.slice ak aj ai, .int .i64 a5] 0 ∧
 Calls Try.prog 46 #[.agg #[.slice ak aj ai, .int .i64 a5]] aq fun ax a0 => ∃ (ae : Option Addr) (a6 : Nat) (al : Nat), ax = .returned (.slice ae a6 al) ∧
 ∃ (ag : Option Addr) (a4 : Nat) (ah : Nat), a0.cell? (av.add 4) = some (.slice ag a4 ah) ∧
 bif (a6 : Int) != (a4 : Int) then (
 canStore a0 (a3.add 0) ∧
 thenW (a0.setCell (a3.add 0) (.slice none 0 0)) fun ar =>
 canStore ar (a3.add 1) ∧
 thenW (ar.setCell (a3.add 1) (.int .i64 0)) fun au =>
 ∃ (a7 : Option Addr) (a9 : Nat) (ac : Nat) (a2 : Int), cellsAt au a3 [.slice a7 a9 ac, .int .i64 a2] 0 ∧
 R (.tuple #[.agg #[.slice a7 a9 ac, .int .i64 a2], .int .i64 10]) au) else (
 ∃ (an : Option Addr) (af : Nat) (am : Nat), a0.cell? (av.add 5) = some (.slice an af am) ∧
 ∃ (a8 : Int), a0.cell? (aw.add 1) = some (.int .i64 a8) ∧
 bif !(((af : Int) == 0) == (a8 == (-1))) then (
 canStore a0 (a3.add 0) ∧
 thenW (a0.setCell (a3.add 0) (.slice none 0 0)) fun ao =>
 canStore ao (a3.add 1) ∧
 thenW (ao.setCell (a3.add 1) (.int .i64 0)) fun ap =>
 ∃ (ab : Option Addr) (ad : Nat) (aa : Nat) (a1 : Int), cellsAt ap a3 [.slice ab ad aa, .int .i64 a1] 0 ∧
 R (.tuple #[.agg #[.slice ab ad aa, .int .i64 a1], .int .i64 10]) ap) else (
 cachetteref12_Apply.J5 ae a6 a3 av aw R a0))

abbrev cachetteref12_Apply.J7 (a6 : Addr) (aa : Addr) (a9 : Addr) (R : Value → World → Prop) (a5 : World) : Prop :=
 ∃ (a3 : Int), a5.cell? (a9.add 1) = some (.int .i64 a3) ∧
 bif decide (a3 ≥ 19) then (
 canStore a5 (a6.add 0) ∧
 thenW (a5.setCell (a6.add 0) (.slice none 0 0)) fun a7 =>
 canStore a7 (a6.add 1) ∧
 thenW (a7.setCell (a6.add 1) (.int .i64 0)) fun a8 =>
 ∃ (a4 : Option Addr) (a1 : Nat) (a2 : Nat) (a0 : Int), cellsAt a8 a6 [.slice a4 a1 a2, .int .i64 a0] 0 ∧
 R (.tuple #[.agg #[.slice a4 a1 a2, .int .i64 a0], .int .i64 2]) a8) else (
 cachetteref12_Apply.J6 a6 aa a9 R a5)

abbrev cachetteref12_Apply.J8 (af : Addr) (ar : Addr) (b0 : Addr) (R : Value → World → Prop) (ao : World) : Prop :=
 ∃ (an : Option Addr) (ak : Nat) (ah : Nat) (a3 : Int), cellsAt ao b0 [.slice an ak ah, .int .i64 a3] 0 ∧
 ∃ (aj : Int), ao.cell? (ar.add 1) = some (.int .i64 aj) ∧
 Calls Try.prog 44 #[.agg #[.slice an ak ah, .int .i64 a3], .int .i64 aj] ao fun b1 a1 => ∃ (ai : Int) (a4 : Int) (ag : Int) (az : Int) (ad : Int) (a9 : Bool), b1 = .returned (.tuple #[.agg #[.int .i64 ai, .int .u64 a4, .int .i64 ag, .int .i64 az, .int .i64 ad], .bool a9]) ∧
 thenW (a1.alloc (.cells #[.int .i64 0, .int .u64 0, .int .i64 0, .int .i64 0, .int .i64 0] 121)) fun av =>
 canStore av ((blk a1.heap.size).add 0) ∧
 thenW (av.setCell ((blk a1.heap.size).add 0) (.int .i64 ai)) fun ap =>
 canStore ap ((blk a1.heap.size).add 1) ∧
 thenW (ap.setCell ((blk a1.heap.size).add 1) (.int .u64 a4)) fun aq =>
 canStore aq ((blk a1.heap.size).add 2) ∧
 thenW (aq.setCell ((blk a1.heap.size).add 2) (.int .i64 ag)) fun ax =>
 canStore ax ((blk a1.heap.size).add 3) ∧
 thenW (ax.setCell ((blk a1.heap.size).add 3) (.int .i64 az)) fun aw =>
 canStore aw ((blk a1.heap.size).add 4) ∧
 thenW (aw.setCell ((blk a1.heap.size).add 4) (.int .i64 ad)) fun a5 =>
 ∃ (aa : Int), a5.cell? (ar.add 0) = some (.int .i64 aa) ∧
 bif aa == 1 then (
 bif a9 then (
 canStore a5 (af.add 0) ∧
 thenW (a5.setCell (af.add 0) (.slice none 0 0)) fun au =>
 canStore au (af.add 1) ∧
 thenW (au.setCell (af.add 1) (.int .i64 0)) fun ay =>
 ∃ (ac : Option Addr) (ae : Nat) (ab : Nat) (a2 : Int), cellsAt ay af [.slice ac ae ab, .int .i64 a2] 0 ∧
 R (.tuple #[.agg #[.slice ac ae ab, .int .i64 a2], .int .i64 13]) ay) else (
 cachetteref12_Apply.J1 af ar b0 R a5)) else (
 bif aa == 2 then (
 bif !a9 then (
 canStore a5 (af.add 0) ∧
 thenW (a5.setCell (af.add 0) (.slice none 0 0)) fun al =>
 canStore al (af.add 1) ∧
 thenW (al.setCell (af.add 1) (.int .i64 0)) fun am =>
 ∃ (a6 : Option Addr) (a8 : Nat) (a7 : Nat) (a0 : Int), cellsAt am af [.slice a6 a8 a7, .int .i64 a0] 0 ∧
 R (.tuple #[.agg #[.slice a6 a8 a7, .int .i64 a0], .int .i64 20]) am) else (
 cachetteref12_Apply.J4 (blk a1.heap.size) af ar b0 R a5)) else (
 cachetteref12_Apply.J7 af ar b0 R a5))

def cachetteref12_Apply.M (ax : Option Addr) (b1 : Nat) (ay : Nat) (ak : Int) (am : Int) (aw : Int) (ag : Int) (al : Int) (aj : Option Addr) (ah : Nat) (ai : Nat) (an : Option Addr) (ao : Nat) (ap : Nat) (R : Value → World → Prop) (w : World) : Prop :=
 thenW (w.alloc (.cells #[.slice ax b1 ay, .int .i64 ak] 46)) fun az =>
 thenW (az.alloc (.cells #[.int .i64 am, .int .i64 aw, .int .u64 ag, .int .i64 al, .slice aj ah ai, .slice an ao ap] 67)) fun a6 =>
 thenW (a6.alloc (.cells #[.slice none 0 0, .int .i64 0] 46)) fun av =>
 ∃ (a8 : Int) (af : Int) (a2 : Int) (a5 : Int) (a4 : Option Addr) (a3 : Nat) (a1 : Nat) (aa : Option Addr) (ab : Nat) (ac : Nat), cellsAt av (blk az.heap.size) [.int .i64 a8, .int .i64 af, .int .u64 a2, .int .i64 a5, .slice a4 a3 a1, .slice aa ab ac] 0 ∧
 Calls Try.prog 43 #[.agg #[.int .i64 a8, .int .i64 af, .int .u64 a2, .int .i64 a5, .slice a4 a3 a1, .slice aa ab ac]] av fun b0 aq => ∃ (ad : Bool), b0 = .returned (.bool ad) ∧
 bif !ad then (
 canStore aq ((blk a6.heap.size).add 0) ∧
 thenW (aq.setCell ((blk a6.heap.size).add 0) (.slice none 0 0)) fun au =>
 canStore au ((blk a6.heap.size).add 1) ∧
 thenW (au.setCell ((blk a6.heap.size).add 1) (.int .i64 0)) fun ar =>
 ∃ (a9 : Option Addr) (a7 : Nat) (ae : Nat) (a0 : Int), cellsAt ar (blk a6.heap.size) [.slice a9 a7 ae, .int .i64 a0] 0 ∧
 R (.tuple #[.agg #[.slice a9 a7 ae, .int .i64 a0], .int .i64 1]) ar) else (
 cachetteref12_Apply.J8 (blk a6.heap.size) (blk az.heap.size) (blk w.heap.size) R aq)

theorem cachetteref12_Apply.eq (sL1a : Option Addr) (sL1n : Nat) (sL1c : Nat) (sEpoch2 : Int) (cKind3 : Int) (cWho4 : Int) (cPublic5 : Int) (cLimit6 : Int) (cWraps7a : Option Addr) (cWraps7n : Nat) (cWraps7c : Nat) (cOld8a : Option Addr) (cOld8n : Nat) (cOld8c : Nat) (R : Value → World → Prop) (w : World) : mfunc Try.prog [(1, [2, 3, 4, 8], [(9, (.one (.int .i64)))])] 14 [.agg #[.slice sL1a sL1n sL1c, .int .i64 sEpoch2], .agg #[.int .i64 cKind3, .int .i64 cWho4, .int .u64 cPublic5, .int .i64 cLimit6, .slice cWraps7a cWraps7n cWraps7c, .slice cOld8a cOld8n cOld8c]] R w = cachetteref12_Apply.M sL1a sL1n sL1c sEpoch2 cKind3 cWho4 cPublic5 cLimit6 cWraps7a cWraps7n cWraps7c cOld8a cOld8n cOld8c R w := by kernel_rfl
theorem cachetteref12_Apply.ok (ab : Option Addr) (ac : Nat) (ad : Nat) (a4 : Int) (a6 : Int) (aa : Int) (a0 : Int) (a5 : Int) (a3 : Option Addr) (a2 : Nat) (a1 : Nat) (a7 : Option Addr) (a9 : Nat) (a8 : Nat) {R : Value → World → Prop} {w : World} (h : cachetteref12_Apply.M ab ac ad a4 a6 aa a0 a5 a3 a2 a1 a7 a9 a8 R w) : Calls Try.prog 14 #[.agg #[.slice ab ac ad, .int .i64 a4], .agg #[.int .i64 a6, .int .i64 aa, .int .u64 a0, .int .i64 a5, .slice a3 a2 a1, .slice a7 a9 a8]] w fun e w' => ∃ v, e = .returned v ∧ R v w' :=
  mfunc_ok follows (H := [(1, [2, 3, 4, 8], [(9, (.one (.int .i64)))])]) (args := [.agg #[.slice ab ac ad, .int .i64 a4], .agg #[.int .i64 a6, .int .i64 aa, .int .u64 a0, .int .i64 a5, .slice a3 a2 a1, .slice a7 a9 a8]]) (by rw [cachetteref12_Apply.eq]; exact h)

def cachetteref12_Apply.N (ak : Option Addr) (al : Nat) (am : Nat) (a0 : Int) (a3 : Int) (au : Int) (aa : Int) (a7 : Int) (ab : Option Addr) (a1 : Nat) (av : Nat) (b4 : Option Addr) (ae : Nat) (b2 : Nat) (R : Value → World → Prop) (w : World) : Prop :=
 ∀ (aw : World) (c2 : Nat) (c1 : Nat) (a8 : Nat), Ext no w aw → Priv w aw [c2, c1, a8] →
 Calls Try.prog 43 #[.agg #[.int .i64 a3, .int .i64 au, .int .u64 aa, .int .i64 a7, .slice ab a1 av, .slice b4 ae b2]] aw fun c4 az => ∃ (a9 : Bool), c4 = .returned (.bool a9) ∧
 Keep [c2, c1, a8] aw az ∧
 (a9 = false →
 ∀ (bx : World), Ext (fun b => b = a8) az bx →
 R (.tuple #[.agg #[.slice none 0 0, .int .i64 0], .int .i64 1]) bx) ∧
 (a9 = true →
 Calls Try.prog 44 #[.agg #[.slice ak al am, .int .i64 a0], .int .i64 au] az fun c5 a6 => ∃ (ar : Int) (a4 : Int) (ad : Int) (b7 : Int) (ax : Int) (a5 : Bool), c5 = .returned (.tuple #[.agg #[.int .i64 ar, .int .u64 a4, .int .i64 ad, .int .i64 b7, .int .i64 ax], .bool a5]) ∧
 Keep [c2, c1, a8] az a6 ∧
 (a3 = 1 →
 (a5 = true →
 ∀ (ba : World), Ext (fun b => b = a8) a6 ba →
 R (.tuple #[.agg #[.slice none 0 0, .int .i64 0], .int .i64 13]) ba) ∧
 (a5 = false →
 (-9223372036854775808 : Int) ≤ (a0 + 1) ∧ (a0 + 1) < 9223372036854775808 ∧
 ∀ (af : World), Ext no a6 af →
 Calls Try.prog 45 #[.agg #[.slice ak al am, .int .i64 a0], .agg #[.int .i64 au, .int .u64 aa, .int .i64 (a0 + 1), .int .i64 (-1), .int .i64 0]] af fun c8 bh => ∃ (bz : Option Addr) (bc : Nat) (bj : Nat) (ah : Int), c8 = .returned (.agg #[.slice bz bc bj, .int .i64 ah]) ∧
 Keep [a8] af bh ∧
 ∀ (bq : World), Ext (fun b => b = a8) bh bq →
 R (.tuple #[.agg #[.slice bz bc bj, .int .i64 ah], .int .i64 0]) bq)) ∧
 (a3 ≠ 1 →
 (a3 = 2 →
 (a5 = false →
 ∀ (bm : World), Ext (fun b => b = a8) a6 bm →
 R (.tuple #[.agg #[.slice none 0 0, .int .i64 0], .int .i64 20]) bm) ∧
 (a5 = true →
 (b7 ≠ (-1) →
 ∀ (bw : World), Ext (fun b => b = a8) a6 bw →
 R (.tuple #[.agg #[.slice none 0 0, .int .i64 0], .int .i64 10]) bw) ∧
 (b7 = (-1) →
 (a0 < 0 →
 ∀ (b6 : World), Ext no a6 b6 →
 Calls Try.prog 45 #[.agg #[.slice ak al am, .int .i64 a0], .agg #[.int .i64 ar, .int .u64 a4, .int .i64 ad, .int .i64 (-2), .int .i64 a7]] b6 fun c7 bo => ∃ (b9 : Option Addr) (bb : Nat) (bv : Nat) (ag : Int), c7 = .returned (.agg #[.slice b9 bb bv, .int .i64 ag]) ∧
 Keep [a8] b6 bo ∧
 ∀ (bf : World), Ext (fun b => b = a8) bo bf →
 R (.tuple #[.agg #[.slice b9 bb bv, .int .i64 ag], .int .i64 0]) bf) ∧
 ((0 : Int) ≤ a0 →
 ∀ (b3 : World), Ext no a6 b3 →
 Calls Try.prog 45 #[.agg #[.slice ak al am, .int .i64 a0], .agg #[.int .i64 ar, .int .u64 a4, .int .i64 ad, .int .i64 a0, .int .i64 a7]] b3 fun c6 bk => ∃ (bi : Option Addr) (bu : Nat) (b8 : Nat) (ai : Int), c6 = .returned (.agg #[.slice bi bu b8, .int .i64 ai]) ∧
 Keep [a8] b3 bk ∧
 ∀ (bp : World), Ext (fun b => b = a8) bk bp →
 R (.tuple #[.agg #[.slice bi bu b8, .int .i64 ai], .int .i64 0]) bp)))) ∧
 (a3 ≠ 2 →
 (a0 ≥ 19 →
 ∀ (bs : World), Ext (fun b => b = a8) a6 bs →
 R (.tuple #[.agg #[.slice none 0 0, .int .i64 0], .int .i64 2]) bs) ∧
 (a0 < 19 →
 ∀ (af : World), Ext no a6 af →
 Calls Try.prog 46 #[.agg #[.slice ak al am, .int .i64 a0]] af fun c3 ay => ∃ (aq : Option Addr) (a2 : Nat) (b5 : Nat), c3 = .returned (.slice aq a2 b5) ∧
 Keep [c2, c1, a8] af ay ∧
 ((a2 : Int) ≠ (a1 : Int) →
 ∀ (bn : World), Ext (fun b => b = a8) ay bn →
 R (.tuple #[.agg #[.slice none 0 0, .int .i64 0], .int .i64 10]) bn) ∧
 ((a2 : Int) = (a1 : Int) →
 (((ae : Int) == 0) ≠ (a0 == (-1)) →
 ∀ (bd : World), Ext (fun b => b = a8) ay bd →
 R (.tuple #[.agg #[.slice none 0 0, .int .i64 0], .int .i64 10]) bd) ∧
 (((ae : Int) == 0) = (a0 == (-1)) →
 ∃ (I1 : Nat → List Value → World → Prop) (cb : Nat), I1 cb [.int .i64 0, .slice none 0 0, .int .i64 0] ay ∧ ∀ (ca : Nat) (an : World) (ao : Int) (bl : Option Addr) (br : Nat) (be : Nat) (aj : Int), I1 ca [.int .i64 ao, .slice bl br be, .int .i64 aj] an →
 (ao < (a2 : Int) →
 ∃ c9 : Addr, aq = some c9 ∧
 0 ≤ (ao : Int) ∧ (ao : Int) < (a2 : Int) ∧
 ∃ (ap : Int), an.cell? ((c9.add (Int.toNat ao * 5)).add 0) = some (.int .i64 ap) ∧
 ∃ bg : Addr, ab = some bg ∧
 0 ≤ (ao : Int) ∧ (ao : Int) < (a1 : Int) ∧
 ∃ (ac : Int), an.cell? ((bg.add (Int.toNat ao * 2)).add 0) = some (.int .i64 ac) ∧
 (ap ≠ ac →
 ∀ (b0 : World), Ext (fun b => b = a8) an b0 →
 R (.tuple #[.agg #[.slice none 0 0, .int .i64 0], .int .i64 10]) b0) ∧
 (ap = ac →
 (-9223372036854775808 : Int) ≤ (ao + 1) ∧ (ao + 1) < 9223372036854775808 ∧
 ∀ (bt : World), Ext no an bt →
 ∃ c0, c0 < ca ∧ I1 c0 [.int .i64 (ao + 1), .slice bl br be, .int .i64 aj] bt)) ∧
 ((a2 : Int) ≤ ao →
 (-9223372036854775808 : Int) ≤ (a0 + 1) ∧ (a0 + 1) < 9223372036854775808 ∧
 ∀ (b1 : World), Ext (fun b => b = a8) an b1 →
 R (.tuple #[.agg #[.slice ak al am, .int .i64 (a0 + 1)], .int .i64 0]) b1)))))))

theorem cachetteref12_Apply.up (ao : Option Addr) (ap : Nat) (aq : Nat) (a2 : Int) (am : Int) (ar : Int) (ae : Int) (a6 : Int) (ab : Option Addr) (a9 : Nat) (aa : Nat) (al : Option Addr) (ak : Nat) (aj : Nat) {R : Value → World → Prop} {w : World} (h : cachetteref12_Apply.N ao ap aq a2 am ar ae a6 ab a9 aa al ak aj R w) : cachetteref12_Apply.M ao ap aq a2 am ar ae a6 ab a9 aa al ak aj R w := by
  unfold cachetteref12_Apply.M
  unfold cachetteref12_Apply.N at h
  refine thenW_in fun ez e9 => ?_
  have a5 := Blk.of_new e9
  have g2 := ((Ext.refl no w)).size
  have f0 := (Ext.refl no w).x_alloc e9
  refine thenW_in fun a3 e1 => ?_
  have a7 := Blk.of_new e1
  have fy := (f0).size
  have f5 := Nat.ne_of_lt a5.lt
  have a5 := a5.x_alloc e1
  have c1 := f0.x_alloc e1
  refine thenW_in fun d3 co => ?_
  have a0 := Blk.of_new co
  have g6 := (c1).size
  have ew := Nat.ne_of_lt a5.lt
  have a5 := a5.x_alloc co
  have f8 := Nat.ne_of_lt a7.lt
  have a7 := a7.x_alloc co
  have d1 := c1.x_alloc co
  refine ⟨am, ar, ae, a6, ab, a9, aa, al, ak, aj, ⟨a7.celli 0 rfl rfl, a7.celli 1 rfl rfl, a7.celli 2 rfl rfl, a7.celli 3 rfl rfl, a7.celli 4 rfl rfl, a7.celli 5 rfl rfl, trivial⟩, ?_⟩
  have h := h d3 (w.heap.size) (ez.heap.size) (a3.heap.size) d1 (Priv.cons g2 a5.lt (Priv.cons fy a7.lt (Priv.cons g6 a0.lt Priv.nil)))
  refine h.mono fun fs bg h => ?_
  obtain ⟨b6, he, hk, h⟩ := h
  refine ⟨b6, he, ?_⟩
  have a5 := hk.blk a5 (by simp)
  have a7 := hk.blk a7 (by simp)
  have a0 := hk.blk a0 (by simp)
  refine bif_of (fun el => ?_) (fun el => ?_)
  ·have h := h.1 (not_t el)
   have d0 : Ext (fun b => b = a3.heap.size) bg bg := ((Ext.refl no bg)).none
   refine ⟨a0.cani 0 rfl rfl, thenW_in fun fq et => ?_⟩
   have dm := d0.x_set (q := a3.heap.size) (i := 0) rfl (.inl rfl) et
   have a0 := a0.seti 0 rfl et
   refine ⟨a0.cani 1 rfl rfl, thenW_in fun em fh => ?_⟩
   have dr := dm.x_set (q := a3.heap.size) (i := 1) rfl (.inl rfl) fh
   have a0 := a0.seti 1 rfl fh
   refine ⟨none, 0, 0, 0, ⟨a0.celli 0 rfl rfl, a0.celli 1 rfl rfl, trivial⟩, ?_⟩
   have h := h em dr
   exact h
  have h := h.2 (not_f el)
  unfold cachetteref12_Apply.J8
  refine ⟨ao, ap, aq, a2, ⟨a5.celli 0 rfl rfl, a5.celli 1 rfl rfl, trivial⟩, ?_⟩
  refine ⟨ar, a7.celli 1 rfl rfl, ?_⟩
  refine h.mono fun fv a1 h => ?_
  obtain ⟨ad, a4, a8, b7, ai, bh, he, hk, h⟩ := h
  refine ⟨ad, a4, a8, b7, ai, bh, he, ?_⟩
  have a5 := hk.blk a5 (by simp)
  have a7 := hk.blk a7 (by simp)
  have a0 := hk.blk a0 (by simp)
  refine thenW_in fun g5 ch => ?_
  have ac := Blk.of_new ch
  have b5 := ((Ext.refl no a1)).size
  have ah := Nat.ne_of_lt a5.lt
  have a5 := a5.x_alloc ch
  have an := Nat.ne_of_lt a7.lt
  have a7 := a7.x_alloc ch
  have af := Nat.ne_of_lt a0.lt
  have a0 := a0.x_alloc ch
  have ct := (Ext.refl no a1).x_alloc ch
  refine ⟨ac.cani 0 rfl rfl, thenW_in fun db c9 => ?_⟩
  have dg := ct.x_set (q := a1.heap.size) (i := 0) rfl (.inr b5) c9
  have a5 := a5.oth (q := a1.heap.size) (i := 0) rfl ah c9
  have a7 := a7.oth (q := a1.heap.size) (i := 0) rfl an c9
  have a0 := a0.oth (q := a1.heap.size) (i := 0) rfl af c9
  have ac : Blk db a1.heap.size 121 [.int .i64 ad, .int .u64 0, .int .i64 0, .int .i64 0, .int .i64 0] := ac.seti 0 rfl c9
  refine ⟨ac.cani 1 rfl rfl, thenW_in fun d6 ck => ?_⟩
  have dt := dg.x_set (q := a1.heap.size) (i := 1) rfl (.inr b5) ck
  have a5 := a5.oth (q := a1.heap.size) (i := 1) rfl ah ck
  have a7 := a7.oth (q := a1.heap.size) (i := 1) rfl an ck
  have a0 := a0.oth (q := a1.heap.size) (i := 1) rfl af ck
  have ac : Blk d6 a1.heap.size 121 [.int .i64 ad, .int .u64 a4, .int .i64 0, .int .i64 0, .int .i64 0] := ac.seti 1 rfl ck
  refine ⟨ac.cani 2 rfl rfl, thenW_in fun e8 c6 => ?_⟩
  have dx := dt.x_set (q := a1.heap.size) (i := 2) rfl (.inr b5) c6
  have a5 := a5.oth (q := a1.heap.size) (i := 2) rfl ah c6
  have a7 := a7.oth (q := a1.heap.size) (i := 2) rfl an c6
  have a0 := a0.oth (q := a1.heap.size) (i := 2) rfl af c6
  have ac : Blk e8 a1.heap.size 121 [.int .i64 ad, .int .u64 a4, .int .i64 a8, .int .i64 0, .int .i64 0] := ac.seti 2 rfl c6
  refine ⟨ac.cani 3 rfl rfl, thenW_in fun eb c7 => ?_⟩
  have cs := dx.x_set (q := a1.heap.size) (i := 3) rfl (.inr b5) c7
  have a5 := a5.oth (q := a1.heap.size) (i := 3) rfl ah c7
  have a7 := a7.oth (q := a1.heap.size) (i := 3) rfl an c7
  have a0 := a0.oth (q := a1.heap.size) (i := 3) rfl af c7
  have ac : Blk eb a1.heap.size 121 [.int .i64 ad, .int .u64 a4, .int .i64 a8, .int .i64 b7, .int .i64 0] := ac.seti 3 rfl c7
  refine ⟨ac.cani 4 rfl rfl, thenW_in fun av br => ?_⟩
  have au := cs.x_set (q := a1.heap.size) (i := 4) rfl (.inr b5) br
  have a5 := a5.oth (q := a1.heap.size) (i := 4) rfl ah br
  have a7 := a7.oth (q := a1.heap.size) (i := 4) rfl an br
  have a0 := a0.oth (q := a1.heap.size) (i := 4) rfl af br
  have ac : Blk av a1.heap.size 121 [.int .i64 ad, .int .u64 a4, .int .i64 a8, .int .i64 b7, .int .i64 ai] := ac.seti 4 rfl br
  refine ⟨am, a7.celli 0 rfl rfl, ?_⟩
  refine bif_of (fun d5 => ?_) (fun d5 => ?_)
  ·have h := h.1 (beq_t d5)
   refine bif_of (fun ef => ?_) (fun ef => ?_)
   ·have h := h.1 ef
    have e0 : Ext (fun b => b = a3.heap.size) a1 av := (au).none
    refine ⟨a0.cani 0 rfl rfl, thenW_in fun fw f1 => ?_⟩
    have dc := e0.x_set (q := a3.heap.size) (i := 0) rfl (.inl rfl) f1
    have a0 := a0.seti 0 rfl f1
    refine ⟨a0.cani 1 rfl rfl, thenW_in fun cw f9 => ?_⟩
    have e4 := dc.x_set (q := a3.heap.size) (i := 1) rfl (.inl rfl) f9
    have a0 := a0.seti 1 rfl f9
    refine ⟨none, 0, 0, 0, ⟨a0.celli 0 rfl rfl, a0.celli 1 rfl rfl, trivial⟩, ?_⟩
    have h := h cw e4
    exact h
   have h := h.2 ef
   unfold cachetteref12_Apply.J1
   refine ⟨ao, ap, aq, a2, ⟨a5.celli 0 rfl rfl, a5.celli 1 rfl rfl, trivial⟩, ?_⟩
   refine ⟨ar, a7.celli 1 rfl rfl, ?_⟩
   refine ⟨ae, a7.celli 2 rfl rfl, ?_⟩
   refine ⟨a2, a5.celli 1 rfl rfl, ?_⟩
   obtain ⟨bs, c3, h⟩ := h
   try rw [w64 bs c3]
   have h := h av au
   refine h.mono fun g8 bb h => ?_
   obtain ⟨cj, bp, c0, ax, he, hk, h⟩ := h
   refine ⟨cj, bp, c0, ax, he, ?_⟩
   have a0 := hk.blk a0 (by simp)
   have ei : Ext (fun b => b = a3.heap.size) bb bb := ((Ext.refl no bb)).none
   refine ⟨a0.cani 0 rfl rfl, thenW_in fun g1 eu => ?_⟩
   have ep := ei.x_set (q := a3.heap.size) (i := 0) rfl (.inl rfl) eu
   have a0 := a0.seti 0 rfl eu
   refine ⟨a0.cani 1 rfl rfl, thenW_in fun e6 ey => ?_⟩
   have e2 := ep.x_set (q := a3.heap.size) (i := 1) rfl (.inl rfl) ey
   have a0 := a0.seti 1 rfl ey
   refine ⟨cj, bp, c0, ax, ⟨a0.celli 0 rfl rfl, a0.celli 1 rfl rfl, trivial⟩, ?_⟩
   have h := h e6 e2
   exact h
  have h := h.2 (beq_f d5)
  refine bif_of (fun ek => ?_) (fun ek => ?_)
  ·have h := h.1 (beq_t ek)
   refine bif_of (fun da => ?_) (fun da => ?_)
   ·have h := h.1 (not_t da)
    have dj : Ext (fun b => b = a3.heap.size) a1 av := (au).none
    refine ⟨a0.cani 0 rfl rfl, thenW_in fun fm fe => ?_⟩
    have e5 := dj.x_set (q := a3.heap.size) (i := 0) rfl (.inl rfl) fe
    have a0 := a0.seti 0 rfl fe
    refine ⟨a0.cani 1 rfl rfl, thenW_in fun ds f3 => ?_⟩
    have dn := e5.x_set (q := a3.heap.size) (i := 1) rfl (.inl rfl) f3
    have a0 := a0.seti 1 rfl f3
    refine ⟨none, 0, 0, 0, ⟨a0.celli 0 rfl rfl, a0.celli 1 rfl rfl, trivial⟩, ?_⟩
    have h := h ds dn
    exact h
   have h := h.2 (not_f da)
   unfold cachetteref12_Apply.J4
   refine ⟨b7, ac.celli 3 rfl rfl, ?_⟩
   refine bif_of (fun dp => ?_) (fun dp => ?_)
   ·have h := h.1 (bne_t dp)
    have dq : Ext (fun b => b = a3.heap.size) a1 av := (au).none
    refine ⟨a0.cani 0 rfl rfl, thenW_in fun fl fg => ?_⟩
    have de := dq.x_set (q := a3.heap.size) (i := 0) rfl (.inl rfl) fg
    have a0 := a0.seti 0 rfl fg
    refine ⟨a0.cani 1 rfl rfl, thenW_in fun eh f4 => ?_⟩
    have ea := de.x_set (q := a3.heap.size) (i := 1) rfl (.inl rfl) f4
    have a0 := a0.seti 1 rfl f4
    refine ⟨none, 0, 0, 0, ⟨a0.celli 0 rfl rfl, a0.celli 1 rfl rfl, trivial⟩, ?_⟩
    have h := h eh ea
    exact h
   have h := h.2 (bne_f dp)
   unfold cachetteref12_Apply.J3
   refine ⟨a2, a5.celli 1 rfl rfl, ?_⟩
   refine ⟨ac.cani 3 rfl rfl, thenW_in fun cz bw => ?_⟩
   have bk := au.x_set (q := a1.heap.size) (i := 3) rfl (.inr b5) bw
   have a5 := a5.oth (q := a1.heap.size) (i := 3) rfl ah bw
   have a7 := a7.oth (q := a1.heap.size) (i := 3) rfl an bw
   have a0 := a0.oth (q := a1.heap.size) (i := 3) rfl af bw
   have ac : Blk cz a1.heap.size 121 [.int .i64 ad, .int .u64 a4, .int .i64 a8, .int .i64 a2, .int .i64 ai] := ac.seti 3 rfl bw
   refine ⟨a2, ac.celli 3 rfl rfl, ?_⟩
   refine bif_fo (fun en => ?_) (fun en => ?_)
   ·have h := h.2 (Int.not_lt.1 (of_decide_eq_false en))
    unfold cachetteref12_Apply.J2
    refine ⟨a6, a7.celli 3 rfl rfl, ?_⟩
    refine ⟨ac.cani 4 rfl rfl, thenW_in fun bx cn => ?_⟩
    have d8 := bk.x_set (q := a1.heap.size) (i := 4) rfl (.inr b5) cn
    have a5 := a5.oth (q := a1.heap.size) (i := 4) rfl ah cn
    have a0 := a0.oth (q := a1.heap.size) (i := 4) rfl af cn
    have ac : Blk bx a1.heap.size 121 [.int .i64 ad, .int .u64 a4, .int .i64 a8, .int .i64 a2, .int .i64 a6] := ac.seti 4 rfl cn
    refine ⟨ao, ap, aq, a2, ⟨a5.celli 0 rfl rfl, a5.celli 1 rfl rfl, trivial⟩, ?_⟩
    refine ⟨ad, a4, a8, a2, a6, ⟨ac.celli 0 rfl rfl, ac.celli 1 rfl rfl, ac.celli 2 rfl rfl, ac.celli 3 rfl rfl, ac.celli 4 rfl rfl, trivial⟩, ?_⟩
    have h := h bx d8
    refine h.mono fun fx bc h => ?_
    obtain ⟨bu, ca, bi, ay, he, hk, h⟩ := h
    refine ⟨bu, ca, bi, ay, he, ?_⟩
    have a0 := hk.blk a0 (by simp)
    have d7 : Ext (fun b => b = a3.heap.size) bc bc := ((Ext.refl no bc)).none
    refine ⟨a0.cani 0 rfl rfl, thenW_in fun fk f2 => ?_⟩
    have es := d7.x_set (q := a3.heap.size) (i := 0) rfl (.inl rfl) f2
    have a0 := a0.seti 0 rfl f2
    refine ⟨a0.cani 1 rfl rfl, thenW_in fun e3 ff => ?_⟩
    have d4 := es.x_set (q := a3.heap.size) (i := 1) rfl (.inl rfl) ff
    have a0 := a0.seti 1 rfl ff
    refine ⟨bu, ca, bi, ay, ⟨a0.celli 0 rfl rfl, a0.celli 1 rfl rfl, trivial⟩, ?_⟩
    have h := h e3 d4
    exact h
   have h := h.1 (of_decide_eq_true en)
   refine ⟨ac.cani 3 rfl rfl, thenW_in fun eo c2 => ?_⟩
   have ej := bk.x_set (q := a1.heap.size) (i := 3) rfl (.inr b5) c2
   have a5 := a5.oth (q := a1.heap.size) (i := 3) rfl ah c2
   have a7 := a7.oth (q := a1.heap.size) (i := 3) rfl an c2
   have a0 := a0.oth (q := a1.heap.size) (i := 3) rfl af c2
   have ac : Blk eo a1.heap.size 121 [.int .i64 ad, .int .u64 a4, .int .i64 a8, .int .i64 (-2), .int .i64 ai] := ac.seti 3 rfl c2
   unfold cachetteref12_Apply.J2
   refine ⟨a6, a7.celli 3 rfl rfl, ?_⟩
   refine ⟨ac.cani 4 rfl rfl, thenW_in fun cd cm => ?_⟩
   have cv := ej.x_set (q := a1.heap.size) (i := 4) rfl (.inr b5) cm
   have a5 := a5.oth (q := a1.heap.size) (i := 4) rfl ah cm
   have a0 := a0.oth (q := a1.heap.size) (i := 4) rfl af cm
   have ac : Blk cd a1.heap.size 121 [.int .i64 ad, .int .u64 a4, .int .i64 a8, .int .i64 (-2), .int .i64 a6] := ac.seti 4 rfl cm
   refine ⟨ao, ap, aq, a2, ⟨a5.celli 0 rfl rfl, a5.celli 1 rfl rfl, trivial⟩, ?_⟩
   refine ⟨ad, a4, a8, (-2), a6, ⟨ac.celli 0 rfl rfl, ac.celli 1 rfl rfl, ac.celli 2 rfl rfl, ac.celli 3 rfl rfl, ac.celli 4 rfl rfl, trivial⟩, ?_⟩
   have h := h cd cv
   refine h.mono fun g0 bd h => ?_
   obtain ⟨bj, bo, cc, aw, he, hk, h⟩ := h
   refine ⟨bj, bo, cc, aw, he, ?_⟩
   have a0 := hk.blk a0 (by simp)
   have df : Ext (fun b => b = a3.heap.size) bd bd := ((Ext.refl no bd)).none
   refine ⟨a0.cani 0 rfl rfl, thenW_in fun fr fi => ?_⟩
   have dz := df.x_set (q := a3.heap.size) (i := 0) rfl (.inl rfl) fi
   have a0 := a0.seti 0 rfl fi
   refine ⟨a0.cani 1 rfl rfl, thenW_in fun dd f7 => ?_⟩
   have dk := dz.x_set (q := a3.heap.size) (i := 1) rfl (.inl rfl) f7
   have a0 := a0.seti 1 rfl f7
   refine ⟨bj, bo, cc, aw, ⟨a0.celli 0 rfl rfl, a0.celli 1 rfl rfl, trivial⟩, ?_⟩
   have h := h dd dk
   exact h
  have h := h.2 (beq_f ek)
  unfold cachetteref12_Apply.J7
  refine ⟨a2, a5.celli 1 rfl rfl, ?_⟩
  refine bif_of (fun ed => ?_) (fun ed => ?_)
  ·have h := h.1 (of_decide_eq_true ed)
   have du : Ext (fun b => b = a3.heap.size) a1 av := (au).none
   refine ⟨a0.cani 0 rfl rfl, thenW_in fun g7 fb => ?_⟩
   have e7 := du.x_set (q := a3.heap.size) (i := 0) rfl (.inl rfl) fb
   have a0 := a0.seti 0 rfl fb
   refine ⟨a0.cani 1 rfl rfl, thenW_in fun ec fc => ?_⟩
   have dw := e7.x_set (q := a3.heap.size) (i := 1) rfl (.inl rfl) fc
   have a0 := a0.seti 1 rfl fc
   refine ⟨none, 0, 0, 0, ⟨a0.celli 0 rfl rfl, a0.celli 1 rfl rfl, trivial⟩, ?_⟩
   have h := h ec dw
   exact h
  have h := h.2 (Int.not_le.1 (of_decide_eq_false ed))
  unfold cachetteref12_Apply.J6
  refine ⟨ao, ap, aq, a2, ⟨a5.celli 0 rfl rfl, a5.celli 1 rfl rfl, trivial⟩, ?_⟩
  have h := h av au
  refine h.mono fun fo az h => ?_
  obtain ⟨b9, bf, be, he, hk, h⟩ := h
  refine ⟨b9, bf, be, he, ?_⟩
  have a5 := hk.blk a5 (by simp)
  have a7 := hk.blk a7 (by simp)
  have a0 := hk.blk a0 (by simp)
  refine ⟨ab, a9, aa, a7.celli 4 rfl rfl, ?_⟩
  refine bif_of (fun eg => ?_) (fun eg => ?_)
  ·have h := h.1 (bne_t eg)
   have dl : Ext (fun b => b = a3.heap.size) az az := ((Ext.refl no az)).none
   refine ⟨a0.cani 0 rfl rfl, thenW_in fun g4 f6 => ?_⟩
   have d2 := dl.x_set (q := a3.heap.size) (i := 0) rfl (.inl rfl) f6
   have a0 := a0.seti 0 rfl f6
   refine ⟨a0.cani 1 rfl rfl, thenW_in fun dv fa => ?_⟩
   have di := d2.x_set (q := a3.heap.size) (i := 1) rfl (.inl rfl) fa
   have a0 := a0.seti 1 rfl fa
   refine ⟨none, 0, 0, 0, ⟨a0.celli 0 rfl rfl, a0.celli 1 rfl rfl, trivial⟩, ?_⟩
   have h := h dv di
   exact h
  have h := h.2 (bne_f eg)
  refine ⟨al, ak, aj, a7.celli 5 rfl rfl, ?_⟩
  refine ⟨a2, a5.celli 1 rfl rfl, ?_⟩
  refine bif_of (fun cr => ?_) (fun cr => ?_)
  ·have h := h.1 (bbeq_f (not_t cr))
   have cx : Ext (fun b => b = a3.heap.size) az az := ((Ext.refl no az)).none
   refine ⟨a0.cani 0 rfl rfl, thenW_in fun fp ex => ?_⟩
   have dy := cx.x_set (q := a3.heap.size) (i := 0) rfl (.inl rfl) ex
   have a0 := a0.seti 0 rfl ex
   refine ⟨a0.cani 1 rfl rfl, thenW_in fun d9 fd => ?_⟩
   have cu := dy.x_set (q := a3.heap.size) (i := 1) rfl (.inl rfl) fd
   have a0 := a0.seti 1 rfl fd
   refine ⟨none, 0, 0, 0, ⟨a0.celli 0 rfl rfl, a0.celli 1 rfl rfl, trivial⟩, ?_⟩
   have h := h d9 cu
   exact h
  have h := h.2 (bbeq_t (not_f cr))
  unfold cachetteref12_Apply.J5
  obtain ⟨I1, ft, h0, h⟩ := h
  refine ⟨fun k vs ww => ∃ (b2 : Option Addr) (b3 : Nat) (b1 : Nat) (ag : Int), Blk ww w.heap.size 46 [.slice ao ap aq, .int .i64 a2] ∧ Blk ww ez.heap.size 67 [.int .i64 am, .int .i64 ar, .int .u64 ae, .int .i64 a6, .slice ab a9 aa, .slice al ak aj] ∧ Blk ww a3.heap.size 46 [.slice b2 b3 b1, .int .i64 ag] ∧ I1 k (vs ++ [.slice b2 b3 b1, .int .i64 ag]) ww, ft, ⟨none, 0, 0, 0, a5, a7, a0, h0⟩, fun fz b0 g3 hI => ?_⟩
  obtain ⟨b2, b3, b1, ag, a5, a7, a0, hI⟩ := hI
  have h := h fz b0 g3 b2 b3 b1 ag hI
  refine bif_fo (fun ee => ?_) (fun ee => ?_)
  ·have h := h.2 (Int.not_lt.1 (of_decide_eq_false ee))
   refine ⟨ao, ap, aq, a5.celli 0 rfl rfl, ?_⟩
   refine ⟨a2, a5.celli 1 rfl rfl, ?_⟩
   obtain ⟨bs, c3, h⟩ := h
   try rw [w64 bs c3]
   have c5 : Ext (fun b => b = a3.heap.size) b0 b0 := ((Ext.refl no b0)).none
   refine ⟨a0.cani 0 rfl rfl, thenW_in fun ev bl => ?_⟩
   have cb := c5.x_set (q := a3.heap.size) (i := 0) rfl (.inl rfl) bl
   have a0 := a0.seti 0 rfl bl
   refine ⟨a0.cani 1 rfl rfl, thenW_in fun cf bz => ?_⟩
   have bt := cb.x_set (q := a3.heap.size) (i := 1) rfl (.inl rfl) bz
   have a0 := a0.seti 1 rfl bz
   refine ⟨ao, ap, aq, (a2 + 1), ⟨a0.celli 0 rfl rfl, a0.celli 1 rfl rfl, trivial⟩, ?_⟩
   have h := h cf bt
   exact h
  have h := h.1 (of_decide_eq_true ee)
  refine thenW_in fun c8 cp => ?_
  have b4 := (Ext.refl no b0).x_drew cp
  have a5 := a5.x_drew cp
  have a7 := a7.x_drew cp
  have a0 := a0.x_drew cp
  obtain ⟨g9, dh, h⟩ := h
  refine elim_some dh ?_
  obtain ⟨cq, cy, h⟩ := h
  refine ⟨cq, cy, ?_⟩
  obtain ⟨bm, eq, h⟩ := h
  refine ⟨bm, (b4).cell eq id, ?_⟩
  refine ⟨ab, a9, aa, a7.celli 4 rfl rfl, ?_⟩
  obtain ⟨fu, ce, h⟩ := h
  refine elim_some ce ?_
  obtain ⟨cq, cy, h⟩ := h
  refine ⟨cq, cy, ?_⟩
  obtain ⟨b8, cl, h⟩ := h
  refine ⟨b8, (b4).cell cl id, ?_⟩
  refine bif_fo (fun ba => ?_) (fun ba => ?_)
  ·have h := h.2 (bne_f ba)
   obtain ⟨bs, c3, h⟩ := h
   try rw [w64 bs c3]
   have h := h c8 b4
   obtain ⟨er, hk, h⟩ := h
   exact ⟨er, hk, b2, b3, b1, ag, a5, a7, a0, h⟩
  have h := h.1 (bne_t ba)
  have ci : Ext (fun b => b = a3.heap.size) b0 c8 := (b4).none
  refine ⟨a0.cani 0 rfl rfl, thenW_in fun fj c4 => ?_⟩
  have cg := ci.x_set (q := a3.heap.size) (i := 0) rfl (.inl rfl) c4
  have a0 := a0.seti 0 rfl c4
  refine ⟨a0.cani 1 rfl rfl, thenW_in fun bv bq => ?_⟩
  have bn := cg.x_set (q := a3.heap.size) (i := 1) rfl (.inl rfl) bq
  have a0 := a0.seti 1 rfl bq
  refine ⟨none, 0, 0, 0, ⟨a0.celli 0 rfl rfl, a0.celli 1 rfl rfl, trivial⟩, ?_⟩
  have h := h bv bn
  exact h

theorem cachetteref12_Apply.go (ab : Option Addr) (ac : Nat) (ad : Nat) (a4 : Int) (a6 : Int) (aa : Int) (a0 : Int) (a5 : Int) (a3 : Option Addr) (a2 : Nat) (a1 : Nat) (a7 : Option Addr) (a9 : Nat) (a8 : Nat) {R : Value → World → Prop} {w : World} (h : cachetteref12_Apply.N ab ac ad a4 a6 aa a0 a5 a3 a2 a1 a7 a9 a8 R w) : Calls Try.prog 14 #[.agg #[.slice ab ac ad, .int .i64 a4], .agg #[.int .i64 a6, .int .i64 aa, .int .u64 a0, .int .i64 a5, .slice a3 a2 a1, .slice a7 a9 a8]] w fun e w' => ∃ v, e = .returned v ∧ R v w' := cachetteref12_Apply.ok ab ac ad a4 a6 aa a0 a5 a3 a2 a1 a7 a9 a8 (cachetteref12_Apply.up ab ac ad a4 a6 aa a0 a5 a3 a2 a1 a7 a9 a8 h)
end Go.Proofs.Ytaifegpikhjiiaa

/- MembersKeeps. -/
set_option linter.unusedVariables false
set_option linter.unusedSimpArgs false
set_option maxRecDepth 20000
set_option maxHeartbeats 2000000
namespace Go.Proofs.Ytaifegpikhjiiaa
open Go Go.Mx Go.Proofs
open W (OwnB)
abbrev RRw (N : Nat) (w : World) (o : Own) (a : Option Addr) (c : Nat) (ml : List Mem) : Prop := LRow 121 5 N w o a ml.length c (ml.flatMap Mem.C)
section
variable {w w' w1 : World} {o o' o1 : Own} {a b : Option Addr} {c d N : Nat} {s t : MS} {m : Mem} {cg : Chg} {ml : List Mem}
theorem RRw.push (h : RRw N w o a c ml) (ok : Tags w o) (hl : ml.length < 1000000) (m : Mem) {q : Nat} (hb : Blk w q 121 m.C) (hq : N ≤ q) (hq' : q < w.heap.size) :
    ∃ a' n' c' w' o', (Builtin.append_ #[44, 44] 44 #[.slice a ml.length c, .slice (some (blk q)) 1 1]).run Try.prog w = .ok (.slice a' n' c') w' ∧ n' = (ml ++ [m]).length ∧ Step (fun j => N ≤ j) w o w' o' ∧ RRw N w' o' a' c' (ml ++ [m]) := by
  obtain ⟨i, hi, hz, hsz, hby⟩ := info_of inf121
  obtain ⟨a', c', w', o', hrun, s2, hrow, _⟩ := LRow.push (ty := 44) Try.underlying44 hi hz hsz hby rfl (by decide) h ok hq hq' (xa := some (blk q)) (m := 1) (xc := 1) (news := m.C) rfl (RowAt.of_blk hb) m.one (by omega) (by omega)
  exact ⟨a', _, c', w', o', hrun, by simp, s2, by unfold RRw; rw [List.length_append, List.flatMap_append]; simpa using hrow⟩
end
end Go.Proofs.Ytaifegpikhjiiaa

/- Members: the reference's functions. -/
set_option linter.unusedVariables false
set_option linter.unusedSimpArgs false
set_option maxRecDepth 20000
set_option maxHeartbeats 4000000
namespace Go.Proofs.Ytaifegpikhjiiaa
open Go Go.Mx Go.Proofs
open W (OwnB)
def putGo (m : Mem) : List Mem → Bool → List Mem
  | [], inb => if inb then [] else [m]
  | x :: r, inb => (if inb = false ∧ m.who ≤ x.who then [m] else []) ++ (if x.who = m.who then [] else [x]) ++ putGo m r (inb || decide (m.who ≤ x.who))
def mputR (l : List Mem) (m : Mem) : List Mem := putGo m l false
section
variable {w w' w1 : World} {o o' o1 : Own} {a b : Option Addr} {c d N : Nat} {s t : MS} {m : Mem} {cg : Chg} {ml : List Mem} {l : List Wr} {wa oa : Option Addr} {wc oc : Nat}
theorem putGo_true (m : Mem) : ∀ l : List Mem, putGo m l true = l.filter fun x => decide (x.who ≠ m.who)
  | [] => rfl
  | x :: r => by
    simp only [putGo, Bool.true_or, putGo_true m r, List.filter_cons]
    by_cases h : x.who = m.who <;> simp [h]
theorem putGo_false (m : Mem) : ∀ l : List Mem, putGo m l false = l.take (findI l m.who) ++ m :: (l.drop (findI l m.who)).filter fun x => decide (x.who ≠ m.who)
  | [] => rfl
  | x :: r => by
    by_cases h : x.who < m.who
    · have e : findI (x :: r) m.who = findI r m.who + 1 := by unfold findI; rw [List.takeWhile_cons, if_pos (by simpa using h)]; rfl
      have h1 : ¬ m.who ≤ x.who := by omega
      have h2 : x.who ≠ m.who := by omega
      rw [e]
      simp [putGo, h1, h2, putGo_false m r]
    · have e : findI (x :: r) m.who = 0 := by unfold findI; rw [List.takeWhile_cons, if_neg (by simpa using h)]; rfl
      have h1 : m.who ≤ x.who := by omega
      rw [e]
      simp only [putGo, h1, and_self, if_true, List.take_zero, List.nil_append, List.drop_zero, decide_true, Bool.or_true, putGo_true, List.filter_cons, List.singleton_append]
      by_cases h2 : x.who = m.who <;> simp [h2]
theorem putR_new (hs : Sorted ml) (h : isAt ml m.who = false) : mputR ml m = ml.take (findI ml m.who) ++ m :: ml.drop (findI ml m.who) := by
  unfold mputR
  rw [putGo_false, List.filter_eq_self.2]
  intro x hx
  obtain ⟨j, hj⟩ := List.getElem?_of_mem hx
  rw [List.getElem?_drop] at hj
  have hlt : findI ml m.who < ml.length := by have := (List.getElem?_eq_some_iff.1 hj).1; omega
  have hg : ml[findI ml m.who]? = some ml[findI ml m.who] := List.getElem?_eq_getElem hlt
  have h1 := findI_at hg
  have h2 : m.who ≠ (ml[findI ml m.who]).who := fun e => by
    unfold isAt at h; rw [hg] at h; exact of_decide_eq_false h e.symm
  rcases Nat.eq_zero_or_pos j with rfl | hp
  · rw [Nat.add_zero, hg] at hj; cases hj; simp; omega
  · have := hs.get hg hj (by omega); simp; omega
theorem putR_old (hs : Sorted ml) {x : Mem} (hx : ml[findI ml m.who]? = some x) (hw : x.who = m.who) : mputR ml m = ml.set (findI ml m.who) m := by
  have hlt := (List.getElem?_eq_some_iff.1 hx).1
  unfold mputR
  rw [putGo_false, List.set_eq_take_append_cons_drop, if_pos hlt]
  congr 2
  rw [List.drop_eq_getElem_cons hlt]
  have e : ml[findI ml m.who] = x := (List.getElem?_eq_some_iff.1 hx).2
  rw [e, List.filter_cons, if_neg (by simpa using hw), List.filter_eq_self.2]
  intro y hy
  obtain ⟨j, hj⟩ := List.getElem?_of_mem hy
  rw [List.getElem?_drop] at hj
  have := hs.get hx hj (by omega)
  simp; omega
theorem who_F (x : Int) : cachetteref12_who.F x = decide (0 ≤ x ∧ x < 8) := by
  unfold cachetteref12_who.F
  by_cases h : x ≥ 0
  · rw [if_pos h]
    by_cases h2 : x < 8 <;> simp [h2] <;> omega
  · rw [if_neg h]
    rw [eq_comm, decide_eq_false_iff_not]; omega
theorem rNew_spec (ok : Tags w o) (p : Int) : Calls Try.prog 23 #[.int .u64 p] w (fun x w' => ∃ o' a' c', x = .returned (.agg #[.slice a' (newM p).ml.length c', .int .i64 (newM p).ep]) ∧ Step no w o w' o' ∧ Row w' o' a' ((newM p).ml.flatMap Mem.C) ∧ (newM p).ml.length ≤ c') := by
  refine (cachetteref12_New.go p (R := fun v w' => ∃ o' a' c', v = (.agg #[.slice a' (newM p).ml.length c', .int .i64 (newM p).ep]) ∧ Step no w o w' o' ∧ Row w' o' a' ((newM p).ml.flatMap Mem.C) ∧ (newM p).ml.length ≤ c') ?_).mono fun x w' ⟨v, he, o', a', c', hv, hw⟩ => ⟨o', a', c', by rw [he, hv], hw⟩
  unfold cachetteref12_New.N
  intro w3 q4 p5 X3 hb hq hq' hp w7 X7
  have s3 := (Step.of_no X3 ok).tag (p := p5) (j := p5) (hp p5 (by simp)).1 (by have := (hp p5 (by simp)).2; omega)
  have h5 := hp p5 (by simp)
  have M3 : Mine [p5] w3 (tag (grow w o) p5 p5) := fun p hp' => by rw [show p = p5 by simpa using hp']; exact ⟨by omega, tag_self⟩
  have s7 := Step.stores X7 s3.ok M3 (by simp)
  have r3 : Row w3 (tag (grow w o) p5 p5) (some (blk q4)) ((newM p).ml.flatMap Mem.C) := ⟨RowAt.of_blk hb, fun _ ad ha => by cases ha; rw [tag_ne (by show q4 ≠ p5; omega)]; exact grow_ge hq⟩
  exact ⟨_, some (blk q4), 1, rfl, s3.trans' s7 fun i hi => .inr (by simp at hi; omega), r3.step s7, Nat.le_refl _⟩
theorem rFind_spec (hr : Row w o a (ml.flatMap Mem.C)) (ok : Tags w o) (hs : Sorted ml) (hl : ml.length < 1000000) (ep x : Int) :
    Calls Try.prog 44 #[.agg #[.slice a ml.length c, .int .i64 ep], .int .i64 x] w (Ret (.tuple #[(findM ml x).1.V, .bool (findM ml x).2]) fun w' => ∃ o', Step no w o w' o') := by
  refine cachetteref12_Find.run a ml.length c ep x ?_
  unfold cachetteref12_Find.N
  intro w5 p7 X5 hp
  obtain ⟨s5, M5⟩ := Step.priv X5 hp ok
  have g : w.heap.size ≤ p7 := (hp p7 (by simp)).1
  refine ⟨fun m vs w1 => ∃ (t : Nat), vs = [.int .i64 t, .int .i64 0, .int .u64 0, .int .i64 0, .int .i64 0, .int .i64 0] ∧ m + t = ml.length ∧ w1 = w5 ∧ ∀ y ∈ ml.take t, y.who ≠ x, ml.length, ⟨0, rfl, rfl, rfl, by simp⟩, ?_⟩
  rintro m w1 i0 k1 k2 k3 k4 k5 ⟨t, hi, hm, rfl, hno⟩
  simp only [List.cons.injEq, Value.int.injEq, true_and, and_true] at hi
  obtain ⟨rfl, rfl, rfl, rfl, rfl, rfl⟩ := hi
  refine ⟨fun ht => ?_, fun ht w38 X38 => ?_⟩
  · have htl : t < ml.length := by omega
    have hg : ml[t]? = some ml[t] := List.getElem?_eq_getElem htl
    have hym := List.getElem_mem htl
    have htk : ml.take (t + 1) = ml.take t ++ [ml[t]] := by rw [List.take_add_one, hg]; rfl
    generalize ml[t] = y at *
    have hr5 := hr.step s5
    obtain ⟨ad, rfl⟩ := hr.1.faddr Mem.len (by decide) htl
    refine ⟨ad, rfl, by omega, by omega, y.who, by rw [Int.toNat_natCast]; exact hr5.1.fcell Mem.len hg 0 rfl, fun he => ⟨by omega, by omega, y.who, y.pub, y.fr, y.to_, y.lim, by rw [Int.toNat_natCast]; exact hr5.1.floads Mem.len hg, fun w32 X32 => ?_⟩, fun hne => ⟨by omega, by omega, m - 1, by omega, t + 1, rfl, by omega, rfl, fun z hz => ?_⟩⟩
    · have s32 := Step.stores X32 s5.ok M5 (by simp)
      have hF : findM ml x = (y, true) := by rw [← he]; exact findM_some hs hym
      rw [hF]
      exact ⟨rfl, _, s5.trans' s32 fun i hi => .inr (by simp at hi; omega)⟩
    · rw [htk] at hz
      rcases List.mem_append.1 hz with hz | hz
      · exact hno z hz
      · simp at hz; subst hz; exact hne
  · have s38 := Step.stores X38 s5.ok M5 (by simp)
    have : t = ml.length := by omega
    subst this
    rw [List.take_length] at hno
    have hF : findM ml x = (Mem.z, false) := by
      unfold findM
      rw [if_neg]
      intro h
      obtain ⟨y, hy, hw⟩ := isAt_some h
      exact hno y (List.mem_of_getElem? hy) hw
    rw [hF]
    exact ⟨rfl, _, s5.trans' s38 fun i hi => .inr (by simp at hi; omega)⟩
theorem rNow_spec (hr : Row w o a (ml.flatMap Mem.C)) (ok : Tags w o) (hl : ml.length < 1000) (ep : Int) :
    Calls Try.prog 46 #[.agg #[.slice a ml.length c, .int .i64 ep]] w (fun x w' => ∃ o' a' c', x = .returned (.slice a' (nowM ml).length c') ∧ Step no w o w' o' ∧ Row w' o' a' ((nowM ml).flatMap Mem.C) ∧ (nowM ml).length ≤ c') := by
  refine (cachetteref12_Now.go a ml.length c ep (R := fun v w' => ∃ o' a' c', v = (.slice a' (nowM ml).length c') ∧ Step no w o w' o' ∧ Row w' o' a' ((nowM ml).flatMap Mem.C) ∧ (nowM ml).length ≤ c') ?_).mono fun x w' ⟨v, he, o', a', c', hv, hw⟩ => ⟨o', a', c', by rw [he, hv], hw⟩
  unfold cachetteref12_Now.N
  intro w3 p4 X3 hp
  obtain ⟨s3, M3⟩ := Step.priv X3 hp ok
  have g4 := hp p4 (by simp)
  refine ⟨fun m vs w1 => ∃ (t : Nat) (a1 : Option Addr) (c1 : Nat) (o1 : Own), vs = [.slice a1 (nowM (ml.take t)).length c1, .int .i64 t] ∧ m + t = ml.length ∧ Step no w o w1 o1 ∧ Mine [p4] w1 o1 ∧ w3.heap.size ≤ w1.heap.size ∧ RRw w3.heap.size w1 o1 a1 c1 (nowM (ml.take t)), ml.length, ⟨0, none, 0, _, rfl, rfl, s3, M3, Nat.le_refl _, LRow.nil _ _ _ _ _⟩, ?_⟩
  rintro m w1 ra rn rc i ⟨t, a1, c1, o1, hi, hm, s1, M1, hsz, r1⟩
  simp only [List.cons.injEq, Value.slice.injEq, Value.int.injEq, true_and, and_true] at hi
  obtain ⟨⟨rfl, rfl, rfl⟩, rfl⟩ := hi
  refine ⟨fun ht => ?_, fun ht => ?_⟩
  · have htl : t < ml.length := by omega
    have hg : ml[t]? = some ml[t] := List.getElem?_eq_getElem htl
    have htk : ml.take (t + 1) = ml.take t ++ [ml[t]] := by rw [List.take_add_one, hg]; rfl
    generalize ml[t] = x at *
    obtain ⟨ad, rfl⟩ := hr.1.faddr Mem.len (by decide) htl
    refine ⟨ad, rfl, by omega, by omega, x.to_, by rw [Int.toNat_natCast]; exact (hr.step s1).1.fcell Mem.len hg 3 rfl, fun hto => ⟨by omega, by omega, x.who, x.pub, x.fr, x.to_, x.lim, by rw [Int.toNat_natCast]; exact (hr.step s1).1.floads Mem.len hg, fun w25 q26 X25 hb hq hq' => ?_⟩, fun hto => ⟨by omega, by omega, ?_⟩⟩
    · have s25 := Step.of_no X25 s1.ok
      have r25 : RRw w3.heap.size w25 _ ra rc (nowM (ml.take t)) := LRow.step r1 s25 fun k h => h.elim
      have hln : (nowM (ml.take t)).length < 1000000 := by
        have h1 : (nowM (ml.take t)).length ≤ (ml.take t).length := List.length_filter_le _ _
        rw [List.length_take] at h1; omega
      obtain ⟨a', n', c', w', o', hrun, hn', s2, hrow⟩ := r25.push s25.ok hln x hb (by omega) hq'
      have hnw : nowM (ml.take (t + 1)) = nowM (ml.take t) ++ [x] := by rw [htk]; unfold nowM; rw [List.filter_append]; simp [hto]
      have hs3 := s3.size
      refine ⟨a', n', c', w', hrun, (M1.step s25).keep s2 (fun p hp' => by simp at hp'; omega), by omega, by omega, m - 1, by omega, t + 1, a', c', o', by rw [hn', hnw]; rfl, by omega, (s1.trans s25).trans' s2 fun i hi => .inr (by omega), (M1.step s25).step s2, Nat.le_trans hsz (Nat.le_trans X25.size s2.size), by rw [hnw]; exact hrow⟩
    · have hnw : nowM (ml.take (t + 1)) = nowM (ml.take t) := by rw [htk]; unfold nowM; rw [List.filter_append]; simp [hto]
      exact ⟨m - 1, by omega, t + 1, ra, rc, _, by rw [hnw]; simp, by omega, s1, M1, hsz, by rw [hnw]; exact r1⟩
  · have : t = ml.length := by omega
    subst this
    rw [List.take_length] at r1 ⊢
    exact ⟨_, ra, rc, rfl, noStep (K := no) s1, r1.give s1 s3.size, r1.le⟩
theorem mput_spec (hr : Row w o a (ml.flatMap Mem.C)) (ok : Tags w o) (hl : ml.length < 1000) (ep : Int) (m : Mem) :
    Calls Try.prog 45 #[.agg #[.slice a ml.length c, .int .i64 ep], m.V] w (fun x w' => ∃ o' a' c', x = .returned (.agg #[.slice a' (mputR ml m).length c', .int .i64 ep]) ∧ Step no w o w' o' ∧ Row w' o' a' ((mputR ml m).flatMap Mem.C) ∧ (mputR ml m).length ≤ c') := by
  refine (cachetteref12_put.go a ml.length c ep m.who m.pub m.fr m.to_ m.lim (R := fun v w' => ∃ o' a' c', v = (.agg #[.slice a' (mputR ml m).length c', .int .i64 ep]) ∧ Step no w o w' o' ∧ Row w' o' a' ((mputR ml m).flatMap Mem.C) ∧ (mputR ml m).length ≤ c') ?_).mono fun x w' ⟨v, he, o', a', c', hv, hw⟩ => ⟨o', a', c', by rw [he, hv], hw⟩
  unfold cachetteref12_put.N
  intro w13 p14 p15 p16 p17 X13 hp
  obtain ⟨s13, M13⟩ := Step.priv X13 hp ok
  have g : ∀ p ∈ [p14, p15, p16, p17], w.heap.size ≤ p := fun p h => (hp p h).1
  have hM : ∀ p ∈ [p14, p15, p16, p17], p < w13.heap.size := fun p h => M13.lt h
  have hs13 := s13.size
  refine ⟨fun k vs w1 => ∃ (inb : Bool) (t : Nat) (a1 : Option Addr) (c1 : Nat) (out : List Mem) (o1 : Own), vs = [.bool inb, .int .i64 t, .slice none 0 0, .int .i64 0, .slice a1 out.length c1, .int .i64 ep] ∧ k + t = ml.length ∧ Step no w o w1 o1 ∧ Mine [p14, p15, p16, p17] w1 o1 ∧ w13.heap.size ≤ w1.heap.size ∧ RRw w13.heap.size w1 o1 a1 c1 out ∧ out ++ putGo m (ml.drop t) inb = mputR ml m ∧ out.length ≤ 2 * t, ml.length, ⟨false, 0, none, 0, [], _, rfl, rfl, s13, M13, Nat.le_refl _, LRow.nil _ _ _ _ _, rfl, Nat.le_refl _⟩, ?_⟩
  intro k w26 inb0 i0 k5a k5n k5c k6 k11a k11n k11c k12 hI
  obtain ⟨inb, t, a1, c1, out, o1, hi, hk, s1, M1, hsz, r1, hout, hol⟩ := hI
  simp only [List.cons.injEq, Value.slice.injEq, Value.int.injEq, Value.bool.injEq, true_and, and_true] at hi
  obtain ⟨rfl, rfl, ⟨rfl, rfl, rfl⟩, rfl, ⟨rfl, rfl, rfl⟩, rfl⟩ := hi
  -- one more
  have psh : ∀ {wz : World} {oz : Own} {az : Option Addr} {cz : Nat} {outz : List Mem} (x : Mem) {wy : World} {q : Nat}, Step no w o wz oz → Mine [p14, p15, p16, p17] wz oz → w13.heap.size ≤ wz.heap.size → RRw w13.heap.size wz oz az cz outz → outz.length < 1000000 → Ext no wz wy → Blk wy q 121 x.C → wz.heap.size ≤ q → q < wy.heap.size →
      ∃ a' n' c' w' o', (Builtin.append_ #[44, 44] 44 #[.slice az outz.length cz, .slice (some (blk q)) 1 1]).run Try.prog wy = .ok (.slice a' n' c') w' ∧ n' = (outz ++ [x]).length ∧ (∀ L, (∀ p ∈ L, p ∈ [p14, p15, p16, p17]) → Keep L wy w') ∧ Step no w o w' o' ∧ Mine [p14, p15, p16, p17] w' o' ∧ w13.heap.size ≤ w'.heap.size ∧ RRw w13.heap.size w' o' a' c' (outz ++ [x]) := by
    intro wz oz az cz outz x wy q sz Mz hz rz hoz X hb hq hq'
    have sy := Step.of_no X sz.ok
    have ry : RRw w13.heap.size wy _ az cz outz := LRow.step rz sy fun k h => h.elim
    obtain ⟨a', n', c', w', o', hrun, hn', s2, hrow⟩ := ry.push sy.ok hoz x hb (by omega) hq'
    refine ⟨a', n', c', w', o', hrun, hn', fun L hL => ((Mz.step sy).sub hL).keep s2 (fun p hp' => by have := hM p (hL p hp'); omega), (sz.trans sy).trans' s2 fun i hi => .inr (by omega), (Mz.step sy).step s2, Nat.le_trans hz (Nat.le_trans X.size s2.size), hrow⟩
  -- a store into a block of one's own
  have sto : ∀ {wz wy : World} {oz : Own} {az : Option Addr} {cz : Nat} {outz : List Mem} {mm : Nat → Prop}, (∀ b, mm b → b ∈ [p14, p15, p16, p17]) → Step no w o wz oz → Mine [p14, p15, p16, p17] wz oz → w13.heap.size ≤ wz.heap.size → RRw w13.heap.size wz oz az cz outz → Ext mm wz wy → ∃ oy, Step no w o wy oy ∧ Mine [p14, p15, p16, p17] wy oy ∧ w13.heap.size ≤ wy.heap.size ∧ RRw w13.heap.size wy oy az cz outz := by
    intro wz wy oz az cz outz mm hmm sz Mz hz rz X
    have s2 := Step.stores X sz.ok Mz hmm
    exact ⟨_, sz.trans' s2 fun i hi => .inr (g i hi), Mz.step s2, Nat.le_trans hz s2.size, LRow.step rz s2 fun k hk => .inl (hM k hk)⟩
  refine ⟨fun ht => ?_, fun ht => ?_⟩
  · have htl : t < ml.length := by omega
    have hg : ml[t]? = some ml[t] := List.getElem?_eq_getElem htl
    have hdrop := List.drop_eq_getElem_cons htl
    rw [hdrop] at hout
    generalize ml[t] = x at *
    obtain ⟨ad, rfl⟩ := hr.1.faddr Mem.len (by decide) htl
    have c0 : ∀ {wz : World} {oz : Own}, Step no w o wz oz → wz.cell? ((ad.add (Int.toNat (t : Int) * 5)).add 0) = some (.int .i64 x.who) := fun sz => by rw [Int.toNat_natCast]; exact (hr.step sz).1.fcell Mem.len hg 0 rfl
    have ld : ∀ {wz : World} {oz : Own}, Step no w o wz oz → cellsAt wz (ad.add (Int.toNat (t : Int) * 5)) [.int .i64 x.who, .int .u64 x.pub, .int .i64 x.fr, .int .i64 x.to_, .int .i64 x.lim] 0 := fun sz => by rw [Int.toNat_natCast]; exact (hr.step sz).1.floads Mem.len hg
    refine ⟨fun hin => ⟨ad, rfl, by omega, by omega, x.who, c0 s1, fun hge w34 q35 X34 hb hq hq' => ?_, fun hlt => ⟨by omega, by omega, x.who, c0 s1, fun hne => ⟨by omega, by omega, x.who, x.pub, x.fr, x.to_, x.lim, ld s1, fun w34 q35 X34 hb hq hq' => ?_⟩, fun h => by omega⟩⟩, fun hin => ⟨ad, rfl, by omega, by omega, x.who, c0 s1, fun hne => ⟨by omega, by omega, x.who, x.pub, x.fr, x.to_, x.lim, ld s1, fun w34 q35 X34 hb hq hq' => ?_⟩, fun he => ⟨by omega, by omega, fun w75 X75 => ?_⟩⟩⟩
    · obtain ⟨a', n', c', w37, o37, hrun, hn', hkp, s37, M37, z37, r37⟩ := psh m s1 M1 hsz r1 (by omega) X34 hb hq hq'
      refine ⟨a', n', c', w37, hrun, hkp _ (fun p h => h), by omega, by omega, fun w39 X39 => ?_⟩
      obtain ⟨o39, s39, M39, z39, r39⟩ := sto (by simp) s37 M37 z37 r37 X39
      have hstep : out ++ [m] ++ (if x.who = m.who then [] else [x]) ++ putGo m (ml.drop (t + 1)) true = mputR ml m := by
        rw [← hout, hin]; simp only [putGo, show m.who ≤ x.who by omega, and_self, if_true, decide_true, Bool.or_true, List.append_assoc]
      refine ⟨x.who, c0 s39, fun hne => ⟨by omega, by omega, x.who, x.pub, x.fr, x.to_, x.lim, ld s39, fun w50 q51 X50 hb2 hq2 hq2' => ?_⟩, fun he => ⟨by omega, by omega, k - 1, by omega, true, t + 1, a', c', out ++ [m], o39, by rw [hn']; rfl, by omega, s39, M39, z39, r39, ?_, by simp; omega⟩⟩
      · rw [hn']
        obtain ⟨a2, n2, c2, w53, o53, hrun2, hn2, hkp2, s53, M53, z53, r53⟩ := psh x s39 M39 z39 r39 (by simp; omega) X50 hb2 hq2 hq2'
        refine ⟨a2, n2, c2, w53, hrun2, hkp2 _ (fun p h => h), by omega, by omega, fun w54 X54 => ?_⟩
        obtain ⟨o54, s54, M54, z54, r54⟩ := sto (by simp) s53 M53 z53 r53 X54
        rw [if_neg hne] at hstep
        exact ⟨k - 1, by omega, true, t + 1, a2, c2, out ++ [m] ++ [x], o54, by rw [hn2]; rfl, by omega, s54, M54, z54, r54, hstep, by simp; omega⟩
      · rw [if_pos he, List.append_nil] at hstep; exact hstep
    · obtain ⟨a', n', c', w37, o37, hrun, hn', hkp, s37, M37, z37, r37⟩ := psh x s1 M1 hsz r1 (by omega) X34 hb hq hq'
      refine ⟨a', n', c', w37, hrun, hkp _ (fun p h => h), by omega, by omega, fun w39 X39 => ?_⟩
      obtain ⟨o39, s39, M39, z39, r39⟩ := sto (by simp) s37 M37 z37 r37 X39
      refine ⟨k - 1, by omega, inb0, t + 1, a', c', out ++ [x], o39, by rw [hn']; rfl, by omega, s39, M39, z39, r39, ?_, by simp; omega⟩
      rw [← hout, hin]
      have h1 : ¬ m.who ≤ x.who := by omega
      simp [putGo, h1, hne]
    · obtain ⟨a', n', c', w37, o37, hrun, hn', hkp, s37, M37, z37, r37⟩ := psh x s1 M1 hsz r1 (by omega) X34 hb hq hq'
      refine ⟨a', n', c', w37, hrun, hkp _ (fun p h => h), by omega, by omega, fun w39 X39 => ?_⟩
      obtain ⟨o39, s39, M39, z39, r39⟩ := sto (by simp) s37 M37 z37 r37 X39
      refine ⟨k - 1, by omega, inb0, t + 1, a', c', out ++ [x], o39, by rw [hn']; rfl, by omega, s39, M39, z39, r39, ?_, by simp; omega⟩
      rw [← hout, hin]
      simp [putGo, hne]
    · obtain ⟨o75, s75, M75, z75, r75⟩ := sto (mm := no) (fun _ h => h.elim) s1 M1 hsz r1 X75
      refine ⟨k - 1, by omega, inb0, t + 1, _, _, out, o75, rfl, by omega, s75, M75, z75, r75, ?_, by omega⟩
      rw [← hout, hin]
      simp [putGo, he]
  · have : t = ml.length := by omega
    subst this
    rw [List.drop_length] at hout
    refine ⟨fun hin w95 q96 X95 hb hq hq' => ?_, fun hin w103 X103 => ?_⟩
    · obtain ⟨a', n', c', w37, o37, hrun, hn', hkp, s37, M37, z37, r37⟩ := psh m s1 M1 hsz r1 (by omega) X95 hb hq hq'
      refine ⟨a', n', c', w37, hrun, hkp _ (fun p h => by simp at h ⊢; omega), fun w101 X101 => ?_⟩
      obtain ⟨o39, s39, M39, z39, r39⟩ := sto (by simp [or_comm]) s37 M37 z37 r37 X101
      have : out ++ [m] = mputR ml m := by rw [← hout, hin]; rfl
      rw [this] at r39 hn'
      exact ⟨_, a', c', by rw [hn'], noStep (K := no) s39, r39.give s39 hs13, r39.le⟩
    · obtain ⟨o39, s39, M39, z39, r39⟩ := sto (by simp) s1 M1 hsz r1 X103
      have : out = mputR ml m := by rw [← hout, hin]; simp [putGo]
      rw [this] at r39 ⊢
      exact ⟨_, _, _, rfl, noStep (K := no) s39, r39.give s39 hs13, r39.le⟩
end
end Go.Proofs.Ytaifegpikhjiiaa

/- Members: the reference's Right, Apply, and Behind; the program's Behind. -/
set_option linter.unusedVariables false
set_option linter.unusedSimpArgs false
set_option maxRecDepth 20000
set_option maxHeartbeats 4000000
namespace Go.Proofs.Ytaifegpikhjiiaa
open Go Go.Mx Go.Proofs
open W (OwnB)
section
variable {w w' w1 : World} {o o' o1 : Own} {a b : Option Addr} {c d N : Nat} {s t : MS} {m : Mem} {cg : Chg} {ml : List Mem} {l : List Wr} {wa oa : Option Addr} {wc oc : Nat}
theorem boxesP_nil : boxesP [] = false := rfl
theorem rightM_1 (h : cg.kd = 1) : rightM cg = decide ((0 ≤ cg.who ∧ cg.who < 8) ∧ cg.pub ≠ 0 ∧ cg.lim = 0 ∧ cg.ws = [] ∧ cg.old = []) := by
  unfold rightM
  by_cases h1 : 0 ≤ cg.who ∧ cg.who < 8
  · rw [if_pos h1, show (cg.kd == 3) = false by rw [h]; rfl]
    by_cases h2 : cg.ws = [] ∧ cg.old = []
    · rw [h2.1, h2.2, if_pos boxesP_nil.symm, if_neg (by simp), if_pos h]
      simp [h1]
    · have : decide ((0 ≤ cg.who ∧ cg.who < 8) ∧ cg.pub ≠ 0 ∧ cg.lim = 0 ∧ cg.ws = [] ∧ cg.old = []) = false := decide_eq_false fun h => h2 ⟨h.2.2.2.1, h.2.2.2.2⟩
      rw [this]
      split
      · rw [if_pos ⟨by rw [h]; decide, h2⟩]
      · rfl
  · rw [if_neg h1, eq_comm, decide_eq_false_iff_not]; exact fun h => h1 h.1
theorem rightM_2 (h : cg.kd = 2) : rightM cg = decide ((0 ≤ cg.who ∧ cg.who < 8) ∧ cg.who ≠ 0 ∧ cg.pub = 0 ∧ 0 ≤ cg.lim ∧ cg.lim ≤ 200 ∧ cg.ws = [] ∧ cg.old = []) := by
  unfold rightM
  by_cases h1 : 0 ≤ cg.who ∧ cg.who < 8
  · rw [if_pos h1, show (cg.kd == 3) = false by rw [h]; rfl]
    by_cases h2 : cg.ws = [] ∧ cg.old = []
    · rw [h2.1, h2.2, if_pos boxesP_nil.symm, if_neg (by simp), if_neg (by rw [h]; decide), if_pos h]
      simp [h1]
    · have : decide ((0 ≤ cg.who ∧ cg.who < 8) ∧ cg.who ≠ 0 ∧ cg.pub = 0 ∧ 0 ≤ cg.lim ∧ cg.lim ≤ 200 ∧ cg.ws = [] ∧ cg.old = []) = false := decide_eq_false fun h => h2 ⟨h.2.2.2.2.2.1, h.2.2.2.2.2.2⟩
      rw [this]
      split
      · rw [if_pos ⟨by rw [h]; decide, h2⟩]
      · rfl
  · rw [if_neg h1, eq_comm, decide_eq_false_iff_not]; exact fun h => h1 h.1
theorem rightM_3 (h : cg.kd = 3) : rightM cg = (boxesP cg.ws && decide (cg.who = 0 ∧ cg.pub = 0 ∧ cg.lim = 0 ∧ (cg.old.length = 0 ∨ cg.old.length = 24))) := by
  unfold rightM
  by_cases h1 : 0 ≤ cg.who ∧ cg.who < 8
  · rw [if_pos h1, show (cg.kd == 3) = true by rw [h]; rfl]
    cases hb : boxesP cg.ws
    · rw [if_neg (by decide)]; rfl
    · rw [if_pos rfl, if_neg (fun h' => h'.1 h), if_neg (by rw [h]; decide), if_neg (by rw [h]; decide), if_pos h]; rfl
  · rw [if_neg h1]
    have : decide (cg.who = 0 ∧ cg.pub = 0 ∧ cg.lim = 0 ∧ (cg.old.length = 0 ∨ cg.old.length = 24)) = false := decide_eq_false fun h => h1 (by rw [h.1]; decide)
    rw [this, Bool.and_false]
theorem rightM_0 (h1 : cg.kd ≠ 1) (h2 : cg.kd ≠ 2) (h3 : cg.kd ≠ 3) : rightM cg = false := by
  unfold rightM
  split
  · split
    · split
      · rfl
      · simp only [if_neg h1, if_neg h2, if_neg h3]
    · rfl
  · rfl
theorem rRight_spec (hr : RowAt w wa (l.flatMap Wr.C)) (hl : l.map Wr.p = cg.ws) (hn : l.length < 1000000) (ho : cg.old.length < 1000000) :
    Calls Try.prog 43 #[chgV cg wa wc oa oc] w (Ret (.bool (rightM cg)) fun w' => Ext no w w') := by
  refine cachetteref12_Right.run cg.kd cg.who cg.pub cg.lim wa cg.ws.length wc oa cg.old.length oc ?_
  unfold cachetteref12_Right.N
  simp only [who_F]
  have hlen : cg.ws.length = l.length := by rw [← hl]; simp
  have hz : cg.ws = [] ↔ cg.ws.length = 0 := List.length_eq_zero_iff.symm
  have hz2 : cg.old = [] ↔ cg.old.length = 0 := List.length_eq_zero_iff.symm
  have key : ∀ {w1 : World} {b : Bool}, Ext no w w1 → b = rightM cg → Value.bool b = .bool (rightM cg) ∧ Ext no w w1 := fun X h => ⟨by rw [h], X⟩
  have f1 : cg.kd = 1 → ¬ ((0 ≤ cg.who ∧ cg.who < 8) ∧ cg.pub ≠ 0 ∧ cg.lim = 0 ∧ cg.ws = [] ∧ cg.old = []) → false = rightM cg := fun h h2 => by rw [rightM_1 h, decide_eq_false h2]
  have f2 : cg.kd = 2 → ¬ ((0 ≤ cg.who ∧ cg.who < 8) ∧ cg.who ≠ 0 ∧ cg.pub = 0 ∧ 0 ≤ cg.lim ∧ cg.lim ≤ 200 ∧ cg.ws = [] ∧ cg.old = []) → false = rightM cg := fun h h2 => by rw [rightM_2 h, decide_eq_false h2]
  have f3 : cg.kd = 3 → ¬ (cg.who = 0 ∧ cg.pub = 0 ∧ cg.lim = 0 ∧ (cg.old.length = 0 ∨ cg.old.length = 24)) → false = rightM cg := fun h h2 => by rw [rightM_3 h, decide_eq_false h2, Bool.and_false]
  have f4 : cg.kd = 3 → boxesP cg.ws = false → false = rightM cg := fun h h2 => by rw [rightM_3 h, h2, Bool.false_and]
  have f5 : cg.kd ≠ 1 → cg.kd ≠ 2 → cg.kd ≠ 3 → false = rightM cg := fun a b c => (rightM_0 a b c).symm
  refine ⟨fun ho0 => ⟨fun h3 w7 X => key X ?_, fun h3 => ⟨fun h24 w7 X => key X (f3 h3 (by omega)), fun h24 => ?_⟩⟩, fun ho0 => ?_⟩
  · by_cases h1 : cg.kd = 1
    · exact f1 h1 (by rw [hz2]; omega)
    · by_cases h2 : cg.kd = 2
      · exact f2 h2 (by rw [hz2]; omega)
      · exact f5 h1 h2 h3
  all_goals have hoo : cg.old.length = 0 ∨ cg.old.length = 24 := by omega
  all_goals refine ⟨fun h1 => ?_, fun h1 => ⟨fun h2 => ?_, fun h2 => ⟨fun h3 w7 X7 => ?_, fun h3 w7 X7 => key X7 (f5 h1 h2 h3)⟩⟩⟩
  all_goals try (exfalso; omega)
  rotate_left
  · refine ⟨fun hw => ⟨fun hp => ⟨fun hl1 w14 X => key X ?_, fun hl1 w14 X => key X (f1 h1 fun h => hl1 h.2.2.1)⟩, fun hp w14 X => key X (f1 h1 fun h => h.2.1 hp)⟩, fun hw w14 X => key X (f1 h1 fun h => of_decide_eq_false hw h.1)⟩
    rw [rightM_1 h1, Bool.eq_iff_iff, beq_iff_eq, decide_eq_true_iff]
    exact ⟨fun h => ⟨of_decide_eq_true hw, hp, hl1, hz.2 (by omega), hz2.2 (by omega)⟩, fun h => by rw [h.2.2.2.1]; rfl⟩
  · refine ⟨fun hw => ⟨fun hw0 => ⟨fun hp => ⟨fun hl0 => ⟨fun hl1 w14 X => key X ?_, fun hl1 w14 X => key X (f2 h2 fun h => by omega)⟩, fun hl0 w14 X => key X (f2 h2 fun h => by omega)⟩, fun hp w14 X => key X (f2 h2 fun h => hp h.2.2.1)⟩, fun hw0 w14 X => key X (f2 h2 fun h => h.2.1 hw0)⟩, fun hw w14 X => key X (f2 h2 fun h => of_decide_eq_false hw h.1)⟩
    rw [rightM_2 h2, Bool.eq_iff_iff, beq_iff_eq, decide_eq_true_iff]
    exact ⟨fun h => ⟨of_decide_eq_true hw, hw0, hp, hl0, hl1, hz.2 (by omega), hz2.2 (by omega)⟩, fun h => by rw [h.2.2.2.2.2.1]; rfl⟩
  all_goals
    refine ⟨fun m vs w1 => ∃ (t : Nat) (last : Int), vs = [.int .i64 t] ∧ m + t = l.length ∧ Ext no w w1 ∧ boxesGo (-1) cg.ws = boxesGo last (cg.ws.drop t) ∧ (t = 0 → last = -1) ∧ (∀ x, 0 < t → cg.ws[t - 1]? = some x → last = x.1), l.length, ⟨0, -1, rfl, rfl, X7, rfl, fun _ => rfl, fun x h => absurd h (by omega)⟩, ?_⟩
    rintro m w1 i ⟨t, last, hi, hm, X1, hbx, hz0, hzp⟩
    simp only [List.cons.injEq, Value.int.injEq, true_and, and_true] at hi
    subst hi
    refine ⟨fun ht => ?_, fun ht => ?_⟩
    · have htl : t < l.length := by omega
      have htw : t < cg.ws.length := by omega
      have hg : l[t]? = some l[t] := List.getElem?_eq_getElem htl
      have hgw : cg.ws[t]? = some l[t].p := by rw [← hl, List.getElem?_map, hg]; rfl
      have hgw' : cg.ws[t] = l[t].p := (List.getElem?_eq_some_iff.1 hgw).2
      rw [boxesGo_drop htw, hgw'] at hbx
      have hprev : ∀ (_ : 0 < t), ∃ y, l[t - 1]? = some y ∧ last = y.who := fun h0 => by
        have h1 : t - 1 < l.length := by omega
        exact ⟨l[t - 1], List.getElem?_eq_getElem h1, hzp (l[t - 1]).p h0 (by rw [← hl, List.getElem?_map, List.getElem?_eq_getElem h1]; rfl)⟩
      generalize l[t] = x at *
      have hr1 := hr.no X1
      obtain ⟨ad, rfl⟩ := hr.faddr Wr.len (by decide) htl
      refine ⟨ad, rfl, by omega, by omega, x.who, by rw [Int.toNat_natCast]; exact hr1.fcell Wr.len hg 0 rfl, fun hw w46 X46 => key (X1.trans X46) (f4 h3 ?_), fun hw => ⟨by omega, by omega, x.a, x.b.length, x.c, by rw [Int.toNat_natCast]; exact hr1.fcell Wr.len hg 1 rfl, fun hb w46 X46 => key (X1.trans X46) (f4 h3 ?_), fun hb => ⟨fun hi => ?_, fun hi => ⟨by omega, by omega, fun w46 X46 => ⟨m - 1, by omega, t + 1, x.who, rfl, by omega, X1.trans X46, ?_, fun h => by omega, fun y _ hy => ?_⟩⟩⟩⟩⟩
      · unfold boxesP; rw [hbx, show decide (0 ≤ x.p.1 ∧ x.p.1 < 8) = false from hw]; rfl
      · unfold boxesP; rw [hbx, show decide (x.p.2.length = 16) = false from decide_eq_false fun h => hb (by rw [show x.b.length = 16 from h]; rfl)]; simp
      · obtain ⟨y, hy, hyl⟩ := hprev (by omega)
        refine ⟨by omega, by omega, by omega, by omega, y.who, by rw [show ((t : Int) - 1).toNat = t - 1 by omega]; exact hr1.fcell Wr.len hy 0 rfl, by omega, by omega, x.who, by rw [Int.toNat_natCast]; exact hr1.fcell Wr.len hg 0 rfl, fun hge w46 X46 => key (X1.trans X46) (f4 h3 ?_), fun hlt => ⟨by omega, by omega, fun w46 X46 => ⟨m - 1, by omega, t + 1, x.who, rfl, by omega, X1.trans X46, ?_, fun h => by omega, fun y _ hy => ?_⟩⟩⟩
        · unfold boxesP; rw [hbx, show decide (last < x.p.1) = false from decide_eq_false fun h => by have : last < x.who := h; omega]; simp
        · rw [hbx, show decide (0 ≤ x.p.1 ∧ x.p.1 < 8) = true from hw, decide_eq_true (show last < x.p.1 by show last < x.who; omega), decide_eq_true (show x.p.2.length = 16 by show x.b.length = 16; omega)]; rfl
        · rw [Nat.add_sub_cancel, hgw] at hy; cases hy; rfl
      · have h0 := hz0 (by omega)
        have hw' : 0 ≤ x.who ∧ x.who < 8 := of_decide_eq_true hw
        rw [hbx, show decide (0 ≤ x.p.1 ∧ x.p.1 < 8) = true from hw, decide_eq_true (show last < x.p.1 by show last < x.who; omega), decide_eq_true (show x.p.2.length = 16 by show x.b.length = 16; omega)]; rfl
      · rw [Nat.add_sub_cancel, hgw] at hy; cases hy; rfl
    · have htt : cg.ws.drop t = [] := List.drop_eq_nil_of_le (by omega)
      rw [htt] at hbx
      have hbP : boxesP cg.ws = decide ((cg.ws.length : Int) > 0) := by
        unfold boxesP; rw [hbx]
        show (true && decide (cg.ws ≠ [])) = _
        rw [Bool.true_and, decide_eq_decide, Ne, hz]; omega
      refine ⟨fun hw => ⟨fun hp => ⟨fun hl1 => key X1 ?_, fun hl1 => key X1 (f3 h3 fun h => hl1 h.2.2.1)⟩, fun hp => key X1 (f3 h3 fun h => hp h.2.1)⟩, fun hw => key X1 (f3 h3 fun h => hw h.1)⟩
      rw [rightM_3 h3, ← hbP, decide_eq_true (show cg.who = 0 ∧ cg.pub = 0 ∧ cg.lim = 0 ∧ (cg.old.length = 0 ∨ cg.old.length = 24) from ⟨hw, hp, hl1, hoo⟩), Bool.and_true]
theorem findM_2 (ml : List Mem) (x : Int) : (findM ml x).2 = isAt ml x := by
  unfold findM; cases h : isAt ml x <;> simp [h]
theorem findM_at {x : Int} (h : isAt ml x = true) : ∃ m, ml[findI ml x]? = some m ∧ m.who = x ∧ findM ml x = (m, true) := by
  obtain ⟨m, hm, hw⟩ := isAt_some h
  exact ⟨m, hm, hw, by unfold findM; rw [if_pos h, hm]; rfl⟩
theorem rApply_spec (hr : Row w o a (s.ml.flatMap Mem.C)) (ok : Tags w o) (hs : s.ok) (hc : s.ml.length ≤ c) (hw : Row w o wa (l.flatMap Wr.C)) (hl : l.map Wr.p = cg.ws) (hn : l.length < 1000000) (ho : cg.old.length < 1000000) :
    Calls Try.prog 14 #[.agg #[.slice a s.ml.length c, .int .i64 s.ep], chgV cg wa wc oa oc] w (MsG w o (applyM s cg)) := by
  have hle := hs.le
  have h0 := hs.ep0
  have h1 := hs.ep1
  have hlen : cg.ws.length = l.length := by rw [← hl]; simp
  refine (cachetteref12_Apply.go a s.ml.length c s.ep cg.kd cg.who cg.pub cg.lim wa cg.ws.length wc oa cg.old.length oc (R := MsR w o (applyM s cg)) ?_).mono fun x w' ⟨v, he, h⟩ => h.of he
  unfold cachetteref12_Apply.N
  intro w11 p12 p13 p14 X11 hp
  obtain ⟨s11, M11⟩ := Step.priv X11 hp ok
  have g : ∀ p ∈ [p12, p13, p14], w.heap.size ≤ p := fun p h => (hp p h).1
  refine (rRight_spec (hw.step s11).1 hl hn ho).mono fun e w17 ⟨he, X17⟩ => ⟨_, he, X17.kept, fun hf w20 X20 => ?_, fun hf => ?_⟩
  all_goals have s17' := Step.of_no X17 s11.ok
  all_goals have s17 := s11.trans s17'
  all_goals have M17 := M11.step s17'
  · have s20 := Step.stores X20 s17'.ok (M17.sub (M := [p14]) (by simp)) (by simp)
    unfold applyM; rw [if_neg (by rw [hf]; decide)]
    exact MsR.zero (s17.trans' s20 fun i hi => .inr (g i (by simp at hi ⊢; omega))) 1
  refine (rFind_spec (hr.step s17) s17.ok hs.sorted (by omega) s.ep cg.who).mono fun e w28 ⟨he, o28, s28'⟩ => ⟨_, _, _, _, _, _, he, M17.keep s28' fun _ _ => id, ?_⟩
  have s28 := s17.trans s28'
  have M28 := M17.step s28'
  have hA : applyM s cg = if cg.kd = 1 then inviteM s cg else if cg.kd = 2 then revokeM s cg else beginM s cg := by unfold applyM; rw [if_pos hf]
  have zero : ∀ {w20 : World} (k : Int), applyM s cg = (MS.z, k) → Ext (fun b => b = p14) w28 w20 → MsR w o (applyM s cg) (.tuple #[.agg #[.slice none 0 0, .int .i64 0], .int .i64 k]) w20 := fun k hk X => by
    rw [hk]
    have s20 := Step.stores X s28.ok (M28.sub (M := [p14]) (by simp)) (by simp)
    exact MsR.zero (s28.trans' s20 fun i hi => .inr (g i (by simp at hi ⊢; omega))) k
  have put : ∀ {w34 : World} (m : Mem), applyM s cg = (⟨mputR s.ml m, s.ep⟩, 0) → Ext no w28 w34 →
      Calls Try.prog 45 #[.agg #[.slice a s.ml.length c, .int .i64 s.ep], m.V] w34 fun ee43 ww44 => ∃ (L41a : Option Addr) (L41n : Nat) (L41c : Nat) (Epoch42 : Int), ee43 = .returned (.agg #[.slice L41a L41n L41c, .int .i64 Epoch42]) ∧ Keep [p14] w34 ww44 ∧
        ∀ (ww46 : World), Ext (fun b => b = p14) ww44 ww46 → MsR w o (applyM s cg) (.tuple #[.agg #[.slice L41a L41n L41c, .int .i64 Epoch42], .int .i64 0]) ww46 := fun m hk X => by
    rw [hk]
    have s34' := Step.of_no X s28.ok
    have s34 := s28.trans s34'
    refine (mput_spec (hr.step s34) s34.ok (by omega) s.ep m).mono fun x w44 ⟨o44, a', c', he, s44, r44, hc'⟩ => ⟨_, _, _, _, he, ((M28.step s34').sub (M := [p14]) (by simp)).keep s44 fun _ _ => id, fun w46 X46 => ?_⟩
    have s46 := Step.stores X46 s44.ok ((((M28.step s34').step s44)).sub (M := [p14]) (by simp)) (by simp)
    exact ⟨_, a', c', rfl, (s34.trans s44).trans' s46 fun i hi => .inr (g i (by simp at hi ⊢; omega)), r44.step s46, hc'⟩
  have hF2 := findM_2 s.ml cg.who
  refine ⟨fun hk => ?_, fun hk1 => ⟨fun hk => ?_, fun hk2 => ?_⟩⟩
  · rw [if_pos hk] at hA
    refine ⟨fun hi w38 X => zero 13 ?_ X, fun hi => ⟨by omega, by omega, fun w34 X => put ⟨cg.who, cg.pub, s.ep + 1, -1, 0⟩ ?_ X⟩⟩
    · rw [hA]; unfold inviteM; rw [if_pos (by rw [← hF2]; exact hi)]
    · rw [hF2] at hi
      rw [hA]; unfold inviteM; rw [if_neg (by rw [hi]; decide), putR_new hs.sorted hi]
  · rw [if_neg (by omega), if_pos hk] at hA
    refine ⟨fun hi w38 X => zero 20 ?_ X, fun hi => ?_⟩
    · rw [hA]; unfold revokeM; rw [if_neg (by rw [← hF2, hi]; decide)]
    · rw [hF2] at hi
      obtain ⟨m, hm, hmw, hF⟩ := findM_at hi
      rw [hF]
      have hR : revokeM s cg = if m.to_ = -1 then (⟨s.ml.set (findI s.ml cg.who) { m with to_ := if s.ep < 0 then -2 else s.ep, lim := cg.lim }, s.ep⟩, 0) else (MS.z, 10) := by unfold revokeM; rw [if_pos hi, hm]
      refine ⟨fun hto w38 X => zero 10 ?_ X, fun hto => ⟨fun he w59 X => put ⟨m.who, m.pub, m.fr, -2, cg.lim⟩ ?_ X, fun he w59 X => put ⟨m.who, m.pub, m.fr, s.ep, cg.lim⟩ ?_ X⟩⟩
      · rw [hA, hR, if_neg hto]
      · rw [hA, hR, if_pos hto, if_pos he, putR_old (m := ⟨m.who, m.pub, m.fr, -2, cg.lim⟩) hs.sorted (x := m) (by show s.ml[findI s.ml m.who]? = _; rw [hmw]; exact hm) rfl]
        show _ = (MS.mk (s.ml.set (findI s.ml m.who) _) _, _)
        rw [hmw]
      · rw [hA, hR, if_pos hto, if_neg (by omega), putR_old (m := ⟨m.who, m.pub, m.fr, s.ep, cg.lim⟩) hs.sorted (x := m) (by show s.ml[findI s.ml m.who]? = _; rw [hmw]; exact hm) rfl]
        show _ = (MS.mk (s.ml.set (findI s.ml m.who) _) _, _)
        rw [hmw]
  · rw [if_neg hk1, if_neg hk2] at hA
    refine ⟨fun he w38 X => zero 2 ?_ X, fun he w34 X34 => ?_⟩
    · rw [hA]; unfold beginM; rw [if_pos (by omega)]
    have hB : applyM s cg = if ((cg.old.length : Int) == 0) = decide (s.ep < 0) then (if (nowM s.ml).map Mem.who = cg.ws.map Prod.fst then (⟨s.ml, s.ep + 1⟩, 0) else (MS.z, 10)) else (MS.z, 10) := by rw [hA]; unfold beginM; rw [if_neg (by omega)]
    have s34' := Step.of_no X34 s28.ok
    have s34 := s28.trans s34'
    have M34 := M28.step s34'
    refine (rNow_spec (hr.step s34) s34.ok (by omega) s.ep).mono fun x w82 ⟨o82, na, nc, hx, s82', r82, _⟩ => ⟨_, _, _, hx, M34.keep s82' fun _ _ => id, ?_⟩
    have s82 := s34.trans s82'
    have M82 := M34.step s82'
    have ten : ∀ {w1 w20 : World} {o1 : Own}, applyM s cg = (MS.z, 10) → Step no w o w1 o1 → Mine [p12, p13, p14] w1 o1 → Ext (fun b => b = p14) w1 w20 → MsR w o (applyM s cg) (.tuple #[.agg #[.slice none 0 0, .int .i64 0], .int .i64 10]) w20 := fun hk s1 M1 X => by
      rw [hk]
      have s20 := Step.stores X s1.ok (M1.sub (M := [p14]) (by simp)) (by simp)
      exact MsR.zero (s1.trans' s20 fun i hi => .inr (g i (by simp at hi ⊢; omega))) 10
    have hnl : (nowM s.ml).length ≤ s.ml.length := List.length_filter_le _ _
    refine ⟨fun hne w85 X85 => ten ?_ s82 M82 X85, fun heq => ⟨fun hne w85 X85 => ten ?_ s82 M82 X85, fun heo => ?_⟩⟩
    · rw [hB, if_neg (c := (nowM s.ml).map Mem.who = cg.ws.map Prod.fst) (fun h => hne (by have := congrArg List.length h; simp at this; omega)), ite_self]
    · rw [hB, if_neg]
      intro h
      apply hne
      rw [h, Bool.eq_iff_iff, decide_eq_true_iff, beq_iff_eq]; omega
    have hB2 : applyM s cg = if (nowM s.ml).map Mem.who = cg.ws.map Prod.fst then (⟨s.ml, s.ep + 1⟩, 0) else (MS.z, 10) := by
      rw [hB, if_pos]
      rw [heo, Bool.eq_iff_iff, decide_eq_true_iff, beq_iff_eq]; omega
    refine ⟨fun m vs w1 => ∃ (t : Nat) (o1 : Own), vs = [.int .i64 t, .slice none 0 0, .int .i64 0] ∧ m + t = (nowM s.ml).length ∧ Step no w82 o82 w1 o1 ∧ ((nowM s.ml).map Mem.who).take t = (cg.ws.map Prod.fst).take t, (nowM s.ml).length, ⟨0, o82, rfl, rfl, Step.refl _ s82.ok, rfl⟩, ?_⟩
    rintro m w94 i0 xa xn xc xe ⟨t, o94, hi, hm, s94, htk⟩
    simp only [List.cons.injEq, Value.slice.injEq, Value.int.injEq, true_and, and_true] at hi
    obtain ⟨rfl, ⟨rfl, rfl, rfl⟩, rfl⟩ := hi
    refine ⟨fun ht => ?_, fun ht => ⟨by omega, by omega, fun w108 X108 => ?_⟩⟩
    · have htl : t < (nowM s.ml).length := by omega
      have htw : t < l.length := by omega
      have hg : (nowM s.ml)[t]? = some (nowM s.ml)[t] := List.getElem?_eq_getElem htl
      have hgw : l[t]? = some l[t] := List.getElem?_eq_getElem htw
      have e1 : ((nowM s.ml).map Mem.who)[t]? = some (nowM s.ml)[t].who := by rw [List.getElem?_map, hg]; rfl
      have e2 : (cg.ws.map Prod.fst)[t]? = some l[t].who := by rw [← hl, List.getElem?_map, List.getElem?_map, hgw]; rfl
      generalize (nowM s.ml)[t] = x at *
      generalize l[t] = y at *
      obtain ⟨ad, rfl⟩ := r82.1.faddr Mem.len (by decide) htl
      obtain ⟨bd, rfl⟩ := hw.1.faddr Wr.len (by decide) htw
      refine ⟨ad, rfl, by omega, by omega, x.who, by rw [Int.toNat_natCast]; exact (r82.step s94).1.fcell Mem.len hg 0 rfl, bd, rfl, by omega, by omega, y.who, by rw [Int.toNat_natCast]; exact ((hw.step s82).step s94).1.fcell Wr.len hgw 0 rfl, fun hne w105 X105 => ten ?_ (s82.trans s94) (M82.step s94) X105, fun heq => ⟨by omega, by omega, fun w96 X96 => ⟨m - 1, by omega, t + 1, _, rfl, by omega, s94.trans (Step.of_no X96 s94.ok), ?_⟩⟩⟩
      · rw [hB2, if_neg]
        intro h
        rw [h, e2] at e1
        exact hne (Option.some.inj e1).symm
      · rw [List.take_add_one, List.take_add_one, htk, e1, e2, heq]
    · have hall : (nowM s.ml).map Mem.who = cg.ws.map Prod.fst := by
        rwa [List.take_of_length_le (by simp; omega), List.take_of_length_le (by simp; omega)] at htk
      rw [hB2, if_pos hall]
      have s94w := s82.trans s94
      have s108 := Step.stores X108 s94.ok ((M82.step s94).sub (M := [p14]) (by simp)) (by simp)
      have sF := s94w.trans' s108 fun i hi => .inr (g i (by simp at hi ⊢; omega))
      exact ⟨_, a, c, rfl, sF, hr.step sF, hc⟩
end
end Go.Proofs.Ytaifegpikhjiiaa

/- What the functions of the oracle come to, printed by a program of ours (mgen.py) and checked by the kernel. -/
set_option linter.unusedVariables false
set_option maxRecDepth 20000
namespace Go.Proofs.Ytaifegpikhjiiaa
open Go Go.Mx Go.Proofs
def clone64.M (a0 : Option Addr) (a5 : Nat) (a6 : Nat) (R : Value → World → Prop) (w : World) : Prop :=
 bif Option.isNone a0 then (
 R (.slice none 0 0) w) else (
 thenW (w.alloc (.cells #[] 27)) fun a7 =>
 ∃ (a4 : Option Addr) (a3 : Nat) (a2 : Nat) (a1 : World), (Builtin.append_ #[22, 22] 22 #[.slice (some (blk w.heap.size)) 0 0, .slice a0 a5 a6]).run Try.prog a7 = .ok (.slice a4 a3 a2) a1 ∧
 R (.slice a4 a3 a2) a1)

theorem clone64.eq (s1a : Option Addr) (s1n : Nat) (s1c : Nat) (R : Value → World → Prop) (w : World) : mfunc Try.prog [] 48 [.slice s1a s1n s1c] R w = clone64.M s1a s1n s1c R w := by kernel_rfl
theorem clone64.ok (a0 : Option Addr) (a2 : Nat) (a1 : Nat) {R : Value → World → Prop} {w : World} (h : clone64.M a0 a2 a1 R w) : Calls Try.prog 48 #[.slice a0 a2 a1] w fun e w' => ∃ v, e = .returned v ∧ R v w' :=
  mfunc_ok follows (H := []) (args := [.slice a0 a2 a1]) (by rw [clone64.eq]; exact h)

def cloneB.M (a0 : Option Addr) (a5 : Nat) (a6 : Nat) (R : Value → World → Prop) (w : World) : Prop :=
 bif Option.isNone a0 then (
 R (.slice none 0 0) w) else (
 thenW (w.alloc (.cells #[] 5)) fun a7 =>
 ∃ (a4 : Option Addr) (a3 : Nat) (a2 : Nat) (a1 : World), (Builtin.append_ #[29, 29] 29 #[.slice (some (blk w.heap.size)) 0 0, .slice a0 a5 a6]).run Try.prog a7 = .ok (.slice a4 a3 a2) a1 ∧
 R (.slice a4 a3 a2) a1)

theorem cloneB.eq (s1a : Option Addr) (s1n : Nat) (s1c : Nat) (R : Value → World → Prop) (w : World) : mfunc Try.prog [] 40 [.slice s1a s1n s1c] R w = cloneB.M s1a s1n s1c R w := by kernel_rfl
theorem cloneB.ok (a0 : Option Addr) (a2 : Nat) (a1 : Nat) {R : Value → World → Prop} {w : World} (h : cloneB.M a0 a2 a1 R w) : Calls Try.prog 40 #[.slice a0 a2 a1] w fun e w' => ∃ v, e = .returned v ∧ R v w' :=
  mfunc_ok follows (H := []) (args := [.slice a0 a2 a1]) (by rw [cloneB.eq]; exact h)

def oNew.M (a5 : Option Addr) (a3 : Nat) (a4 : Nat) (R : Value → World → Prop) (w : World) : Prop :=
 Calls Try.prog 48 #[.slice a5 a3 a4] w fun ah ac => ∃ (a1 : Option Addr) (a0 : Nat) (a2 : Nat), ah = .returned (.slice a1 a0 a2) ∧
 thenW (ac.alloc (.map #[] 0)) fun ab =>
 thenW (ab.alloc (.map #[] 0)) fun af =>
 thenW (af.alloc (.map #[] 0)) fun ae =>
 thenW (ae.alloc (.map #[] 0)) fun ad =>
 thenW (ad.alloc (.map #[] 0)) fun ag =>
 thenW (ag.alloc (.map #[] 0)) fun a6 =>
 thenW (a6.alloc (.map #[] 0)) fun a8 =>
 thenW (a8.alloc (.map #[] 0)) fun a9 =>
 thenW (a9.alloc (.map #[] 0)) fun a7 =>
 thenW (a7.alloc (.cells #[.slice a1 a0 a2, .map (some ac.heap.size), .int .u64 1, .map (some ab.heap.size), .map (some af.heap.size), .map (some ae.heap.size), .map (some ad.heap.size), .map (some ag.heap.size), .map (some a6.heap.size), .map (some a8.heap.size), .map (some a9.heap.size)] 117)) fun aa =>
 R (.pointer (some (blk a7.heap.size))) aa

theorem oNew.eq (draws1a : Option Addr) (draws1n : Nat) (draws1c : Nat) (R : Value → World → Prop) (w : World) : mfunc Try.prog [] 17 [.slice draws1a draws1n draws1c] R w = oNew.M draws1a draws1n draws1c R w := by kernel_rfl
theorem oNew.ok (a0 : Option Addr) (a1 : Nat) (a2 : Nat) {R : Value → World → Prop} {w : World} (h : oNew.M a0 a1 a2 R w) : Calls Try.prog 17 #[.slice a0 a1 a2] w fun e w' => ∃ v, e = .returned v ∧ R v w' :=
  mfunc_ok follows (H := []) (args := [.slice a0 a1 a2]) (by rw [oNew.eq]; exact h)

def oTake.M (o1 : Option Addr) (h2 : Int) (R : Value → World → Prop) (w : World) : Prop :=
 bif h2 == 0 then (
 R (.bool false) w) else (
 o1.elim False fun a3 =>
 ∃ (a1 : Option Nat), w.cell? (a3.add 1) = some (.map a1) ∧
 ∃ (v5 : Bool), (Instr.lookup 109 (.map a1) (.int .u64 h2) false).run Try.prog w = .ok (.bool v5) w ∧
 bif v5 then (
 R (.bool false) w) else (
 o1.elim False fun a6 =>
 ∃ (a0 : Option Nat), w.cell? (a6.add 1) = some (.map a0) ∧
 ∃ a2 : World, (Instr.mapUpdate 109 (.map a0) (.int .u64 h2) (.bool true)).run Try.prog w = .ok () a2 ∧
 R (.bool true) a2))

theorem oTake.eq (o1 : Option Addr) (h2 : Int) (R : Value → World → Prop) (w : World) : mfunc Try.prog [] 76 [.pointer o1, .int .u64 h2] R w = oTake.M o1 h2 R w := by kernel_rfl
theorem oTake.ok (o1 : Option Addr) (h2 : Int) {R : Value → World → Prop} {w : World} (h : oTake.M o1 h2 R w) : Calls Try.prog 76 #[.pointer o1, .int .u64 h2] w fun e w' => ∃ v, e = .returned v ∧ R v w' :=
  mfunc_ok follows (H := []) (args := [.pointer o1, .int .u64 h2]) (by rw [oTake.eq]; exact h)

def oFresh.M (o1 : Option Addr) (R : Value → World → Prop) (w : World) : Prop :=
 ∃ (I0 : Nat → List Value → World → Prop) (m2 : Nat), I0 m2 [] w ∧ ∀ (m3 : Nat) (ai : World), I0 m3 [] ai →
 o1.elim False fun a5 =>
 ∃ (af : Option Addr) (a3 : Nat) (ah : Nat), ai.cell? (a5.add 0) = some (.slice af a3 ah) ∧
 bif decide ((a3 : Int) > 0) then (
 o1.elim False fun a7 =>
 ∃ (a4 : Option Addr) (a6 : Nat) (ag : Nat), ai.cell? (a7.add 0) = some (.slice a4 a6 ag) ∧
 a4.elim False fun a9 =>
 0 ≤ (0 : Int) ∧ (0 : Int) < (a6 : Int) ∧
 ∃ (ap : Int), ai.cell? (a9.add (Int.toNat 0 * 1)) = some (.int .u64 ap) ∧
 o1.elim False fun az =>
 ∃ (a2 : Option Addr) (a1 : Nat) (a0 : Nat), ai.cell? (az.add 0) = some (.slice a2 a1 a0) ∧
 (0 : Int) ≤ (1 : Int) ∧ (1 : Int) ≤ (a1 : Int) ∧
 o1.elim False fun aq =>
 canStore ai ((aq.add 0).add 0) ∧
 thenW (ai.setCell ((aq.add 0).add 0) (.slice (if a0 = Int.toNat 1 then a2 else Option.map (fun z : Addr => z.add ((Int.toNat 1) * 1)) a2) (a1 - (Int.toNat 1)) (a0 - (Int.toNat 1)))) fun ao =>
 Calls Try.prog 76 #[.pointer o1, .int .u64 ap] ao fun an ak => ∃ (ac : Bool), an = .returned (.bool ac) ∧
 bif ac then (
 R (.int .u64 ap) ak) else (
 ∃ ar, ar < m3 ∧ I0 ar [] ak)) else (
 ∃ (I2 : Nat → List Value → World → Prop) (b1 : Nat), I2 b1 [] ai ∧ ∀ (aw : Nat) (aj : World), I2 aw [] aj →
 o1.elim False fun ay =>
 ∃ (aa : Int), aj.cell? (ay.add 2) = some (.int .u64 aa) ∧
 Calls Try.prog 76 #[.pointer o1, .int .u64 aa] aj fun am ad => ∃ (a8 : Bool), am = .returned (.bool a8) ∧
 bif !a8 then (
 o1.elim False fun ax =>
 ∃ (ab : Int), ad.cell? (ax.add 2) = some (.int .u64 ab) ∧
 o1.elim False fun au =>
 canStore ad ((au.add 2).add 0) ∧
 thenW (ad.setCell ((au.add 2).add 0) (.int .u64 (IntKind.u64.wrap (ab + 1)))) fun al =>
 ∃ av, av < aw ∧ I2 av [] al) else (
 o1.elim False fun b0 =>
 ∃ (ae : Int), ad.cell? (b0.add 2) = some (.int .u64 ae) ∧
 R (.int .u64 ae) ad))

theorem oFresh.eq (o1 : Option Addr) (R : Value → World → Prop) (w : World) : mfunc Try.prog [(0, [0, 3], []), (2, [0, 3], [])] 49 [.pointer o1] R w = oFresh.M o1 R w := by kernel_rfl
theorem oFresh.ok (o1 : Option Addr) {R : Value → World → Prop} {w : World} (h : oFresh.M o1 R w) : Calls Try.prog 49 #[.pointer o1] w fun e w' => ∃ v, e = .returned v ∧ R v w' :=
  mfunc_ok follows (H := [(0, [0, 3], []), (2, [0, 3], [])]) (args := [.pointer o1]) (by rw [oFresh.eq]; exact h)

def oKey.M (o1 : Option Addr) (R : Value → World → Prop) (w : World) : Prop :=
 bif Option.isNone o1 then (
 R (.int .u64 0) w) else (
 Calls Try.prog 49 #[.pointer o1] w fun a4 a2 => ∃ (a0 : Int), a4 = .returned (.int .u64 a0) ∧
 o1.elim False fun a5 =>
 ∃ (a1 : Option Nat), a2.cell? (a5.add 4) = some (.map a1) ∧
 ∃ a3 : World, (Instr.mapUpdate 109 (.map a1) (.int .u64 a0) (.bool true)).run Try.prog a2 = .ok () a3 ∧
 R (.int .u64 a0) a3)

theorem oKey.eq (o1 : Option Addr) (R : Value → World → Prop) (w : World) : mfunc Try.prog [] 28 [.pointer o1] R w = oKey.M o1 R w := by kernel_rfl
theorem oKey.ok (o1 : Option Addr) {R : Value → World → Prop} {w : World} (h : oKey.M o1 R w) : Calls Try.prog 28 #[.pointer o1] w fun e w' => ∃ v, e = .returned v ∧ R v w' :=
  mfunc_ok follows (H := []) (args := [.pointer o1]) (by rw [oKey.eq]; exact h)

def oPair.M (o1 : Option Addr) (R : Value → World → Prop) (w : World) : Prop :=
 bif Option.isNone o1 then (
 R (.tuple #[.int .u64 0, .int .u64 0]) w) else (
 Calls Try.prog 49 #[.pointer o1] w fun a9 a7 => ∃ (a1 : Int), a9 = .returned (.int .u64 a1) ∧
 o1.elim False fun a5 =>
 ∃ (a2 : Option Nat), a7.cell? (a5.add 5) = some (.map a2) ∧
 ∃ a8 : World, (Instr.mapUpdate 109 (.map a2) (.int .u64 a1) (.bool true)).run Try.prog a7 = .ok () a8 ∧
 Calls Try.prog 49 #[.pointer o1] a8 fun ab a4 => ∃ (a3 : Int), ab = .returned (.int .u64 a3) ∧
 o1.elim False fun aa =>
 ∃ (a0 : Option Nat), a4.cell? (aa.add 6) = some (.map a0) ∧
 ∃ a6 : World, (Instr.mapUpdate 111 (.map a0) (.int .u64 a3) (.int .u64 a1)).run Try.prog a4 = .ok () a6 ∧
 R (.tuple #[.int .u64 a1, .int .u64 a3]) a6)

theorem oPair.eq (o1 : Option Addr) (R : Value → World → Prop) (w : World) : mfunc Try.prog [] 18 [.pointer o1] R w = oPair.M o1 R w := by kernel_rfl
theorem oPair.ok (o1 : Option Addr) {R : Value → World → Prop} {w : World} (h : oPair.M o1 R w) : Calls Try.prog 18 #[.pointer o1] w fun e w' => ∃ v, e = .returned v ∧ R v w' :=
  mfunc_ok follows (H := []) (args := [.pointer o1]) (by rw [oPair.eq]; exact h)

def oSeal.M (o1 : Option Addr) (am : Int) (ag : Option Addr) (ah : Nat) (ai : Nat) (af : Option Addr) (aa : Nat) (aj : Nat) (R : Value → World → Prop) (w : World) : Prop :=
 Calls Try.prog 60 #[.int .i64 (aa : Int)] w fun b3 al => ∃ (a2 : Int), b3 = .returned (.int .i64 a2) ∧
 bif Option.isNone o1 then (
 R (.tuple #[.slice none 0 0, .int .i64 23]) al) else (
 o1.elim False fun a8 =>
 ∃ (ak : Option Nat), al.cell? (a8.add 4) = some (.map ak) ∧
 ∃ (b2 : Bool), (Instr.lookup 109 (.map ak) (.int .u64 am) false).run Try.prog al = .ok (.bool b2) al ∧
 bif !b2 then (
 R (.tuple #[.slice none 0 0, .int .i64 11]) al) else (
 bif decide (a2 < 0) then (
 R (.tuple #[.slice none 0 0, .int .i64 3]) al) else (
 Calls Try.prog 49 #[.pointer o1] al fun b0 az => ∃ (a1 : Int), b0 = .returned (.int .u64 a1) ∧
 thenW (az.drew) fun ao =>
 o1.elim False fun b1 =>
 ∃ (a0 : Option Nat), ao.cell? (b1.add 9) = some (.map a0) ∧
 Calls Try.prog 40 #[.slice ag ah ai] ao fun ar an => ∃ (a7 : Option Addr) (a6 : Nat) (a3 : Nat), ar = .returned (.slice a7 a6 a3) ∧
 an.cell? (b1.add 9) = some (.map a0) ∧
 Calls Try.prog 40 #[.slice af aa aj] an fun aw aq => ∃ (a9 : Option Addr) (a5 : Nat) (a4 : Nat), aw = .returned (.slice a9 a5 a4) ∧
 aq.cell? (b1.add 9) = some (.map a0) ∧
 ∃ ap : World, (Instr.mapUpdate 114 (.map a0) (.int .u64 a1) (.agg #[.int .u64 am, .slice a7 a6 a3, .slice a9 a5 a4])).run Try.prog aq = .ok () ap ∧
 Calls Try.prog 61 #[.int .i64 a2] ap fun av ax => ∃ (ae : Int), av = .returned (.int .i64 ae) ∧
 Calls Try.prog 59 #[.int .u64 a1, .int .i64 ae] ax fun ay au => ∃ (ad : Option Addr) (ab : Nat) (ac : Nat), ay = .returned (.slice ad ab ac) ∧
 R (.tuple #[.slice ad ab ac, .int .i64 0]) au)))

theorem oSeal.eq (o1 : Option Addr) (key2 : Int) (bound3a : Option Addr) (bound3n : Nat) (bound3c : Nat) (plain4a : Option Addr) (plain4n : Nat) (plain4c : Nat) (R : Value → World → Prop) (w : World) : mfunc Try.prog [] 31 [.pointer o1, .int .u64 key2, .slice bound3a bound3n bound3c, .slice plain4a plain4n plain4c] R w = oSeal.M o1 key2 bound3a bound3n bound3c plain4a plain4n plain4c R w := by kernel_rfl
theorem oSeal.ok (o1 : Option Addr) (a6 : Int) (a5 : Option Addr) (a2 : Nat) (a0 : Nat) (a4 : Option Addr) (a1 : Nat) (a3 : Nat) {R : Value → World → Prop} {w : World} (h : oSeal.M o1 a6 a5 a2 a0 a4 a1 a3 R w) : Calls Try.prog 31 #[.pointer o1, .int .u64 a6, .slice a5 a2 a0, .slice a4 a1 a3] w fun e w' => ∃ v, e = .returned v ∧ R v w' :=
  mfunc_ok follows (H := []) (args := [.pointer o1, .int .u64 a6, .slice a5 a2 a0, .slice a4 a1 a3]) (by rw [oSeal.eq]; exact h)

def oOpen.M (o1 : Option Addr) (bx : Int) (b7 : Option Addr) (b9 : Nat) (b8 : Nat) (cf : Option Addr) (c0 : Nat) (ch : Nat) (R : Value → World → Prop) (w : World) : Prop :=
 bif Option.isNone o1 then (
 R (.tuple #[.slice none 0 0, .int .i64 23]) w) else (
 thenW (w.drew) fun ba =>
 o1.elim False fun a6 =>
 ∃ (a0 : Option Nat), ba.cell? (a6.add 9) = some (.map a0) ∧
 (Calls Try.prog 42 #[.slice cf c0 ch] ba fun ci a1 => ∃ (a9 : Int), ci = .returned (.int .u64 a9) ∧
 a1.cell? (a6.add 9) = some (.map a0) ∧
 ∃ (bg : Int) (a5 : Option Addr) (a7 : Nat) (a4 : Nat) (a8 : Option Addr) (a2 : Nat) (a3 : Nat) (c4 : Bool), (Instr.lookup 114 (.map a0) (.int .u64 a9) true).run Try.prog a1 = .ok (.tuple #[.agg #[.int .u64 bg, .slice a5 a7 a4, .slice a8 a2 a3], .bool c4]) a1 ∧
 thenW (a1.alloc (.cells #[.int .u64 0, .slice none 0 0, .slice none 0 0] 137)) fun bk =>
 (Instr.lookup 114 (.map a0) (.int .u64 a9) true).run Try.prog bk = .ok (.tuple #[.agg #[.int .u64 bg, .slice a5 a7 a4, .slice a8 a2 a3], .bool c4]) bk ∧
 bk.cell? (a6.add 9) = some (.map a0) ∧
 canStore bk ((blk a1.heap.size).add 0) ∧
 thenW (bk.setCell ((blk a1.heap.size).add 0) (.int .u64 bg)) fun bv =>
 canStore bv ((blk a1.heap.size).add 1) ∧
 thenW (bv.setCell ((blk a1.heap.size).add 1) (.slice a5 a7 a4)) fun bz =>
 canStore bz ((blk a1.heap.size).add 2) ∧
 thenW (bz.setCell ((blk a1.heap.size).add 2) (.slice a8 a2 a3)) fun bp =>
 bif !c4 then (
 R (.tuple #[.slice none 0 0, .int .i64 4]) bp) else (
 ∃ (bc : Option Addr) (ac : Nat) (bj : Nat), bp.cell? ((blk a1.heap.size).add 2) = some (.slice bc ac bj) ∧
 Calls Try.prog 60 #[.int .i64 (ac : Int)] bp fun c6 cb => ∃ (au : Int), c6 = .returned (.int .i64 au) ∧
 Calls Try.prog 61 #[.int .i64 au] cb fun c8 bl => ∃ (bi : Int), c8 = .returned (.int .i64 bi) ∧
 bif (c0 : Int) != (IntKind.i64.wrap ((8 : Int) + bi)) then (
 R (.tuple #[.slice none 0 0, .int .i64 4]) bl) else (
 ∃ (bo : Int), bl.cell? ((blk a1.heap.size).add 0) = some (.int .u64 bo) ∧
 bif bo != bx then (
 R (.tuple #[.slice none 0 0, .int .i64 11]) bl) else (
 ∃ (ap : Option Addr) (ag : Nat) (ak : Nat), bl.cell? ((blk a1.heap.size).add 1) = some (.slice ap ag ak) ∧
 Calls Try.prog 87 #[.slice ap ag ak, .slice b7 b9 b8] bl fun ca bq => ∃ (b6 : Bool), ca = .returned (.bool b6) ∧
 bif !b6 then (
 R (.tuple #[.slice none 0 0, .int .i64 5]) bq) else (
 ∃ (aj : Option Addr) (b4 : Nat) (aa : Nat), bq.cell? ((blk a1.heap.size).add 2) = some (.slice aj b4 aa) ∧
 Calls Try.prog 40 #[.slice aj b4 aa] bq fun ce cc => ∃ (ao : Option Addr) (an : Nat) (b1 : Nat), ce = .returned (.slice ao an b1) ∧
 R (.tuple #[.slice ao an b1, .int .i64 0]) cc))))) ∧
 (thenW (ba.alloc (.cells #[.int .u64 0, .slice none 0 0, .slice none 0 0] 137)) fun bw =>
 bw.cell? (a6.add 9) = some (.map a0) ∧
 Calls Try.prog 42 #[.slice cf c0 ch] bw fun cd bd => ∃ (av : Int), cd = .returned (.int .u64 av) ∧
 bd.cell? (a6.add 9) = some (.map a0) ∧
 ∃ (bn : Int) (am : Option Addr) (ay : Nat) (aq : Nat) (b2 : Option Addr) (az : Nat) (aw : Nat) (cg : Bool), (Instr.lookup 114 (.map a0) (.int .u64 av) true).run Try.prog bd = .ok (.tuple #[.agg #[.int .u64 bn, .slice am ay aq, .slice b2 az aw], .bool cg]) bd ∧
 canStore bd ((blk ba.heap.size).add 0) ∧
 thenW (bd.setCell ((blk ba.heap.size).add 0) (.int .u64 bn)) fun bt =>
 canStore bt ((blk ba.heap.size).add 1) ∧
 thenW (bt.setCell ((blk ba.heap.size).add 1) (.slice am ay aq)) fun bu =>
 canStore bu ((blk ba.heap.size).add 2) ∧
 thenW (bu.setCell ((blk ba.heap.size).add 2) (.slice b2 az aw)) fun bs =>
 bif !cg then (
 R (.tuple #[.slice none 0 0, .int .i64 4]) bs) else (
 ∃ (bb : Option Addr) (af : Nat) (be : Nat), bs.cell? ((blk ba.heap.size).add 2) = some (.slice bb af be) ∧
 Calls Try.prog 60 #[.int .i64 (af : Int)] bs fun c5 c2 => ∃ (b3 : Int), c5 = .returned (.int .i64 b3) ∧
 Calls Try.prog 61 #[.int .i64 b3] c2 fun c9 bf => ∃ (bh : Int), c9 = .returned (.int .i64 bh) ∧
 bif (c0 : Int) != (IntKind.i64.wrap ((8 : Int) + bh)) then (
 R (.tuple #[.slice none 0 0, .int .i64 4]) bf) else (
 ∃ (bm : Int), bf.cell? ((blk ba.heap.size).add 0) = some (.int .u64 bm) ∧
 bif bm != bx then (
 R (.tuple #[.slice none 0 0, .int .i64 11]) bf) else (
 ∃ (ah : Option Addr) (al : Nat) (ad : Nat), bf.cell? ((blk ba.heap.size).add 1) = some (.slice ah al ad) ∧
 Calls Try.prog 87 #[.slice ah al ad, .slice b7 b9 b8] bf fun c7 br => ∃ (b5 : Bool), c7 = .returned (.bool b5) ∧
 bif !b5 then (
 R (.tuple #[.slice none 0 0, .int .i64 5]) br) else (
 ∃ (ar : Option Addr) (ax : Nat) (b0 : Nat), br.cell? ((blk ba.heap.size).add 2) = some (.slice ar ax b0) ∧
 Calls Try.prog 40 #[.slice ar ax b0] br fun c3 c1 => ∃ (ae : Option Addr) (ai : Nat) (ab : Nat), c3 = .returned (.slice ae ai ab) ∧
 R (.tuple #[.slice ae ai ab, .int .i64 0]) c1))))))

theorem oOpen.eq (o1 : Option Addr) (key2 : Int) (bound3a : Option Addr) (bound3n : Nat) (bound3c : Nat) (b4a : Option Addr) (b4n : Nat) (b4c : Nat) (R : Value → World → Prop) (w : World) : mfunc Try.prog [] 69 [.pointer o1, .int .u64 key2, .slice bound3a bound3n bound3c, .slice b4a b4n b4c] R w = oOpen.M o1 key2 bound3a bound3n bound3c b4a b4n b4c R w := by kernel_rfl
theorem oOpen.ok (o1 : Option Addr) (a3 : Int) (a2 : Option Addr) (a1 : Nat) (a0 : Nat) (a4 : Option Addr) (a6 : Nat) (a5 : Nat) {R : Value → World → Prop} {w : World} (h : oOpen.M o1 a3 a2 a1 a0 a4 a6 a5 R w) : Calls Try.prog 69 #[.pointer o1, .int .u64 a3, .slice a2 a1 a0, .slice a4 a6 a5] w fun e w' => ∃ v, e = .returned v ∧ R v w' :=
  mfunc_ok follows (H := []) (args := [.pointer o1, .int .u64 a3, .slice a2 a1 a0, .slice a4 a6 a5]) (by rw [oOpen.eq]; exact h)

def oWrap.M (o1 : Option Addr) (a2 : Int) (ab : Int) (R : Value → World → Prop) (w : World) : Prop :=
 bif Option.isNone o1 then (
 R (.tuple #[.slice none 0 0, .int .i64 23]) w) else (
 o1.elim False fun a4 =>
 ∃ (a3 : Option Nat), w.cell? (a4.add 6) = some (.map a3) ∧
 ∃ (v6 : Int) (v7 : Bool), (Instr.lookup 111 (.map a3) (.int .u64 a2) true).run Try.prog w = .ok (.tuple #[.int .u64 v6, .bool v7]) w ∧
 bif !v7 then (
 R (.tuple #[.slice none 0 0, .int .i64 20]) w) else (
 o1.elim False fun a8 =>
 ∃ (a9 : Option Nat), w.cell? (a8.add 4) = some (.map a9) ∧
 ∃ (ag : Bool), (Instr.lookup 109 (.map a9) (.int .u64 ab) false).run Try.prog w = .ok (.bool ag) w ∧
 bif !ag then (
 R (.tuple #[.slice none 0 0, .int .i64 11]) w) else (
 Calls Try.prog 49 #[.pointer o1] w fun ae aa => ∃ (a1 : Int), ae = .returned (.int .u64 a1) ∧
 o1.elim False fun ah =>
 ∃ (a0 : Option Nat), aa.cell? (ah.add 10) = some (.map a0) ∧
 ∃ ac : World, (Instr.mapUpdate 115 (.map a0) (.int .u64 a1) (.agg #[.int .u64 a2, .int .u64 ab])).run Try.prog aa = .ok () ac ∧
 Calls Try.prog 59 #[.int .u64 a1, .int .i64 8] ac fun ad af => ∃ (a5 : Option Addr) (a6 : Nat) (a7 : Nat), ad = .returned (.slice a5 a6 a7) ∧
 R (.tuple #[.slice a5 a6 a7, .int .i64 0]) af)))

theorem oWrap.eq (o1 : Option Addr) (publicv2 : Int) (key3 : Int) (R : Value → World → Prop) (w : World) : mfunc Try.prog [] 30 [.pointer o1, .int .u64 publicv2, .int .u64 key3] R w = oWrap.M o1 publicv2 key3 R w := by kernel_rfl
theorem oWrap.ok (o1 : Option Addr) (a0 : Int) (a1 : Int) {R : Value → World → Prop} {w : World} (h : oWrap.M o1 a0 a1 R w) : Calls Try.prog 30 #[.pointer o1, .int .u64 a0, .int .u64 a1] w fun e w' => ∃ v, e = .returned v ∧ R v w' :=
  mfunc_ok follows (H := []) (args := [.pointer o1, .int .u64 a0, .int .u64 a1]) (by rw [oWrap.eq]; exact h)

def oUnwrap.M (o1 : Option Addr) (ac : Int) (aw : Option Addr) (aq : Nat) (az : Nat) (R : Value → World → Prop) (w : World) : Prop :=
 bif Option.isNone o1 then (
 R (.tuple #[.int .u64 0, .int .i64 23]) w) else (
 thenW (w.drew) fun ah =>
 o1.elim False fun a5 =>
 ∃ (a0 : Option Nat), ah.cell? (a5.add 10) = some (.map a0) ∧
 (Calls Try.prog 42 #[.slice aw aq az] ah fun b0 ag => ∃ (a8 : Int), b0 = .returned (.int .u64 a8) ∧
 ag.cell? (a5.add 10) = some (.map a0) ∧
 ∃ (a1 : Int) (ad : Int) (ar : Bool), (Instr.lookup 115 (.map a0) (.int .u64 a8) true).run Try.prog ag = .ok (.tuple #[.agg #[.int .u64 a1, .int .u64 ad], .bool ar]) ag ∧
 thenW (ag.alloc (.cells #[.int .u64 0, .int .u64 0] 107)) fun ae =>
 (Instr.lookup 115 (.map a0) (.int .u64 a8) true).run Try.prog ae = .ok (.tuple #[.agg #[.int .u64 a1, .int .u64 ad], .bool ar]) ae ∧
 ae.cell? (a5.add 10) = some (.map a0) ∧
 canStore ae ((blk ag.heap.size).add 0) ∧
 thenW (ae.setCell ((blk ag.heap.size).add 0) (.int .u64 a1)) fun ao =>
 canStore ao ((blk ag.heap.size).add 1) ∧
 thenW (ao.setCell ((blk ag.heap.size).add 1) (.int .u64 ad)) fun am =>
 bif !ar then (
 R (.tuple #[.int .u64 0, .int .i64 4]) am) else (
 bif (aq : Int) != 16 then (
 R (.tuple #[.int .u64 0, .int .i64 4]) am) else (
 thenW (am.drew) fun ab =>
 o1.elim False fun b1 =>
 ∃ (a2 : Option Nat), ab.cell? (b1.add 6) = some (.map a2) ∧
 ∃ (a6 : Int), ab.cell? ((blk ag.heap.size).add 0) = some (.int .u64 a6) ∧
 ∃ (av : Int), (Instr.lookup 111 (.map a2) (.int .u64 a6) false).run Try.prog ab = .ok (.int .u64 av) ab ∧
 bif av != ac then (
 R (.tuple #[.int .u64 0, .int .i64 11]) ab) else (
 ∃ (aj : Int), ab.cell? ((blk ag.heap.size).add 1) = some (.int .u64 aj) ∧
 R (.tuple #[.int .u64 aj, .int .i64 0]) ab)))) ∧
 (thenW (ah.alloc (.cells #[.int .u64 0, .int .u64 0] 107)) fun ap =>
 ap.cell? (a5.add 10) = some (.map a0) ∧
 Calls Try.prog 42 #[.slice aw aq az] ap fun au af => ∃ (a9 : Int), au = .returned (.int .u64 a9) ∧
 af.cell? (a5.add 10) = some (.map a0) ∧
 ∃ (a3 : Int) (ak : Int) (ax : Bool), (Instr.lookup 115 (.map a0) (.int .u64 a9) true).run Try.prog af = .ok (.tuple #[.agg #[.int .u64 a3, .int .u64 ak], .bool ax]) af ∧
 canStore af ((blk ah.heap.size).add 0) ∧
 thenW (af.setCell ((blk ah.heap.size).add 0) (.int .u64 a3)) fun an =>
 canStore an ((blk ah.heap.size).add 1) ∧
 thenW (an.setCell ((blk ah.heap.size).add 1) (.int .u64 ak)) fun al =>
 bif !ax then (
 R (.tuple #[.int .u64 0, .int .i64 4]) al) else (
 bif (aq : Int) != 16 then (
 R (.tuple #[.int .u64 0, .int .i64 4]) al) else (
 thenW (al.drew) fun aa =>
 o1.elim False fun b2 =>
 ∃ (a7 : Option Nat), aa.cell? (b2.add 6) = some (.map a7) ∧
 ∃ (a4 : Int), aa.cell? ((blk ah.heap.size).add 0) = some (.int .u64 a4) ∧
 ∃ (ay : Int), (Instr.lookup 111 (.map a7) (.int .u64 a4) false).run Try.prog aa = .ok (.int .u64 ay) aa ∧
 bif ay != ac then (
 R (.tuple #[.int .u64 0, .int .i64 11]) aa) else (
 ∃ (ai : Int), aa.cell? ((blk ah.heap.size).add 1) = some (.int .u64 ai) ∧
 R (.tuple #[.int .u64 ai, .int .i64 0]) aa)))))

theorem oUnwrap.eq (o1 : Option Addr) (secret2 : Int) (b3a : Option Addr) (b3n : Nat) (b3c : Nat) (R : Value → World → Prop) (w : World) : mfunc Try.prog [] 12 [.pointer o1, .int .u64 secret2, .slice b3a b3n b3c] R w = oUnwrap.M o1 secret2 b3a b3n b3c R w := by kernel_rfl
theorem oUnwrap.ok (o1 : Option Addr) (a0 : Int) (a1 : Option Addr) (a2 : Nat) (a3 : Nat) {R : Value → World → Prop} {w : World} (h : oUnwrap.M o1 a0 a1 a2 a3 R w) : Calls Try.prog 12 #[.pointer o1, .int .u64 a0, .slice a1 a2 a3] w fun e w' => ∃ v, e = .returned v ∧ R v w' :=
  mfunc_ok follows (H := []) (args := [.pointer o1, .int .u64 a0, .slice a1 a2 a3]) (by rw [oUnwrap.eq]; exact h)

def oBox.M (h1 : Int) (a0 : Int) (R : Value → World → Prop) (w : World) : Prop :=
 ∃ (a4 : Option Addr) (a3 : Nat) (a7 : Nat) (a6 : World), (Instr.makeSlice 29 (.int .i64 (IntKind.i64.wrap ((8 : Int) + a0))) (.int .i64 (IntKind.i64.wrap ((8 : Int) + a0)))).run Try.prog w = .ok (.slice a4 a3 a7) a6 ∧
 ∃ (I0 : Nat → List Value → World → Prop) (m6 : Nat), I0 m6 [.int .i64 0] a6 ∧ ∀ (m7 : Nat) (a1 : World) (t5 : Int), I0 m7 [.int .i64 t5] a1 →
 bif decide (t5 < 8) then (
 0 ≤ ((IntKind.i64.wrap ((56 : Int) - (IntKind.i64.wrap ((8 : Int) * t5)))) : Int) ∧
 a4.elim False fun a9 =>
 0 ≤ (t5 : Int) ∧ (t5 : Int) < (a3 : Int) ∧
 canStore a1 ((a9.add (Int.toNat t5 * 1)).add 0) ∧
 thenW (a1.setCell ((a9.add (Int.toNat t5 * 1)).add 0) (.int .u8 (IntKind.u8.wrap (Int.fdiv h1 (2 ^ (min (Int.toNat (IntKind.i64.wrap ((56 : Int) - (IntKind.i64.wrap ((8 : Int) * t5))))) (IntKind.bits .u64))))))) fun a2 =>
 ∃ a5, a5 < m7 ∧ I0 a5 [.int .i64 (IntKind.i64.wrap (t5 + 1))] a2) else (
 R (.slice a4 a3 a7) a1)

theorem oBox.eq (h1 : Int) (more2 : Int) (R : Value → World → Prop) (w : World) : mfunc Try.prog [(0, [0, 5], [(10, (.one (.int .i64)))])] 59 [.int .u64 h1, .int .i64 more2] R w = oBox.M h1 more2 R w := by kernel_rfl
theorem oBox.ok (h1 : Int) (a0 : Int) {R : Value → World → Prop} {w : World} (h : oBox.M h1 a0 R w) : Calls Try.prog 59 #[.int .u64 h1, .int .i64 a0] w fun e w' => ∃ v, e = .returned v ∧ R v w' :=
  mfunc_ok follows (H := [(0, [0, 5], [(10, (.one (.int .i64)))])]) (args := [.int .u64 h1, .int .i64 a0]) (by rw [oBox.eq]; exact h)

def oHandle.M (a2 : Option Addr) (a4 : Nat) (a1 : Nat) (R : Value → World → Prop) (w : World) : Prop :=
 bif decide ((a4 : Int) < 8) then (
 R (.int .u64 0) w) else (
 (0 : Int) ≤ (8 : Int) ∧ (8 : Int) ≤ (a4 : Int) ∧
 Calls Try.prog 70 #[.slice (if a1 = Int.toNat 8 then a2 else Option.map (fun z : Addr => z.add ((Int.toNat 8) * 1)) a2) (a4 - (Int.toNat 8)) (a1 - (Int.toNat 8)), .func (.func 71) #[] #[]] w fun a8 a6 => ∃ (a0 : Bool), a8 = .returned (.bool a0) ∧
 bif a0 then (
 R (.int .u64 0) a6) else (
 (0 : Int) ≤ (8 : Int) ∧ (8 : Int) ≤ (a1 : Int) ∧
 ∃ (I0 : Nat → List Value → World → Prop) (m7 : Nat), I0 m7 [.int .u64 0, .int .i64 0] a6 ∧ ∀ (m8 : Nat) (a3 : World) (n5 : Int) (t6 : Int), I0 m8 [.int .u64 n5, .int .i64 t6] a3 →
 bif decide (t6 < (((Int.toNat 8) - 0 : Nat) : Int)) then (
 (if a1 = 0 then a2 else Option.map (fun z : Addr => z.add (0 * 1)) a2).elim False fun a9 =>
 0 ≤ (t6 : Int) ∧ (t6 : Int) < (((Int.toNat 8) - 0 : Nat) : Int) ∧
 ∃ (a5 : Int), a3.cell? (a9.add (Int.toNat t6 * 1)) = some (.int .u8 a5) ∧
 0 ≤ (8 : Int) ∧
 ∃ a7, a7 < m8 ∧ I0 a7 [.int .u64 (IntKind.u64.wrap ((BitVec.ofInt (IntKind.bits .u64) (IntKind.u64.wrap (n5 * 2 ^ (min (Int.toNat 8) (IntKind.bits .u64)))) ||| BitVec.ofInt (IntKind.bits .u64) (IntKind.u64.wrap a5)).toNat)), .int .i64 (IntKind.i64.wrap (t6 + 1))] a3) else (
 R (.int .u64 n5) a3)))

theorem oHandle.eq (b1a : Option Addr) (b1n : Nat) (b1c : Nat) (R : Value → World → Prop) (w : World) : mfunc Try.prog [(0, [15, 16], [(3, (.one (.int .u64))), (17, (.one (.int .i64)))])] 42 [.slice b1a b1n b1c] R w = oHandle.M b1a b1n b1c R w := by kernel_rfl
theorem oHandle.ok (a2 : Option Addr) (a0 : Nat) (a1 : Nat) {R : Value → World → Prop} {w : World} (h : oHandle.M a2 a0 a1 R w) : Calls Try.prog 42 #[.slice a2 a0 a1] w fun e w' => ∃ v, e = .returned v ∧ R v w' :=
  mfunc_ok follows (H := [(0, [15, 16], [(3, (.one (.int .u64))), (17, (.one (.int .i64)))])]) (args := [.slice a2 a0 a1]) (by rw [oHandle.eq]; exact h)

def hNz.M (c1 : Int) (R : Value → World → Prop) (w : World) : Prop :=
 R (.bool (c1 != 0)) w

theorem hNz.eq (c1 : Int) (R : Value → World → Prop) (w : World) : mfunc Try.prog [] 71 [.int .u8 c1] R w = hNz.M c1 R w := by kernel_rfl
theorem hNz.ok (c1 : Int) {R : Value → World → Prop} {w : World} (h : hNz.M c1 R w) : Calls Try.prog 71 #[.int .u8 c1] w fun e w' => ∃ v, e = .returned v ∧ R v w' :=
  mfunc_ok follows (H := []) (args := [.int .u8 c1]) (by rw [hNz.eq]; exact h)

def bClass.M (n1 : Int) (R : Value → World → Prop) (w : World) : Prop :=
 ∃ (I0 : Nat → List Value → World → Prop) (m3 : Nat), I0 m3 [.int .i64 0] w ∧ ∀ (m4 : Nat) (a1 : World) (t2 : Int), I0 m4 [.int .i64 t2] a1 →
 bif decide (t2 < 7) then (
 bif decide (n1 ≥ 0) then (
 Calls Try.prog 83 #[.int .i64 t2] a1 fun a4 a2 => ∃ (a0 : Int), a4 = .returned (.int .i64 a0) ∧
 bif decide (n1 ≤ a0) then (
 R (.int .i64 t2) a2) else (
 ∃ m9, m9 < m4 ∧ I0 m9 [.int .i64 (IntKind.i64.wrap (t2 + 1))] a2)) else (
 ∃ a3, a3 < m4 ∧ I0 a3 [.int .i64 (IntKind.i64.wrap (t2 + 1))] a1)) else (
 R (.int .i64 (-1)) a1)

theorem bClass.eq (n1 : Int) (R : Value → World → Prop) (w : World) : mfunc Try.prog [(0, [0], [(4, (.one (.int .i64)))])] 60 [.int .i64 n1] R w = bClass.M n1 R w := by kernel_rfl
theorem bClass.ok (n1 : Int) {R : Value → World → Prop} {w : World} (h : bClass.M n1 R w) : Calls Try.prog 60 #[.int .i64 n1] w fun e w' => ∃ v, e = .returned v ∧ R v w' :=
  mfunc_ok follows (H := [(0, [0], [(4, (.one (.int .i64)))])]) (args := [.int .i64 n1]) (by rw [bClass.eq]; exact h)

def bSize.M (c1 : Int) (R : Value → World → Prop) (w : World) : Prop :=
 Calls Try.prog 84 #[.int .i64 c1] w fun a1 a2 => ∃ (a0 : Int), a1 = .returned (.int .i64 a0) ∧
 R (.int .i64 a0) a2

theorem bSize.eq (c1 : Int) (R : Value → World → Prop) (w : World) : mfunc Try.prog [] 61 [.int .i64 c1] R w = bSize.M c1 R w := by kernel_rfl
theorem bSize.ok (c1 : Int) {R : Value → World → Prop} {w : World} (h : bSize.M c1 R w) : Calls Try.prog 61 #[.int .i64 c1] w fun e w' => ∃ v, e = .returned v ∧ R v w' :=
  mfunc_ok follows (H := []) (args := [.int .i64 c1]) (by rw [bSize.eq]; exact h)

def bsize.M (c1 : Int) (R : Value → World → Prop) (w : World) : Prop :=
 bif decide (c1 < 0) then (
 R (.int .i64 0) w) else (
 bif decide (c1 ≥ 7) then (
 R (.int .i64 0) w) else (
 0 ≤ (c1 : Int) ∧
 R (.int .i64 (IntKind.i64.wrap (16 * 2 ^ (min (Int.toNat c1) (IntKind.bits .i64))))) w))

theorem bsize.eq (c1 : Int) (R : Value → World → Prop) (w : World) : mfunc Try.prog [] 84 [.int .i64 c1] R w = bsize.M c1 R w := by kernel_rfl
theorem bsize.ok (c1 : Int) {R : Value → World → Prop} {w : World} (h : bsize.M c1 R w) : Calls Try.prog 84 #[.int .i64 c1] w fun e w' => ∃ v, e = .returned v ∧ R v w' :=
  mfunc_ok follows (H := []) (args := [.int .i64 c1]) (by rw [bsize.eq]; exact h)

def broom.M (c1 : Int) (R : Value → World → Prop) (w : World) : Prop :=
 Calls Try.prog 84 #[.int .i64 c1] w fun a2 a1 => ∃ (a0 : Int), a2 = .returned (.int .i64 a0) ∧
 bif decide ((IntKind.i64.wrap (a0 - 1)) ≥ 128) then (
 R (.int .i64 (IntKind.i64.wrap ((IntKind.i64.wrap (a0 - 1)) - 1))) a1) else (
 R (.int .i64 (IntKind.i64.wrap (a0 - 1))) a1)

theorem broom.eq (c1 : Int) (R : Value → World → Prop) (w : World) : mfunc Try.prog [] 83 [.int .i64 c1] R w = broom.M c1 R w := by kernel_rfl
theorem broom.ok (c1 : Int) {R : Value → World → Prop} {w : World} (h : broom.M c1 R w) : Calls Try.prog 83 #[.int .i64 c1] w fun e w' => ∃ v, e = .returned v ∧ R v w' :=
  mfunc_ok follows (H := []) (args := [.int .i64 c1]) (by rw [broom.eq]; exact h)

def bEqual.M (a1 : Option Addr) (a5 : Nat) (a3 : Nat) (a4 : Option Addr) (a0 : Nat) (a2 : Nat) (R : Value → World → Prop) (w : World) : Prop :=
 ∃ (s3 : ByteArray), (convert 29 9 (.slice a1 a5 a3)).run Try.prog w = .ok (.string s3) w ∧
 ∃ (s4 : ByteArray), (convert 29 9 (.slice a4 a0 a2)).run Try.prog w = .ok (.string s4) w ∧
 R (.bool (s3.toList == s4.toList)) w

theorem bEqual.eq (a1a : Option Addr) (a1n : Nat) (a1c : Nat) (b2a : Option Addr) (b2n : Nat) (b2c : Nat) (R : Value → World → Prop) (w : World) : mfunc Try.prog [] 87 [.slice a1a a1n a1c, .slice b2a b2n b2c] R w = bEqual.M a1a a1n a1c b2a b2n b2c R w := by kernel_rfl
theorem bEqual.ok (a1 : Option Addr) (a5 : Nat) (a3 : Nat) (a4 : Option Addr) (a0 : Nat) (a2 : Nat) {R : Value → World → Prop} {w : World} (h : bEqual.M a1 a5 a3 a4 a0 a2 R w) : Calls Try.prog 87 #[.slice a1 a5 a3, .slice a4 a0 a2] w fun e w' => ∃ v, e = .returned v ∧ R v w' :=
  mfunc_ok follows (H := []) (args := [.slice a1 a5 a3, .slice a4 a0 a2]) (by rw [bEqual.eq]; exact h)

def bCF.M (a1 : Option Addr) (a4 : Nat) (a8 : Nat) (a6 : Nat) (a3 : Array Value) (a7 : Array Value) (R : Value → World → Prop) (w : World) : Prop :=
 Calls Try.prog 88 #[.slice a1 a4 a8, .func (.func a6) a3 a7] w fun a5 a2 => ∃ (a0 : Int), a5 = .returned (.int .i64 a0) ∧
 R (.bool (decide (a0 ≥ 0))) a2

theorem bCF.eq (s1a : Option Addr) (s1n : Nat) (s1c : Nat) (f2k : Nat) (f2f : Array Value) (f2g : Array Value) (R : Value → World → Prop) (w : World) : mfunc Try.prog [] 70 [.slice s1a s1n s1c, .func (.func f2k) f2f f2g] R w = bCF.M s1a s1n s1c f2k f2f f2g R w := by kernel_rfl
theorem bCF.ok (a0 : Option Addr) (a2 : Nat) (a5 : Nat) (a3 : Nat) (a1 : Array Value) (a4 : Array Value) {R : Value → World → Prop} {w : World} (h : bCF.M a0 a2 a5 a3 a1 a4 R w) : Calls Try.prog 70 #[.slice a0 a2 a5, .func (.func a3) a1 a4] w fun e w' => ∃ v, e = .returned v ∧ R v w' :=
  mfunc_ok follows (H := []) (args := [.slice a0 a2 a5, .func (.func a3) a1 a4]) (by rw [bCF.eq]; exact h)

def bIF.M (ab : Option Addr) (a9 : Nat) (ac : Nat) (a4 : Nat) (a8 : Array Value) (aa : Array Value) (R : Value → World → Prop) (w : World) : Prop :=
 ∃ (I0 : Nat → List Value → World → Prop) (m4 : Nat), I0 m4 [.int .i64 0] w ∧ ∀ (m5 : Nat) (a1 : World) (t3 : Int), I0 m5 [.int .i64 t3] a1 →
 bif decide (t3 < (a9 : Int)) then (
 ab.elim False fun a7 =>
 0 ≤ (t3 : Int) ∧ (t3 : Int) < (a9 : Int) ∧
 ∃ (x8 : Int), a1.cell? (a7.add (Int.toNat t3 * 1)) = some (.int .u8 x8) ∧
 bif enters Try.prog a4 then Calls Try.prog a4 (a8.toList ++ ([.int .u8 x8] : List Value) ++ aa.toList).toArray a1 (fun a3 a2 => ∃ (r9 : Bool), a3 = .returned (.bool r9) ∧
 bif r9 then (
 R (.int .i64 t3) a2) else (
 ∃ a6, a6 < m5 ∧ I0 a6 [.int .i64 (IntKind.i64.wrap (t3 + 1))] a2)) else (∃ (r9 : Bool) (a0 : World), (externCall a4 (a8.toList ++ ([.int .u8 x8] : List Value) ++ aa.toList).toArray).run Try.prog a1 = .ok (.bool r9) a0 ∧
 bif r9 then (
 R (.int .i64 t3) a0) else (
 ∃ a5, a5 < m5 ∧ I0 a5 [.int .i64 (IntKind.i64.wrap (t3 + 1))] a0))) else (
 R (.int .i64 (-1)) a1)

theorem bIF.eq (s1a : Option Addr) (s1n : Nat) (s1c : Nat) (f2k : Nat) (f2f : Array Value) (f2g : Array Value) (R : Value → World → Prop) (w : World) : mfunc Try.prog [(0, [0, 1, 7], [(8, (.one (.int .i64)))])] 88 [.slice s1a s1n s1c, .func (.func f2k) f2f f2g] R w = bIF.M s1a s1n s1c f2k f2f f2g R w := by kernel_rfl
theorem bIF.ok (a0 : Option Addr) (a2 : Nat) (a5 : Nat) (a3 : Nat) (a1 : Array Value) (a4 : Array Value) {R : Value → World → Prop} {w : World} (h : bIF.M a0 a2 a5 a3 a1 a4 R w) : Calls Try.prog 88 #[.slice a0 a2 a5, .func (.func a3) a1 a4] w fun e w' => ∃ v, e = .returned v ∧ R v w' :=
  mfunc_ok follows (H := [(0, [0, 1, 7], [(8, (.one (.int .i64)))])]) (args := [.slice a0 a2 a5, .func (.func a3) a1 a4]) (by rw [bIF.eq]; exact h)

theorem inf27 : (Try.prog.info? 27).map (fun i => (i.zero, i.size, i.bytes)) = some (some (.int .u64 0), 1, 8) := by kernel_rfl
theorem inf4 : (Try.prog.info? 4).map (fun i => (i.zero, i.size, i.bytes)) = some (some (.bool false), 1, 1) := by kernel_rfl
end Go.Proofs.Ytaifegpikhjiiaa
