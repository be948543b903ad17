/- Forkcheck: the alarm; the chapter's example. -/
import Derived.Test.YtlfijjmjmgobhaaFckA
set_option linter.unusedVariables false
set_option linter.unusedSimpArgs false
set_option maxRecDepth 20000
set_option maxHeartbeats 2000000
namespace Go.Proofs.Ytlfijjmjmgobhaa
open Go Go.Mx Go.Proofs
open W (OwnB GivesW numR countR doneR zig unzig intR)
theorem inf48 : (Try.prog.info? 48).map (fun i => (i.zero, i.size, i.bytes)) = some (some (.agg #[.int .i64 0, .int .i64 0, .int .u64 0, .int .i64 0, .int .i64 0, .int .i64 0, .slice none 0 0, .int .u64 0, .int .i64 0, .int .i64 0, .int .u64 0, .int .i64 0, .int .i64 0, .int .i64 0, .slice none 0 0, .int .u64 0]), 16, 160) := by kernel_rfl
def i64V (n : Int) : Value := .int .i64 n
/-- a proof, and where its bytes lie. -/
def PrfV (w : World) (o : Own) (p : Ent × Ent) (v : Value) : Prop :=
  ∃ aa ac ba bc, v = prfV p.1 aa ac p.2 ba bc ∧ Row w o aa (bytesV p.1.body) ∧ Row w o ba (bytesV p.2.body) ∧ p.1.body.length ≤ ac ∧ p.2.body.length ≤ bc
def PrfL (w : World) (o : Own) : List (Int × (Ent × Ent)) → List (Int × Value) → Prop
  | [], [] => True
  | p :: r, q :: s => p.1 = q.1 ∧ PrfV w o p.2 q.2 ∧ PrfL w o r s
  | _, _ => False
section
variable {w w' : World} {o o' : Own} {k j n : Nat} {K : Nat → Prop} {S : OS} {a b : Ent} {aa ba : Option Addr} {ac bc : Nat}
theorem PrfV.step {p : Ent × Ent} {v : Value} (h : PrfV w o p v) (s : Step K w o w' o') : PrfV w' o' p v := by
  obtain ⟨aa, ac, ba, bc, h1, h2, h3, h4⟩ := h
  exact ⟨aa, ac, ba, bc, h1, h2.step s, h3.step s, h4⟩
theorem PrfL.step (s : Step K w o w' o') : ∀ {l : List (Int × (Ent × Ent))} {lv : List (Int × Value)}, PrfL w o l lv → PrfL w' o' l lv
  | [], [], _ => trivial
  | p :: r, q :: t, h => ⟨h.1, h.2.1.step s, PrfL.step s h.2.2⟩
  | [], _ :: _, h => h.elim
  | _ :: _, [], h => h.elim
theorem PrfL.look : ∀ {l : List (Int × (Ent × Ent))} {lv : List (Int × Value)}, PrfL w o l lv → ∀ x, (alook l x = none ∧ mlook lv x = none) ∨ ∃ s v, alook l x = some s ∧ mlook lv x = some v ∧ PrfV w o s v
  | [], [], _, x => .inl ⟨rfl, rfl⟩
  | p :: r, q :: s, h, x => by
    obtain ⟨h1, h2, h3⟩ := h
    simp only [alook, mlook, ← h1]
    by_cases hp : p.1 = x
    · rw [if_pos hp, if_pos hp]; exact .inr ⟨_, _, rfl, rfl, h2⟩
    · rw [if_neg hp, if_neg hp]; exact PrfL.look h3 x
  | [], _ :: _, h, _ => h.elim
  | _ :: _, [], h, _ => h.elim
theorem PrfL.put {x : Int} {t : Ent × Ent} {v : Value} (hv : PrfV w o t v) : ∀ {l : List (Int × (Ent × Ent))} {lv : List (Int × Value)}, PrfL w o l lv → PrfL w o (aput l x t) (mput lv x v)
  | [], [], _ => ⟨rfl, hv, trivial⟩
  | p :: r, q :: s, h => by
    obtain ⟨h1, h2, h3⟩ := h
    simp only [aput, mput, ← h1]
    by_cases hp : p.1 = x
    · rw [if_pos hp, if_pos hp]; exact ⟨rfl, hv, h3⟩
    · rw [if_neg hp, if_neg hp]; exact ⟨h1, h2, PrfL.put hv h3⟩
  | [], _ :: _, h => h.elim
  | _ :: _, [], h => h.elim
theorem PrfL.len : ∀ {l : List (Int × (Ent × Ent))} {lv : List (Int × Value)}, PrfL w o l lv → l.length = lv.length
  | [], [], _ => rfl
  | p :: r, q :: s, h => by simp [PrfL.len h.2.2]
  | [], _ :: _, h => h.elim
  | _ :: _, [], h => h.elim
/-- an alarm. -/
def Alm (w : World) (o : Own) (k : Nat) (l : List (Int × (Ent × Ent))) : Prop :=
  o k = some k ∧ ∃ q lv, Blk w k 140 [.map (some q)] ∧ MapIs w q i64V lv ∧ o q = some k ∧ q ≠ k ∧ PrfL w o l lv
theorem Alm.lt {l : List (Int × (Ent × Ent))} (h : Alm w o k l) : k < w.heap.size := by obtain ⟨_, q, lv, hb, _⟩ := h; exact hb.lt
theorem Alm.step {l : List (Int × (Ent × Ent))} (h : Alm w o k l) (s : Step K w o w' o') (hk : ¬ K k) : Alm w' o' k l := by
  have hlt := h.lt
  obtain ⟨h0, q, lv, h1, h2, h3, h4, h5⟩ := h
  refine ⟨(s.own hlt).trans h0, q, lv, s.blk h1 h0 hk, ?_, (s.own h2.lt).trans h3, h4, h5.step s⟩
  have hq := s.at h2.lt fun i hi => by rw [h3] at hi; cases hi; exact hk
  obtain ⟨es, cl, e1, e2⟩ := h2
  exact ⟨es, cl, hq.trans e1, e2⟩
theorem sClone_spec {a : Option Addr} {c : Nat} {bs : List UInt8} (h : RowAt w a (bytesV bs)) (hl : bs.length ≤ 1000000) :
    Calls Try.prog 87 #[.slice a bs.length c] w (fun e w' => ∃ a' c', e = .returned (.slice a' bs.length c') ∧ OwnB w.heap.size w' a' c' bs ∧ Ext no w w') := by
  refine (slices_Clone_byte_byte.go _ _ _ (R := fun v w' => ∃ a' c', v = (.slice a' bs.length c') ∧ OwnB w.heap.size w' a' c' bs ∧ Ext no w w') ?_).mono fun e w' ⟨v, he, a, c, hv, hw⟩ => ⟨a, c, by rw [he, hv], hw⟩
  unfold slices_Clone_byte_byte.N
  refine ⟨fun hn => ?_, fun hn w2 q X hb hq hq' => ?_⟩
  · subst hn
    have : bs = [] := by simpa [bytesV] using h.none_nil
    subst this
    exact ⟨none, 0, rfl, OwnB.nil _ _, Ext.refl _ _⟩
  · have hO : OwnB w.heap.size w2 (some (blk q)) 0 [] := ⟨owns_of_blk hb rfl (Nat.zero_le _), fun ad ha => by cases ha; exact ⟨hq, hq'⟩⟩
    obtain ⟨a', c', w', hr, hO', hx⟩ := hO.append (t := 26) (ty := 26) Try.underlying26 X.size (xc := c) (h.no X) (by simp; omega)
    rw [List.nil_append] at hr hO'
    exact ⟨a', _, c', w', hr, a', c', rfl, hO', X.then hx fun b hb => .inr hb⟩
theorem fOwn_spec (ok : Tags w o) {e : Ent} {a : Option Addr} {c : Nat} (h : Row w o a (bytesV e.body)) (hl : e.body.length ≤ 1000000) :
    Calls Try.prog 60 #[entV e a c] w (fun x w' => ∃ o' a' c', x = .returned (entV e a' c') ∧ Step no w o w' o' ∧ Row w' o' a' (bytesV e.body) ∧ e.body.length ≤ c') := by
  refine (forkcheck_own.go e.w e.i e.pv e.t e.tw e.ep a e.body.length c e.sg (R := fun v w' => ∃ o' a' c', v = (entV e a' c') ∧ Step no w o w' o' ∧ Row w' o' a' (bytesV e.body) ∧ e.body.length ≤ c') ?_).mono fun x w' ⟨v, he, o', a, c, hv, hw⟩ => ⟨o', a, c, by rw [he, hv], hw⟩
  unfold forkcheck_own.N
  intro w10 p11 p12 X10 hp
  obtain ⟨s10, M10⟩ := Step.priv X10 hp ok
  have g11 := hp p11 (by simp)
  have g12 := hp p12 (by simp)
  refine (sClone_spec (h.step s10).1 hl).mono fun x w15 ⟨ca, cc, he, hO, X15⟩ => ⟨_, _, _, he, X15.kept, fun w24 X24 => ?_⟩
  have s15 := Step.of_no X15 s10.ok
  have s24 := Step.stores X24 s15.ok (M10.step s15) (by simp [or_comm])
  exact ⟨_, ca, cc, rfl, (s10.trans s15).trans' s24 (fun i hi => .inr (by simp at hi; omega)), (OwnB.tight hO (Nat.le_refl _)).step s24, hO.le⟩
theorem NewAlarm_spec (ok : Tags w o) : Calls Try.prog 39 #[] w (fun x w' => ∃ k o', x = .returned (.pointer (some (blk k))) ∧ w.heap.size ≤ k ∧ Step no w o w' o' ∧ Alm w' o' k []) := by
  refine (forkcheck_NewAlarm.go (R := fun v w' => ∃ k o', v = (.pointer (some (blk k))) ∧ w.heap.size ≤ k ∧ Step no w o w' o' ∧ Alm w' o' k []) ?_).mono fun x w' ⟨v, he, k, o', hv, hw⟩ => ⟨k, o', by rw [he, hv], hw⟩
  unfold forkcheck_NewAlarm.N
  intro w1 q2 X1 hm hq hq' w3 q4 X3 hb h4 h4'
  have s1 := Step.of_no (X1.trans X3) ok
  have l3 := X3.size
  refine ⟨q4, tag (tag (grow w o) q2 q4) q4 q4, rfl, by omega, (s1.tag hq h4').tag (by omega) h4', tag_self, q2, [], hb, ?_, ?_, by omega, trivial⟩
  · have : MapIs w1 q2 i64V [] := ⟨#[], 0, hm, rfl, by simp, by simp⟩
    exact this.ext X3 id
  · rw [tag_ne (by omega)]; exact tag_self
theorem On_spec {l : List (Int × (Ent × Ent))} (h : Alm w o k l) : Calls Try.prog 43 #[.pointer (some (blk k))] w (Ret (.bool (decide (l ≠ []))) fun w' => w' = w) := by
  obtain ⟨h0, q, lv, h1, h2, h3, h4, h5⟩ := h
  refine forkcheck_Alarm_On.run _ ?_
  unfold forkcheck_Alarm_On.N
  refine ⟨fun _ => ⟨_, rfl, some q, h1.cella (i := 0) rfl, lv.length, h2.len Try.underlying138, ?_, rfl⟩, fun h => by cases h⟩
  congr 1
  rw [decide_eq_decide, ← h5.len]
  cases l <;> simp
def raiseP (S : OS) (p : Int) (l : List (Int × (Ent × Ent))) (a b : Ent) : Int × List (Int × (Ent × Ent)) :=
  if checkP (holdsE S p) a b = 0 then (0, match alook l a.w with | some _ => l | none => aput l a.w (a, b)) else (checkP (holdsE S p) a b, l)
theorem Raise_spec {l : List (Int × (Ent × Ent))} (A : Alm w o j l) (h : POrc w o k S) (ok : Tags w o) (hkj : k ≠ j) (p : Int) (hfa : entRight a = true → a.fit) (hfb : entRight b = true → b.fit) (ha : Row w o aa (bytesV a.body)) (hb : Row w o ba (bytesV b.body)) (la : a.body.length ≤ 1000000) (lb : b.body.length ≤ 1000000) :
    Calls Try.prog 40 #[.pointer (some (blk j)), .pointer (some (blk k)), .int .u64 p, prfV a aa ac b ba bc] w (Gs (fun i => i = j) w o (.int .i64 (raiseP S p l a b).1) fun w' o' => Alm w' o' j (raiseP S p l a b).2) := by
  refine (forkcheck_Alarm_Raise.go (some (blk j)) (some (blk k)) p a.w a.i a.pv a.t a.tw a.ep aa a.body.length ac a.sg b.w b.i b.pv b.t b.tw b.ep ba b.body.length bc b.sg (R := fun v w' => ∃ o', v = (.int .i64 (raiseP S p l a b).1) ∧ Step (fun i => i = j) w o w' o' ∧ Alm w' o' j (raiseP S p l a b).2) ?_).mono fun x w' ⟨v, he, o', hv, hw⟩ => ⟨o', by rw [he, hv], hw⟩
  unfold forkcheck_Alarm_Raise.N
  refine ⟨fun h => (by cases h), fun _ w20 p23 X20 hp => ?_⟩
  obtain ⟨s20, M20⟩ := Step.priv X20 hp ok
  have g23 := hp p23 (by simp)
  have hj := A.lt
  refine (Check_spec (a := a) (b := b) (h.step s20 id) s20.ok p hfa hfb (ha.step s20).1 (hb.step s20).1).mono fun x w26 ⟨he, X26⟩ => ⟨_, he, X26.kept, fun hne => ?_, fun h0 => ?_⟩
  · have s26 := s20.trans (Step.of_no X26 s20.ok)
    unfold raiseP
    rw [if_neg hne]
    exact ⟨_, rfl, s26.none, A.step s26 id⟩
  · have s26 := s20.trans (Step.of_no X26 s20.ok)
    have A26 := A.step s26 id
    have M26 := M20.step (Step.of_no X26 s20.ok)
    obtain ⟨_, q, lv, h1, h2, h3, h4, h5⟩ := id A26
    refine ⟨_, rfl, some q, h1.cella (i := 0) rfl, fun w28 X28 => ?_⟩
    obtain ⟨i, hi, hz, hsz, hby⟩ := info_of inf48
    have hlk := fun (w1 : World) (hm : MapIs w1 q i64V lv) => hm.lookup (keys_int (k := .i64) Try.underlying3) Try.underlying138 hi hz a.w true
    have s28 := s26.trans (Step.of_no X28 s26.ok)
    have m28 := h2.ext X28 id
    have key : ∃ (x y : Ent) (xa : Option Addr) (xc : Nat) (ya : Option Addr) (yc : Nat), ((mlook lv a.w).getD (.agg #[.int .i64 0, .int .i64 0, .int .u64 0, .int .i64 0, .int .i64 0, .int .i64 0, .slice none 0 0, .int .u64 0, .int .i64 0, .int .i64 0, .int .u64 0, .int .i64 0, .int .i64 0, .int .i64 0, .slice none 0 0, .int .u64 0])) = prfV x xa xc y ya yc ∧ (mlook lv a.w).isSome = (alook l a.w).isSome := by
      rcases h5.look a.w with ⟨e1, e2⟩ | ⟨s, v, e1, e2, xa, xc, ya, yc, e3, _⟩
      · rw [e1, e2]; exact ⟨Ent.zero, Ent.zero, none, 0, none, 0, rfl, rfl⟩
      · rw [e1, e2]; exact ⟨s.1, s.2, xa, xc, ya, yc, e3, rfl⟩
    obtain ⟨x, y, xa, xc, ya, yc, key, kis⟩ := key
    have hl28 := hlk w28 m28
    rw [if_pos rfl, key, kis] at hl28
    refine ⟨x.w, x.i, x.pv, x.t, x.tw, x.ep, xa, x.body.length, xc, x.sg, y.w, y.i, y.pv, y.t, y.tw, y.ep, ya, y.body.length, yc, y.sg, (alook l a.w).isSome, hl28, fun w50 p51 X50 hp51 => ?_⟩
    have hl50 := hlk w50 (m28.ext X50 id)
    rw [if_pos rfl, key, kis] at hl50
    obtain ⟨s50', M50⟩ := Step.priv X50 hp51 s28.ok
    have s50 := s28.trans s50'
    have g51 := hp51 p51 (by simp)
    have A50 := A.step s50 id
    have l28 := X28.size
    have l26 := X26.size
    refine ⟨hl50, ((h1.ext X28 id).ext X50 id).cella (i := 0) rfl, fun hno w71 X71 => ?_, fun hyes w69 X69 => ?_⟩
    · have s71' := Step.stores X71 s50.ok M50 (by simp)
      have s71 := s50.trans' s71' fun i hi => .inr (by simp at hi; omega)
      have A71 := A50.step s71' (by simp; omega)
      have hno : alook l a.w = none := by cases hq : alook l a.w with | none => rfl | some z => rw [hq] at hno; cases hno
      obtain ⟨q0, q7, lv7, b1, b2, b3, b4, b5⟩ := id A71
      refine ⟨some q7, b1.cella (i := 0) rfl, ?_⟩
      have M71 : Mine [p23] w71 _ := ((M26.step (Step.of_no X28 s26.ok)).step s50').step s71'
      refine (fOwn_spec (e := a) s71.ok (ha.step s71) la).mono fun x w83 ⟨o83, ca, cc, he, s83', rc, lc⟩ => ⟨_, _, _, _, _, _, _, _, _, _, he, M71.keep s83' (fun _ _ => id), (s83'.blk b1 q0 id).cella (i := 0) rfl, ?_⟩
      have s83 := s71.trans s83'
      refine (fOwn_spec (e := b) s83.ok (hb.step s83) lb).mono fun x w94 ⟨o94, da, dc, he, s94', rd, ld⟩ => ⟨_, _, _, _, _, _, _, _, _, _, he, (M71.step s83').keep s94' (fun _ _ => id), (s94'.blk (s83'.blk b1 q0 id) ((s83'.own A71.lt).trans q0) id).cella (i := 0) rfl, ?_⟩
      have s94 := s83.trans s94'
      have A94 := (A71.step s83' id).step s94' id
      have s7194 := s83'.trans s94'
      have m94 : MapIs w94 q7 i64V lv7 := by
        have hq := s7194.at b2.lt fun i hi => id
        obtain ⟨es, cl, e1, e2⟩ := b2
        exact ⟨es, cl, hq.trans e1, e2⟩
      obtain ⟨w96, hu, hm, hx⟩ := m94.update (keys_int (k := .i64) Try.underlying3) Try.underlying138 a.w (prfV a ca cc b da dc)
      refine ⟨w96, hu, ?_⟩
      have X96 := hx (fun b => b = q7) rfl
      have tq : o94 q7 = some j := (s7194.own b2.lt).trans b3
      have s96' := Step.of_ext X96 s94.ok (p := j) fun b hb _ => by subst hb; exact tq
      have s96 := s94.none.trans s96'
      have hr : raiseP S p l a b = (0, aput l a.w (a, b)) := by unfold raiseP; rw [if_pos h0, hno]
      rw [hr]
      have lt94 := A94.lt
      refine ⟨_, rfl, s96, (s96'.own lt94).trans A94.1, q7, _, ((s94'.blk (s83'.blk b1 q0 id) ((s83'.own A71.lt).trans q0) id)).ext X96 (fun e => b4 e.symm), hm, (s96'.own (Nat.lt_of_lt_of_le b2.lt s7194.size)).trans tq, b4, ?_⟩
      exact PrfL.put ⟨ca, cc, da, dc, rfl, (rc.step s94').step s96', rd.step s96', lc, ld⟩ ((b5.step s7194).step s96')
    · have s69' := Step.stores X69 s50.ok M50 (by simp)
      have s69 := s50.trans' s69' fun i hi => .inr (by simp at hi; omega)
      have hr : raiseP S p l a b = (0, l) := by
        unfold raiseP; rw [if_pos h0]
        cases hq : alook l a.w with | some z => rfl | none => rw [hq] at hyes; cases hyes
      rw [hr]
      exact ⟨_, rfl, s69.none, A50.step s69' (by simp; omega)⟩
end
end Go.Proofs.Ytlfijjmjmgobhaa
