/- Sealing: SealingBack, SealingBlind, SealingNils. -/
import Derived.Test.YtgeakpldocfccaaZF
import Derived.Test.YtgeakpldocfccaaZA
set_option linter.unusedVariables false
set_option linter.unusedSimpArgs false
set_option maxRecDepth 20000
set_option maxHeartbeats 4000000
namespace Go.Proofs.Ytgeakpldocfccaa
open Go Go.Mx Go.Proofs
open W (OwnB sameB_spec)
def PlQ (W : World) (cs : List Value) : Prop := ∃ w i e : Int, cs = [.int .i64 w, .int .i64 i, .int .i64 e]
theorem opens_place : Opens Try.prog 24 PlQ :=
  (Q6h (qs := [(1, _), (1, _), (1, _)]) (size := 3) Try.underlying24 (by kernel_rfl)
    ⟨⟨rfl, by kernel_rfl, Q26 Try.underlying3⟩, ⟨rfl, by kernel_rfl, Q26 Try.underlying3⟩, ⟨rfl, by kernel_rfl, Q26 Try.underlying3⟩, rfl⟩).mono
    fun W cs ⟨_, _, e0, _, ⟨a, q0, _⟩, _, _, e1, _, ⟨b, q1, _⟩, _, _, e2, _, ⟨c, q2, _⟩, q3⟩ => by
      subst q0; subst q1; subst q2; subst q3; subst e2; subst e1; subst e0
      exact ⟨a, b, c, rfl⟩
theorem endE {W w : World} {o : Own} (s : Step no W (fun _ => none) w o) : Ext no W w := s.ext.mono fun b ⟨_, h, _⟩ _ => by cases h
theorem live14 {W w2 : World} {o2 : Own} (s : Step no W (fun _ => none) w2 o2) : Calls Try.prog 6 #[] w2 fun ee ww => ∃ (al : Bool), ee = .returned (.bool al) ∧ (Value.bool al = .bool true ∧ Ext no W ww) :=
  (Q4B s.ok).mono fun x ww ⟨o2, he, s2⟩ => ⟨true, he, rfl, endE (s.trans s2)⟩
theorem SealingBack_walk (W : World) (a0 : Option Addr) (len0 cap0 : Nat) (cs1 : Array Value) (a2 : Option Addr) (len2 cap2 : Nat) (cs3 : Array Value) (o0 : IntsQ .u64 W [.slice a0 len0 cap0]) (o1 : PlQ W cs1.toList) (o2 : BytesQ W [.slice a2 len2 cap2]) (o3 : PlQ W cs3.toList) :
    Calls Try.prog 3 #[.slice a0 len0 cap0, .agg cs1, .slice a2 len2 cap2, .agg cs3] W (Gives (.bool true) fun w' => Ext no W w') := by
  obtain ⟨_, _, d, e, hdc, _, hd, hdw⟩ := o0
  cases e
  obtain ⟨_, _, p, e, hpc, _, hp⟩ := o2
  cases e
  obtain ⟨cs1⟩ := cs1
  obtain ⟨cs3⟩ := cs3
  obtain ⟨pw, pi, pe, e1⟩ := o1
  obtain ⟨qw, qi, qe, e3⟩ := o3
  have e1 : cs1 = _ := e1
  have e3 : cs3 = _ := e3
  subst e1 e3
  have tg0 : Tags W fun _ => none := fun b j _ h => by cases h
  have hd0 : Row W (fun _ => none) a0 (d.map u64V) := ⟨hd, fun _ _ _ => rfl⟩
  have hp0 : Row W (fun _ => none) a2 (bytesV p) := ⟨hp, fun _ _ _ => rfl⟩
  refine (Q04.go a0 d.length cap0 pw pi pe a2 p.length cap2 qw qi qe (R := fun v w' => v = .bool true ∧ Ext no W w') ?_).mono fun x w' ⟨v, he, hv, X⟩ => ⟨by rw [he, hv], X⟩
  unfold Q04.N
  refine ⟨fun _ w10 X => live14 (Step.of_no X tg0), fun hd50 => ⟨fun _ w10 X => live14 (Step.of_no X tg0), fun hp15 => ⟨fun _ w10 X => live14 (Step.of_no X tg0), fun he0 => ⟨fun _ w10 X => live14 (Step.of_no X tg0), fun he2 w10 p1 p2 X10 hp10 => ?_⟩⟩⟩⟩
  obtain ⟨s10, M10⟩ := Step.priv X10 hp10 tg0
  refine (Q2O (d := d) (many := 3) s10.ok (hd0.step s10) hdc (fun x hx => wf_u64 (hdw x hx)) (by omega) (by decide)).mono fun x w39 ⟨q, o39, he, B, X, S, R, K, O, hq, s39, A39, I, hov⟩ => ⟨_, he, M10.keep s39 (fun _ _ => id), fun h => (by cases h), fun _ => ⟨_, rfl, ?_⟩⟩
  subst hq
  have hus := I.used (by decide)
  have M39 := M10.step s39
  have t39 := s10.trans s39
  have hov0 : ∀ {j}, j = B.k → W.heap.size ≤ j := fun h => by have := hov.k; have := s10.size; omega
  refine ⟨_, A39.bk.celli 0 rfl rfl, _, A39.bk.celli 2 rfl rfl, fun w41 X41 => ?_⟩
  have s41 := Step.of_no X41 s39.ok
  have A41 := A39.no s41
  have M41 := M39.step s41
  have hkM : ∀ y ∈ [p1, p2], ¬ y = B.k := fun y hy e => by
    have h1 := (hp10 y hy).2
    have h2 := hov.k
    omega
  refine (Q3W A41.a A41.orc s41.ok I.pi.ki.inv.ok (by omega) pw pi pe ((hp0.step t39).step s41) (by omega)).mono fun x w50 ⟨o50, ba, bc, he, s50, r50, hbc, P50⟩ => ⟨_, _, _, _, he, M41.keep s50 hkM, fun hbad => ?_, fun hgood => ?_⟩
  · have t50 := ((t39.trans s41).trans' s50 fun a ha => .inr (hov0 ha))
    refine ⟨fun _ => live14 t50, fun h => absurd ?_ h⟩
    rw [Q5N hbad]; rfl
  obtain ⟨g1, g2, g3, g4, g5⟩ := Q50 I.pi.ki (by omega) hgood
  have hsh := Q3r (R := R 0) (w := pw) (i := pi) (e := pe) (p := p) I.pi.ki (by omega)
  have hle : (sealP S (R 0) pw pi pe p).1.1.length ≤ 1032 := by
    have := Q1n (classOf p.length); omega
  have A50 := A41.toOrc s50 P50
  have M50 := M41.step s50
  have t50 : Step no W (fun _ => none) w50 o50 := ((t39.trans s41).trans' s50 fun a ha => .inr (hov0 ha))
  have hp50 := ((hp0.step t39).step s41).step s50
  generalize (sealP S (R 0) pw pi pe p).1.1 = b at *
  generalize (sealP S (R 0) pw pi pe p).2 = S2 at *
  have hpl : 0 ≤ pw ∧ pw < 8 ∧ 0 ≤ pi ∧ pi < 200 ∧ 0 ≤ pe ∧ pe < 20 := of_decide_eq_true g1
  have hx : keyK (R 1) pe = (0, 11) := Q5H I.x he0 (by omega)
  -- what is opened where it was sealed
  have oa : ∀ (pv : Int) {w1 : World} {o1 : Own} {Q : World → Own → Prop}, (pv = 0 ↔ pi = 0) → RmG w1 o1 B S2 S (4 + 10 * 3) (R 0) (R 1) (R 0) → Tags w1 o1 → Row w1 o1 ba (bytesV b) →
      Calls Try.prog 9 #[.pointer (some (blk B.k)), .pointer (some (blk B.a)), .agg #[.int .i64 pw, .int .i64 pi, .int .u64 pv, .int .i64 1, .int .i64 pw, .int .i64 pe, .slice ba b.length bc, .int .u64 0]] w1 (Gb no w1 o1 (p, 0) fun _ _ => True) := fun pv w1 o1 Q hpv A ok r => by
    have op1 := Q1M (e := ⟨pw, pi, pv, 1, pw, pe, b, 0⟩) (ec := bc) A.a A.orc ok hsh r (by show b.length < 1000000; omega) hbc
    rw [Q2W g4 g5 g1 hpv g2, if_neg (fun h => h rfl), if_neg (fun h => h rfl)] at op1
    exact op1
  have ox : ∀ (pv : Int) {w1 : World} {o1 : Own}, (pv = 0 ↔ pi = 0) → RmG w1 o1 B S2 S (4 + 10 * 3) (R 0) (R 1) (R 0) → Tags w1 o1 → Row w1 o1 ba (bytesV b) →
      Calls Try.prog 9 #[.pointer (some (blk B.k)), .pointer (some (blk B.x)), .agg #[.int .i64 pw, .int .i64 pi, .int .u64 pv, .int .i64 1, .int .i64 pw, .int .i64 pe, .slice ba b.length bc, .int .u64 0]] w1 (Gb no w1 o1 ([], 11) fun _ _ => True) := fun pv w1 o1 hpv A ok r => by
    have op1 := Q1M (e := ⟨pw, pi, pv, 1, pw, pe, b, 0⟩) (ec := bc) A.x A.orc ok hsh r (by show b.length < 1000000; omega) hbc
    have e1 : openP S2 (R 1) ⟨pw, pi, pv, 1, pw, pe, b, 0⟩ = ([], 11) := by
      have hsz := Q1n (classOf p.length)
      have hr : Q1T ⟨pw, pi, pv, 1, pw, pe, b, 0⟩ = true := decide_eq_true (by
        show _ ∧ _ ∧ _ ∧ _ ∧ _ ∧ _ ∧ _ ∧ _ ∧ _ ∧ _ ∧ (pv = 0 ↔ pi = 0)
        exact ⟨hpl.1, hpl.2.1, hpl.2.2.1, hpl.2.2.2.1, by show (-1 : Int) ≤ pe; omega, hpl.2.2.2.2.2, by show (0 : Int) < 1; decide, by show (1 : Int) ≤ 1099511627776; decide, rfl, by show b.length ≤ 1100; omega, hpv⟩)
      unfold openP
      rw [if_pos hr]
      show (if pe < 0 then _ else if (keyK (R 1) pe).2 ≠ 0 then _ else _) = _
      rw [hx, if_neg (by omega), if_pos (by show (11 : Int) ≠ 0; decide)]
    rw [e1] at op1
    exact op1
  have oq : ∀ (pv : Int) {w1 : World} {o1 : Own}, pv = (if qi > 0 then 1 else 0) → RmG w1 o1 B S2 S (4 + 10 * 3) (R 0) (R 1) (R 0) → Tags w1 o1 → Row w1 o1 ba (bytesV b) →
      Calls Try.prog 9 #[.pointer (some (blk B.k)), .pointer (some (blk B.a)), .agg #[.int .i64 qw, .int .i64 qi, .int .u64 pv, .int .i64 1, .int .i64 qw, .int .i64 qe, .slice ba b.length bc, .int .u64 0]] w1 (fun x w' => ∃ o' a c n k, x = .returned (.tuple #[.slice a n c, .int .i64 k]) ∧ Step no w1 o1 w' o' ∧ (k == 0) = decide (qw = pw ∧ qi = pi ∧ qe = pe)) := fun pv w1 o1 hpv A ok r => by
    refine (Q1M (e := ⟨qw, qi, pv, 1, qw, qe, b, 0⟩) (ec := bc) A.a A.orc ok hsh r (by show b.length < 1000000; omega) hbc).mono fun x w' ⟨o', a, c, he, s, _⟩ => ⟨o', a, c, _, _, he, s, ?_⟩
    subst hpv
    rw [Bool.eq_iff_iff, beq_iff_eq, decide_eq_true_eq]
    exact Q6d g4 g5 g1 g2
  refine ⟨fun hi => ?_, fun hi => ?_⟩
  all_goals
    refine ⟨_, A50.bk.celli 0 rfl rfl, _, A50.bk.celli 2 rfl rfl, fun w60 p3 X60 hp60 => ?_⟩
    obtain ⟨s60, M60'⟩ := Step.priv X60 hp60 s50.ok
    have A60 := A50.no s60
    have M60 : Mine [p1, p2, p3] w60 _ := fun y hy => by
      rcases List.mem_cons.1 hy with rfl | hy
      · exact (M50.step s60) _ (by simp)
      · rcases List.mem_cons.1 hy with rfl | hy
        · exact (M50.step s60) _ (by simp)
        · exact M60' _ hy
    refine (oa _ (Q := fun _ _ => True) (by omega) A60 s60.ok (r50.step s60)).mono fun x w69 ⟨o69, ta, tc, he, s69, r69, htc, _⟩ => ⟨_, _, _, _, he, M60.keep s69 (fun _ _ => id), ?_⟩
    have A69 := A60.no s69
    refine ⟨_, A69.bk.celli 0 rfl rfl, _, A69.bk.celli 3 rfl rfl, fun w70 X70 => ?_⟩
    have s70 := Step.of_no X70 s69.ok
    have M70 := (M60.step s69).step s70
    refine (ox _ (by omega) (A69.no s70) s70.ok (((r50.step s60).step s69).step s70)).mono fun x w78 ⟨o78, xa, xc, he, s78, _⟩ => ⟨_, _, _, _, he, M70.keep s78 (fun _ _ => id), fun h => absurd rfl h, fun _ => ?_⟩
    have hp78 := (((hp50.step s60).step s69).step s70).step s78
    refine (sameB_spec ((r69.step s70).step s78).1 hp78.1 (by show p.length < 1000000; omega)).mono fun x w82 ⟨he, X82⟩ => ⟨_, he, X82.kept, fun h => (by simp at h), fun _ => ⟨fun h => absurd rfl h, fun _ => ?_⟩⟩
    have s82 := Step.of_no X82 s78.ok
    have A82 := ((A69.no s70).no s78).no s82
    have M82 := ((M70.step s78).step s82).sub (M := [p1, p2]) (by simp)
    have r82 := ((((r50.step s60).step s69).step s70).step s78).step s82
    have t82 := ((((t50.trans s60).trans s69).trans s70).trans s78).trans s82
    refine ⟨fun hq => ?_, fun hq => ?_⟩
    all_goals
      refine ⟨_, A82.bk.celli 0 rfl rfl, _, A82.bk.celli 2 rfl rfl, fun w94 X94 => ?_⟩
      have s94 := Step.of_no X94 s82.ok
      refine (oq _ (by first | rw [if_pos hq] | rw [if_neg (by omega)]) (A82.no s94) s94.ok (r82.step s94)).mono fun x w103 ⟨o103, a, c, n, k, he, s103, hk⟩ => ⟨_, _, _, _, he, (M82.step s94).keep s103 (fun _ _ => id), fun _ => live14 ((t82.trans s94).trans s103), fun h => absurd hk h⟩
section
variable {w w' : World} {o o' : Own} {q k : Nat} {S : OS} {R : Rng}
end
end Go.Proofs.Ytgeakpldocfccaa
