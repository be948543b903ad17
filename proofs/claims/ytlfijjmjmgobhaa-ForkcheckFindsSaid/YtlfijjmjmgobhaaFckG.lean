/- ForkcheckFinds: what the law's function answers. -/
import Derived.Test.YtlfijjmjmgobhaaFckF
set_option linter.unusedVariables false
set_option linter.unusedSimpArgs false
set_option maxRecDepth 20000
set_option maxHeartbeats 2000000
namespace Go.Proofs.Ytlfijjmjmgobhaa
open Go Go.Mx Go.Proofs
open W (OwnB GivesW numR countR doneR zig unzig intR)
theorem ForkcheckFinds_spec (w : World) {aa ba sa : Option Addr} {ac bc sc : Nat} {l1 l2 : List PE} {hw hl hs : Int} {xs : List Int} (h1 : RowAt w aa (PE.Cs l1)) (h2 : RowAt w ba (PE.Cs l2)) (k1 : ∀ p ∈ l1, RowAt w p.a (bytesV p.e.body) ∧ p.e.body.length ≤ p.c ∧ p.e.fit) (k2 : ∀ p ∈ l2, RowAt w p.a (bytesV p.e.body) ∧ p.e.body.length ≤ p.c ∧ p.e.fit) (h3 : RowAt w sa (xs.map u64V)) :
    Calls Try.prog 4 #[.slice aa l1.length ac, .slice ba l2.length bc, .agg #[.int .i64 hw, .int .i64 hl, .int .u64 hs], .slice sa xs.length sc] w (Ret (.bool true) fun w' => Ext no w w') := by
  refine cachettelaw23_ForkcheckFinds.run aa l1.length ac ba l2.length bc hw hl hs sa xs.length sc ?_
  unfold cachettelaw23_ForkcheckFinds.N
  have hal : ∀ w1, Ext no w w1 → Calls Try.prog 9 #[] w1 fun e w' => ∃ v : Bool, e = .returned (.bool v) ∧ (fun v w' => v = Value.bool true ∧ Ext no w w') (.bool v) w' := fun w1 hx =>
    (alive23_spec w1).mono fun e w' ⟨he, hw⟩ => ⟨true, he, rfl, hx.trans hw⟩
  refine ⟨fun h w7 X => hal _ X, fun g1 => ⟨fun h w7 X => hal _ X, fun g2 => ⟨fun h w7 X => hal _ X, fun g3 w7 p23 X7 hp => ?_⟩⟩⟩
  have ok0 : Tags w (fun _ => none) := fun b j _ h => by cases h
  have s7 := Step.of_no X7 ok0
  have F7 : Free [p23] w7 (grow w fun _ => none) := Free.of hp
  refine (short_spec (l := l1) (c := ac) (h1.no X7) (by omega)).mono fun v w26 ⟨hx, hw'⟩ => ⟨_, hx, by subst hw'; exact Keep.refl _ _, fun h => by subst hw'; exact hal _ X7, fun hs1 => ?_⟩
  subst hw'
  refine (short_spec (l := l2) (c := bc) (h2.no X7) (by omega)).mono fun v w33 ⟨hx, hw'⟩ => ⟨_, hx, by subst hw'; exact Keep.refl _ _, fun h => by subst hw'; exact hal _ X7, fun hs2 => ?_⟩
  subst hw'
  rw [List.all_eq_true] at hs1 hs2
  have r1 : Row w (fun _ => none) aa (PE.Cs l1) := ⟨h1, fun _ _ _ => rfl⟩
  have r2 : Row w (fun _ => none) ba (PE.Cs l2) := ⟨h2, fun _ _ _ => rfl⟩
  have q1 : ∀ p ∈ l1, p.ok w (fun _ => none) ∧ p.e.body.length ≤ 1500 := fun p hp => ⟨⟨⟨(k1 p hp).1, fun _ _ _ => rfl⟩, (k1 p hp).2⟩, of_decide_eq_true (hs1 p hp)⟩
  have q2 : ∀ p ∈ l2, p.ok w (fun _ => none) ∧ p.e.body.length ≤ 1500 := fun p hp => ⟨⟨⟨(k2 p hp).1, fun _ _ _ => rfl⟩, (k2 p hp).2⟩, of_decide_eq_true (hs2 p hp)⟩
  refine (Find_spec (ac := ac) (bc := bc) s7.ok (r1.step s7) (r2.step s7) (fun p hp => ⟨(q1 p hp).1.step s7, by have := (q1 p hp).2; omega⟩) (fun p hp => ⟨(q2 p hp).1.step s7, by have := (q2 p hp).2; omega⟩) (by omega) (by omega)).mono fun v w56 ⟨o56, pv, hx, s56', hP⟩ => ?_
  generalize hF : findP (l1.map PE.e) (l2.map PE.e) = F at *
  have hb15 : F.1.1.body.length < 1000000 ∧ F.1.2.body.length < 1000000 := by
    rw [← hF]
    have : ∀ (l r : List Ent), (∀ e ∈ l, e.body.length < 1000000) → (∀ e ∈ r, e.body.length < 1000000) → (findP l r).1.1.body.length < 1000000 ∧ (findP l r).1.2.body.length < 1000000 := by
      intro l
      induction l with
      | nil => intro r _ _; exact ⟨by show (0 : Nat) < _; decide, by show (0 : Nat) < _; decide⟩
      | cons a l ih =>
        intro r h1 h2
        cases r with
        | nil => exact ⟨by show (0 : Nat) < _; decide, by show (0 : Nat) < _; decide⟩
        | cons b r =>
          show (if a = b then findP l r else ((a, b), true)).1.1.body.length < _ ∧ (if a = b then findP l r else ((a, b), true)).1.2.body.length < _
          split
          · exact ih r (fun e he => h1 e (List.mem_cons_of_mem _ he)) (fun e he => h2 e (List.mem_cons_of_mem _ he))
          · exact ⟨h1 a List.mem_cons_self, h2 b List.mem_cons_self⟩
    refine this _ _ (fun e he => ?_) (fun e he => ?_)
    · obtain ⟨p, hp, rfl⟩ := List.mem_map.1 he; have := (q1 p hp).2; omega
    · obtain ⟨p, hp, rfl⟩ := List.mem_map.1 he; have := (q2 p hp).2; omega
  obtain ⟨xa, xc, ya, yc, rfl, rx, ry, lx, ly⟩ := hP
  refine ⟨_, _, _, _, _, _, _, _, _, _, _, _, _, _, _, _, _, _, _, _, _, hx, F7.keep s56', fun w73 p74 X73 hp74 => ?_⟩
  have s56 := s7.trans s56'
  have s73' := Step.of_no X73 s56.ok
  have s73 := s56.trans s73'
  have F73 : Free [p23, p74] w73 (grow w56 o56) := ((F7.step s56').step s73').app (M := [p74]) (Free.of hp74)
  refine (rFind_spec (ac := ac) (bc := bc) s73.ok (r1.step s73) (r2.step s73) (fun p hp => ⟨(q1 p hp).1.step s73, by have := (q1 p hp).2; omega⟩) (fun p hp => ⟨(q2 p hp).1.step s73, by have := (q2 p hp).2; omega⟩) (by omega) (by omega)).mono fun v w93 ⟨o93, pv, hx, s93', hP⟩ => ?_
  rw [hF] at hx hP
  obtain ⟨ua, uc, va, vc, rfl, ru, rv, lu, lv⟩ := hP
  refine ⟨_, _, _, _, _, _, _, _, _, _, _, _, _, _, _, _, _, _, _, _, _, hx, F73.keep s93', fun w111 p112 X111 hp112 => ?_⟩
  have s93 := s73.trans s93'
  have s111' := Step.of_no X111 s93.ok
  have s111 := s93.trans s111'
  refine (back_spec (w := w111) (a := F.1.1) (aa := xa) (ac := xc) (b := F.1.2) (ba := ya) (bc := yc)).mono fun v w130 ⟨hx, X130⟩ => ⟨_, _, _, _, _, _, _, _, _, _, _, _, _, _, _, _, _, _, _, _, hx, X130.kept, ?_⟩
  have s130' := Step.of_no X130 s111.ok
  have sx := ((s73'.trans s93').trans s111').trans s130'
  have su := s111'.trans s130'
  refine (rPSame_spec (a := F.1.1) (b := F.1.2) (c := F.1.1) (d := F.1.2) (rx.step sx).1 (ry.step sx).1 (ru.step su).1 (rv.step su).1 hb15.1 hb15.2).mono fun v w133 ⟨hx, X133⟩ => ⟨_, hx, X133.kept, fun _ => ⟨fun _ => ?_, fun h => absurd rfl h⟩, fun h => by simp at h⟩
  have s133 := (s111.trans s130').trans (Step.of_no X133 s130'.ok)
  have hsp : ∀ {w1 : World} {o1 : Own}, Step no w (fun _ => none) w1 o1 → Ext no w w1 := fun s => s.ext.mono fun b ⟨_, h, _⟩ _ => by cases h
  refine (Odd_spec (n := l1.length) (la := aa) (lc := ac) (hw := hw) (len := hl) (sum := hs) (sc := sc) (by omega) (h3.no (hsp s133))).mono fun v w138 ⟨hx, X138⟩ => ⟨_, hx, X138.kept, ?_⟩
  have X := (hsp s133).trans X138
  refine (rOdd_spec (n := l1.length) (la := aa) (lc := ac) (hw := hw) (len := hl) (sum := hs) (sc := sc) (by omega) (h3.no X)).mono fun v w141 ⟨hx, X141⟩ => ⟨_, hx, fun _ => hal _ (X.trans X141), fun h => absurd rfl h⟩
theorem ForkcheckFinds_walk (W : World) (a0 : Option Addr) (len0 cap0 : Nat) (a1 : Option Addr) (len1 cap1 : Nat) (cs2 : Array Value) (a3 : Option Addr) (len3 cap3 : Nat) (o0 : EntsQ W [.slice a0 len0 cap0]) (o1 : EntsQ W [.slice a1 len1 cap1]) (o2 : HeadIn W cs2.toList) (o3 : IntsQ .u64 W [.slice a3 len3 cap3]) :
    Calls Try.prog 4 #[.slice a0 len0 cap0, .slice a1 len1 cap1, .agg cs2, .slice a3 len3 cap3] W (Ret (.bool true) fun w' => Ext no W w') := by
  obtain ⟨_, _, l1, e0, _, _, r0, f0⟩ := o0
  cases e0
  obtain ⟨_, _, l2, e1, _, _, r1, f1⟩ := o1
  cases e1
  obtain ⟨n0, n1, n2, h2, _⟩ := o2
  obtain ⟨_, _, xs, e3, _, _, r3, _⟩ := o3
  cases e3
  obtain rfl : cs2 = #[.int .i64 n0, .int .i64 n1, .int .u64 n2] := Array.ext' h2
  exact ForkcheckFinds_spec W r0 r1 (fun p hp => ⟨(f0 p hp).1, (f0 p hp).2.1, (f0 p hp).2.2.1⟩) (fun p hp => ⟨(f1 p hp).1, (f1 p hp).2.1, (f1 p hp).2.2.1⟩) r3
end Go.Proofs.Ytlfijjmjmgobhaa
