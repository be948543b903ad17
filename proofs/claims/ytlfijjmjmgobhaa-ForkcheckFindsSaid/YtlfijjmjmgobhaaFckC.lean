/- Forkcheck: the chapter's example. -/
import Derived.Test.YtlfijjmjmgobhaaFckB
set_option linter.unusedVariables false
set_option linter.unusedSimpArgs false
set_option maxRecDepth 20000
set_option maxHeartbeats 2000000
namespace Go.Proofs.Ytlfijjmjmgobhaa
open Go Go.Mx Go.Proofs
open W (OwnB GivesW numR countR doneR zig unzig intR)
def exA : Ent := ⟨0, 0, 0, 1, 0, 0, [120], 0⟩
def exB : Ent := ⟨0, 0, 0, 1, 0, 0, [121], 0⟩
theorem ex_fact : ∃ S1 S2 S3 : OS, ∃ x y : Ent, pairOf (OS.init []) = ((1, 2), S1) ∧ signE S1 1 exA = ((x, 0), S2) ∧ signE S2 1 exB = ((y, 0), S3) ∧ x.fit ∧ y.fit ∧ x.body.length = 1 ∧ y.body.length = 1 ∧ checkP (holdsE S3 2) x y = 0 ∧ checkP (holdsE S3 2) x x = 8 :=
  ⟨_, _, _, { exA with sg := 3 }, { exB with sg := 4 }, rfl, rfl, rfl, ⟨by decide, by decide, by decide, by decide⟩, ⟨by decide, by decide, by decide, by decide⟩, rfl, rfl, by decide, by decide⟩
theorem alive23_spec (w : World) : Calls Try.prog 9 #[] w (Ret (.bool true) fun w' => Ext no w w') := by
  refine cachettelaw23_alive.run ?_
  unfold cachettelaw23_alive.N
  obtain ⟨S1, S2, S3, x, y, f1, f2, f3, fx, fy, bx, by', f4, f5⟩ := ex_fact
  have ok0 : Tags w (fun _ => none) := fun b j _ h => by cases h
  refine (NewO (l := []) (c := 0) ok0 (RowAt.nil _ _) (by simp)).mono fun v w3 ⟨k, o3, hx, hk, s3, P3⟩ => ⟨_, hx, ?_⟩
  have i0 : OInv (OS.init []) := OInv.init (by simp)
  have nk : ∀ {w1 w2 : World} {o1 o2 : Own}, Step no w (fun _ => none) w1 o1 → Step (fun i => i = k) w1 o1 w2 o2 → Step no w (fun _ => none) w2 o2 := fun h1 h2 => h1.trans' h2 fun i hi => .inr (by omega)
  refine (PairO P3 s3.ok i0.ok (by decide)).mono fun v w7 ⟨o7, hx, s7', P7⟩ => ⟨_, _, hx, ?_⟩
  have i1 := (pair_inv i0).1
  have u1 := (pairOf_ok i0.ok).2
  rw [f1] at P7 i1 u1 ⊢
  dsimp only at u1
  have s7 := nk s3 s7'
  intro w8 q9 X8 hb9 hq9 hq9'
  obtain ⟨w11, hc11, hr11, X11⟩ := litB Try.underlying26 Try.underlying5 [120] X8 hb9 hq9
  refine ⟨_, _, _, w11, hc11, ?_⟩
  have s11' := Step.of_no X11 s7.ok
  have s11 := s7.trans s11'
  have rA : Row w11 (grow w7 o7) (some (blk q9)) (bytesV exA.body) := Row.fresh hr11 fun ad ha => by cases ha; exact hq9
  refine (SignE (P7.step s11' id) s11.ok i1.ok (by have : (OS.init []).used.length = 0 := rfl; show S1.used.length < 1000000; omega) 1 (e := exA) (fun _ => ⟨by decide, by decide, by decide, by decide⟩) rA).mono fun v w22 ⟨o22, xa, xc, hx, s22', P22, rx, lx⟩ => ⟨_, _, _, _, _, _, _, _, _, _, _, hx, ?_⟩
  have i2 := esign_inv i1 1 exA
  have u2 := (signOf_ok i1.ok 1 (textL exA)).2
  have e2 : (signE S1 1 exA).2.used.length ≤ S1.used.length + 1 := by
    unfold signE
    split
    · split <;> exact u2
    · exact Nat.le_succ _
  rw [f2] at P22 rx lx i2 e2 ⊢
  dsimp only at e2
  have s22 := nk s11 s22'
  intro w32 q33 p34 X32 hb33 hq33 hq33' hp34
  have g34 := hp34 p34 (by simp)
  obtain ⟨w36, hc36, hr36, X36⟩ := litB Try.underlying26 Try.underlying5 [121] X32 hb33 hq33
  have k36 : Keep [p34] w32 w36 := fun p hp hl => by
    rw [show p = p34 by simpa using hp] at hl ⊢
    have e := hc36.symm.trans (conv_mark (P := Try.prog) (t := 26) Try.underlying26 Try.underlying5 (n := 1) (c := 1) hb33)
    injection e with _ e
    rw [e]
    exact ((Ext.refl (fun b => b = q33) w32).freeze (x := ⟨q33, _, none⟩) (.inl rfl) 1).block p34 hl (by omega)
  refine ⟨_, _, _, w36, hc36, k36, ?_⟩
  have s36' := Step.of_no X36 s22.ok
  have s36 := s22.trans s36'
  have l36 := X36.size
  have F36 : Free [p34] w36 (grow w22 o22) := fun p hp => by
    rw [show p = p34 by simpa using hp]
    refine ⟨?_, grow_ge g34.1⟩
    have hl := hr36.lt (by simp [bytesV]) rfl
    have : (blk q33).block = q33 := rfl
    omega
  have rB : Row w36 (grow w22 o22) (some (blk q33)) (bytesV exB.body) := Row.fresh hr36 fun ad ha => by cases ha; exact hq33
  refine (SignE (P22.step s36' id) s36.ok i2.ok (by have : (OS.init []).used.length = 0 := rfl; show S2.used.length < 1000000; omega) 1 (e := exB) (fun _ => ⟨by decide, by decide, by decide, by decide⟩) rB).mono fun v w47 ⟨o47, ya, yc, hx, s47', P47, ry, ly⟩ => ⟨_, _, _, _, _, _, _, _, _, _, _, hx, F36.keep s47', fun w56 p57 X56 hp57 => ?_⟩
  rw [f3] at P47 ry ly ⊢
  have s47 := nk s36 s47'
  have F47 := F36.step s47'
  have s56' := Step.of_no X56 s47.ok
  have s56 := s47.trans s56'
  have F56 : Free [p34, p57] w56 (grow w47 o47) := (F47.step s56').app (M := [p57]) (Free.of hp57)
  refine (NewAlarm_spec s56.ok).mono fun v w60 ⟨j, o60, hx, hj, s60', A60⟩ => ⟨_, hx, F56.keep s60', ?_⟩
  have s60 := s56.trans s60'
  have F60 := (F56.step s60').sub (M := [p34]) (by simp)
  have P60 := (P47.step s56' id).step s60' id
  have rx60 := (((rx.step s36').step s47').step s56').step s60'
  have ry60 := (ry.step s56').step s60'
  have hkj : k ≠ j := by
    have := P47.lt
    have := X56.size
    omega
  refine (Raise_spec (a := x) (b := y) A60 P60 s60.ok hkj 2 (fun _ => fx) (fun _ => fy) rx60 ry60 (by omega) (by omega)).mono fun v w63 ⟨o63, hx, s63', A63⟩ => ⟨_, hx, F60.keep s63', fun _ => ⟨fun _ => ⟨fun hr => ?_, fun hr => ?_⟩, fun h => absurd rfl h⟩, fun h => absurd rfl h⟩
  · have hra : raiseP S3 2 [] x y = (0, aput [] x.w (x, y)) := by unfold raiseP; rw [if_pos f4]; rfl
    rw [hra] at A63
    have s63 := s60.trans' s63' fun i hi => .inr (by have := s56.size; omega)
    refine (On_spec A63).mono fun v w69 ⟨he, hw⟩ => ⟨_, he, by subst hw; exact Keep.refl _ _, fun _ => ?_, fun h => by simp [aput] at h⟩
    subst hw
    refine (Check_spec (a := x) (b := x) (P60.step s63' hkj) s63.ok 2 (fun _ => fx) (fun _ => fx) (rx60.step s63').1 (rx60.step s63').1).mono fun v w73 ⟨he, X73⟩ => ⟨_, he, ?_, ?_⟩
    · rw [f5]; rfl
    · exact (s63.ext.mono fun b ⟨_, h, _⟩ _ => by cases h).trans X73
  · have hra : raiseP S3 2 [] x y = (0, aput [] x.w (x, y)) := by unfold raiseP; rw [if_pos f4]; rfl
    rw [hra] at hr
    exact absurd rfl hr
end Go.Proofs.Ytlfijjmjmgobhaa
