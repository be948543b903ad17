/- VectorBytes: what the law's function answers, whole. -/
import Derived.Test.YtifplncikohlpaaVecJ
set_option linter.unusedVariables false
set_option linter.unusedSimpArgs false
set_option maxRecDepth 20000
namespace Go.Proofs.Ytifplncikohlpaa
open Go Go.Mx Go.Proofs
open W (OwnB Rd GivesW numR countR doneR)
theorem VectorBytes_spec (w : World) {va ba : Option Addr} {vc bc : Nat} {v : List Hd} {b : List UInt8} (hv : RowAt w va (hsC v)) (hfit : ∀ h ∈ v, 0 ≤ h.2.2 ∧ h.2.2 < 18446744073709551616) (hb : RowAt w ba (bytesV b)) (hbc : b.length ≤ bc) :
    Calls Try.prog 4 #[.slice va v.length vc, .slice ba b.length bc] w (GivesV (.bool true) fun w' => Ext no w w') := by
  refine (lBytes.ok _ _ _ _ _ _ (R := fun v w' => v = .bool true ∧ Ext no w w') ?_).mono fun e w' ⟨v, he, hv, hw⟩ => ⟨by rw [he, hv], hw⟩
  unfold lBytes.M
  have hal : ∀ w1, Ext no w w1 → Calls Try.prog 7 #[] w1 fun e w' => ∃ v : Bool, e = .returned (.bool v) ∧ (fun v w' => v = Value.bool true ∧ Ext no w w') (.bool v) w' := fun w1 hx =>
    (alive5_spec w1).mono fun e w' ⟨he, hw⟩ => ⟨true, he, rfl, hx.trans hw⟩
  refine thenW_in fun w3 h3 => ?_
  have x3 : Ext no w w3 := by subst h3; exact (Ext.refl _ _).alloc _
  have hrow : RowAt w3 (some (blk w.heap.size)) (([(va, v.length, vc)] : List (Option Addr × Nat × Nat)).map fun p => Value.slice p.1 p.2.1 p.2.2) := by
    subst h3; exact RowAt.of_blk (Blk.new w 22 _)
  refine (light_spec (l := [(va, v.length, vc)]) (lc := 1) hrow (by simp)).mono fun e w6 ⟨he, hw⟩ => ⟨_, he, ?_⟩
  subst hw
  by_cases hl : (([(va, v.length, vc)] : List (Option Addr × Nat × Nat)).all fun p => decide (p.2.1 ≤ 30)) = true
  · rw [hl, Bool.not_true, cond_false]
    simp only [List.all_cons, List.all_nil, Bool.and_true, decide_eq_true_eq] at hl
    by_cases h5 : (b.length : Int) > 500
    · rw [decide_eq_true h5, cond_true]; exact hal _ x3
    rw [decide_eq_false h5, cond_false]
    have hnat : rightV v = true → ∀ h ∈ v, natH h := fun hr h hh => rhead_nat (rightF_head hr h hh) (hfit h hh)
    refine (vBytes_spec (hv.no x3) (by omega) hnat).mono fun e w16 ⟨x16', hor⟩ => ?_
    have x16 := x3.trans x16'
    rcases hor with ⟨hr, he⟩ | ⟨hr, xa, xc, he, hX⟩
    · refine ⟨_, _, _, _, he, ?_⟩
      refine (rBytes5_spec (hv.no x16) (by omega) hnat).mono fun e w20 ⟨x20', hor⟩ => ?_
      rcases hor with ⟨_, he⟩ | ⟨hr2, _⟩
      · refine ⟨_, _, _, _, he, ?_⟩
        have XX := x16.trans x20'
        have hread := vRead_spec (c := bc) (hb.no XX) hbc (by omega)
        refine hread.mono fun e w24 ⟨ra, rc, he, hra, x24'⟩ => ⟨ra, _, rc, _, he, ?_⟩
        have x24 := Ext.trans XX x24'
        refine (rRead_spec (c := bc) (hb.no x24) hbc (by omega)).mono fun e w28 ⟨sa, sc, he, hsa, x28'⟩ => ⟨sa, _, sc, _, he, ?_⟩
        have x28 := x24.trans x28'
        refine (sameB_spec (x := []) (y := []) (c := 0) (d := 0) (RowAt.nil _ none) (RowAt.nil _ none) (by decide)).mono fun e w31 ⟨he, x31'⟩ => ⟨_, he, ?_⟩
        rw [decide_eq_true rfl, cond_true, show ((_ : Int) == _) = true from beq_self_eq_true _, cond_true]
        have hl8 : (readV b).1.length < 1000000 := by
          by_cases hk : (readV b).2 = 0
          · have := right_len (readV_back hk).1; omega
          · rw [readV_none hk]; decide
        refine (same5_spec (OwnH.row (hra.ext x28' (fun _ _ h => h)) |>.no x31') (hsa.row.no x31') hl8).mono fun e w34 ⟨he, x34'⟩ => ⟨_, he, ?_⟩
        rw [decide_eq_true rfl, cond_true, beq_self_eq_true, cond_true]
        exact hal _ ((x28.trans x31').trans x34')
      · rw [hr] at hr2; cases hr2
    · refine ⟨_, _, _, _, he, ?_⟩
      refine (rBytes5_spec (hv.no x16) (by omega) hnat).mono fun e w20 ⟨x20', hor⟩ => ?_
      rcases hor with ⟨hr2, _⟩ | ⟨_, ya, yc, he, hY⟩
      · rw [hr] at hr2; cases hr2
      · refine ⟨_, _, _, _, he, ?_⟩
        have XX := x16.trans x20'
        have hread := vRead_spec (c := bc) (hb.no XX) hbc (by omega)
        refine hread.mono fun e w24 ⟨ra, rc, he, hra, x24'⟩ => ⟨ra, _, rc, _, he, ?_⟩
        have x24 := Ext.trans XX x24'
        refine (rRead_spec (c := bc) (hb.no x24) hbc (by omega)).mono fun e w28 ⟨sa, sc, he, hsa, x28'⟩ => ⟨sa, _, sc, _, he, ?_⟩
        have x28 := x24.trans x28'
        refine (sameB_spec (((W.OwnB.row hX).no x20').no x24' |>.no x28') ((W.OwnB.row hY).no x24' |>.no x28') (vecL_le (by omega))).mono fun e w31 ⟨he, x31'⟩ => ⟨_, he, ?_⟩
        rw [decide_eq_true rfl, cond_true, show ((_ : Int) == _) = true from beq_self_eq_true _, cond_true]
        have hl8 : (readV b).1.length < 1000000 := by
          by_cases hk : (readV b).2 = 0
          · have := right_len (readV_back hk).1; omega
          · rw [readV_none hk]; decide
        refine (same5_spec (OwnH.row (hra.ext x28' (fun _ _ h => h)) |>.no x31') (hsa.row.no x31') hl8).mono fun e w34 ⟨he, x34'⟩ => ⟨_, he, ?_⟩
        rw [decide_eq_true rfl, cond_true, beq_self_eq_true, cond_true]
        exact hal _ ((x28.trans x31').trans x34')
  · rw [show (([(va, v.length, vc)] : List (Option Addr × Nat × Nat)).all fun p => decide (p.2.1 ≤ 30)) = false by simpa using hl, Bool.not_false, cond_true]
    exact hal _ x3
theorem VectorBytes_walk (W : World) (a0 : Option Addr) (len0 cap0 : Nat) (a1 : Option Addr) (len1 cap1 : Nat) (o0 : HeadsQ W [.slice a0 len0 cap0]) (o1 : BytesQ W [.slice a1 len1 cap1]) :
    Calls Try.prog 4 #[.slice a0 len0 cap0, .slice a1 len1 cap1] W (GivesV (.bool true) fun w' => Ext no W w') := by
  obtain ⟨_, _, v, e0, _, _, r0, f0⟩ := o0
  obtain ⟨_, _, b, e1, g1, _, r1⟩ := o1
  cases e0; cases e1
  exact VectorBytes_spec W r0 (fun h hh => wf_u64 (f0 h hh).2.2) r1 g1
end Go.Proofs.Ytifplncikohlpaa
