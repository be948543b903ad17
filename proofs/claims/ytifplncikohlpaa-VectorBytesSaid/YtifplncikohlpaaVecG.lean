/- VectorBack: what the law's function answers. -/
import Derived.Test.YtifplncikohlpaaVecF
set_option linter.unusedVariables false
set_option linter.unusedSimpArgs false
set_option maxRecDepth 20000
namespace Go.Proofs.Ytifplncikohlpaa
open Go Go.Mx Go.Proofs
open W (OwnB Rd GivesW numR countR doneR)
/-- cachettelaw05.VectorBack -/
def lBack.M (v1a : Option Addr) (v1n : Nat) (v1c : Nat) (b2a : Option Addr) (b2n : Nat) (b2c : Nat) (R : Value → World → Prop) (w : World) : Prop :=
  thenW (w.alloc (.cells #[.slice v1a v1n v1c] 22)) fun ww3 =>
  Calls Try.prog 6 #[.slice (some (blk w.heap.size)) 1 1] ww3 fun ee5 ww6 => ∃ (light4 : Bool), ee5 = .returned (.bool light4) ∧
  bif !light4 then (
  Calls Try.prog 7 #[] ww6 fun ee8 ww9 => ∃ (alive7 : Bool), ee8 = .returned (.bool alive7) ∧
  R (.bool alive7) ww9) else (
  bif decide ((b2n : Int) > 500) then (
  Calls Try.prog 7 #[] ww6 fun ee11 ww12 => ∃ (alive10 : Bool), ee11 = .returned (.bool alive10) ∧
  R (.bool alive10) ww12) else (
  Calls Try.prog 11 #[.slice v1a v1n v1c] ww6 fun ee15 ww16 => ∃ (bytes13a : Option Addr) (bytes13n : Nat) (bytes13c : Nat) (bytes14 : Int), ee15 = .returned (.tuple #[.slice bytes13a bytes13n bytes13c, .int .i64 bytes14]) ∧
  Calls Try.prog 9 #[.slice v1a v1n v1c] ww16 fun ee18 ww19 => ∃ (right17 : Bool), ee18 = .returned (.bool right17) ∧
  bif !((bytes14 == 0) == right17) then (
  R (.bool false) ww19) else (
  bif bytes14 == 0 then (
  Calls Try.prog 13 #[.slice bytes13a bytes13n bytes13c] ww19 fun ee22 ww23 => ∃ (read20a : Option Addr) (read20n : Nat) (read20c : Nat) (read21 : Int), ee22 = .returned (.tuple #[.slice read20a read20n read20c, .int .i64 read21]) ∧
  bif read21 != 0 then (
  R (.bool false) ww23) else (
  Calls Try.prog 16 #[.slice read20a read20n read20c, .slice v1a v1n v1c] ww23 fun ee25 ww26 => ∃ (same24 : Bool), ee25 = .returned (.bool same24) ∧
  bif !same24 then (
  R (.bool false) ww26) else (
  Calls Try.prog 13 #[.slice b2a b2n b2c] ww26 fun ee29 ww30 => ∃ (read27a : Option Addr) (read27n : Nat) (read27c : Nat) (read28 : Int), ee29 = .returned (.tuple #[.slice read27a read27n read27c, .int .i64 read28]) ∧
  bif read28 != 0 then (
  bif (read27n : Int) == 0 then (
  Calls Try.prog 7 #[] ww30 fun ee32 ww33 => ∃ (alive31 : Bool), ee32 = .returned (.bool alive31) ∧
  R (.bool alive31) ww33) else (
  R (.bool false) ww30)) else (
  Calls Try.prog 11 #[.slice read27a read27n read27c] ww30 fun ee36 ww37 => ∃ (bytes34a : Option Addr) (bytes34n : Nat) (bytes34c : Nat) (bytes35 : Int), ee36 = .returned (.tuple #[.slice bytes34a bytes34n bytes34c, .int .i64 bytes35]) ∧
  bif bytes35 == 0 then (
  Calls Try.prog 15 #[.slice bytes34a bytes34n bytes34c, .slice b2a b2n b2c] ww37 fun ee39 ww40 => ∃ (same38 : Bool), ee39 = .returned (.bool same38) ∧
  bif same38 then (
  Calls Try.prog 7 #[] ww40 fun ee42 ww43 => ∃ (alive41 : Bool), ee42 = .returned (.bool alive41) ∧
  R (.bool alive41) ww43) else (
  R (.bool false) ww40)) else (
  R (.bool false) ww37))))) else (
  Calls Try.prog 13 #[.slice b2a b2n b2c] ww19 fun ee46 ww47 => ∃ (read44a : Option Addr) (read44n : Nat) (read44c : Nat) (read45 : Int), ee46 = .returned (.tuple #[.slice read44a read44n read44c, .int .i64 read45]) ∧
  bif read45 != 0 then (
  bif (read44n : Int) == 0 then (
  Calls Try.prog 7 #[] ww47 fun ee49 ww50 => ∃ (alive48 : Bool), ee49 = .returned (.bool alive48) ∧
  R (.bool alive48) ww50) else (
  R (.bool false) ww47)) else (
  Calls Try.prog 11 #[.slice read44a read44n read44c] ww47 fun ee53 ww54 => ∃ (bytes51a : Option Addr) (bytes51n : Nat) (bytes51c : Nat) (bytes52 : Int), ee53 = .returned (.tuple #[.slice bytes51a bytes51n bytes51c, .int .i64 bytes52]) ∧
  bif bytes52 == 0 then (
  Calls Try.prog 15 #[.slice bytes51a bytes51n bytes51c, .slice b2a b2n b2c] ww54 fun ee56 ww57 => ∃ (same55 : Bool), ee56 = .returned (.bool same55) ∧
  bif same55 then (
  Calls Try.prog 7 #[] ww57 fun ee59 ww60 => ∃ (alive58 : Bool), ee59 = .returned (.bool alive58) ∧
  R (.bool alive58) ww60) else (
  R (.bool false) ww57)) else (
  R (.bool false) ww54))))))

theorem lBack.eq (v1a : Option Addr) (v1n : Nat) (v1c : Nat) (b2a : Option Addr) (b2n : Nat) (b2c : Nat) (R : Value → World → Prop) (w : World) : mfunc Try.prog [] 5 [.slice v1a v1n v1c, .slice b2a b2n b2c] R w = lBack.M v1a v1n v1c b2a b2n b2c R w := by kernel_rfl
theorem lBack.ok (v1a : Option Addr) (v1n : Nat) (v1c : Nat) (b2a : Option Addr) (b2n : Nat) (b2c : Nat) {R : Value → World → Prop} {w : World} (h : lBack.M v1a v1n v1c b2a b2n b2c R w) : Calls Try.prog 5 #[.slice v1a v1n v1c, .slice b2a b2n b2c] w fun e w' => ∃ v, e = .returned v ∧ R v w' :=
  mfunc_ok follows (H := []) (args := [.slice v1a v1n v1c, .slice b2a b2n b2c]) (by rw [lBack.eq]; exact h)


theorem vecL_le {hs : List Hd} (h : hs.length ≤ 1000) : (vecL hs).length < 1000000 := by
  have h1 := numL_le hs.length
  have h2 := hdsL_le hs
  unfold vecL
  rw [List.length_append]; omega
theorem VectorBack_spec (w : World) {va ba : Option Addr} {vc bc : Nat} {v : List Hd} {b : List UInt8} (hv : RowAt w va (hsC v)) (hfit : ∀ h ∈ v, 0 ≤ h.2.2 ∧ h.2.2 < 18446744073709551616) (hb : RowAt w ba (bytesV b)) (hbc : b.length ≤ bc) :
    Calls Try.prog 5 #[.slice va v.length vc, .slice ba b.length bc] w (GivesV (.bool true) fun w' => Ext no w w') := by
  refine (lBack.ok _ _ _ _ _ _ (R := fun v w' => v = .bool true ∧ Ext no w w') ?_).mono fun e w' ⟨v, he, hv, hw⟩ => ⟨by rw [he, hv], hw⟩
  unfold lBack.M
  have hal : ∀ w1, Ext no w w1 → Calls Try.prog 7 #[] w1 fun e w' => ∃ v : Bool, e = .returned (.bool v) ∧ (fun v w' => v = Value.bool true ∧ Ext no w w') (.bool v) w' := fun w1 hx =>
    (alive5_spec w1).mono fun e w' ⟨he, hw⟩ => ⟨true, he, rfl, hx.trans hw⟩
  refine thenW_in fun w3 h3 => ?_
  have x3 : Ext no w w3 := by subst h3; exact (Ext.refl _ _).alloc _
  have hrow : RowAt w3 (some (blk w.heap.size)) (([(va, v.length, vc)] : List (Option Addr × Nat × Nat)).map fun p => Value.slice p.1 p.2.1 p.2.2) := by
    subst h3; exact RowAt.of_blk (Blk.new w 22 _)
  refine (light_spec (l := [(va, v.length, vc)]) (lc := 1) hrow (by simp)).mono fun e w6 ⟨he, hw⟩ => ⟨_, he, ?_⟩
  subst hw
  by_cases hl : (([(va, v.length, vc)] : List (Option Addr × Nat × Nat)).all fun p => decide (p.2.1 ≤ 30)) = true
  · rw [hl, Bool.not_true, cond_false]
    simp only [List.all_cons, List.all_nil, Bool.and_true, decide_eq_true_eq] at hl
    by_cases h5 : (b.length : Int) > 500
    · rw [decide_eq_true h5, cond_true]; exact hal _ x3
    rw [decide_eq_false h5, cond_false]
    have hnat : rightV v = true → ∀ h ∈ v, natH h := fun hr h hh => rhead_nat (rightF_head hr h hh) (hfit h hh)
    refine (vBytes_spec (hv.no x3) (by omega) hnat).mono fun e w16 ⟨x16', hor⟩ => ?_
    have x16 := x3.trans x16'
    rcases hor with ⟨hr, he⟩ | ⟨hr, xa, xc, he, hX⟩
    · refine ⟨_, _, _, _, he, ?_⟩
      refine (Right_spec (hv.no x16) (by omega)).mono fun e w19 ⟨he, x19'⟩ => ⟨_, he, ?_⟩
      have x19 := x16.trans x19'
      rw [hr]
      simp only [show ((1 : Int) == 0) = false from rfl, beq_self_eq_true, Bool.not_true, cond_false]
      have XX := x19
      refine (vRead_spec (hb.no XX) hbc (by omega)).mono fun e w30 ⟨ra, rc, he, hra, x30'⟩ => ⟨ra, _, rc, _, he, ?_⟩
      have x30 := Ext.trans XX x30'
      by_cases hk : (readV b).2 ≠ 0
      · rw [show ((readV b).2 != 0) = true by simpa using hk, cond_true, readV_none hk]
        rw [show ((([] : List Hd).length : Int) == 0) = true from rfl, cond_true]
        exact hal _ x30
      have hk := Decidable.not_not.1 hk
      rw [show ((readV b).2 != 0) = false by simpa using hk, cond_false]
      obtain ⟨g1, g2, g3⟩ := readV_back hk
      have g4 := right_len g1
      refine (vBytes_spec hra.row (by omega) (fun _ => g3)).mono fun e w37 ⟨x37', hor⟩ => ?_
      rcases hor with ⟨hf, _⟩ | ⟨_, ya, yc, he, hy⟩
      · rw [g1] at hf; cases hf
      refine ⟨ya, _, yc, 0, he, ?_⟩
      rw [show ((0 : Int) == 0) = true from rfl, cond_true]
      have x37 := x30.trans x37'
      refine (sameB_spec (W.OwnB.row hy) (hb.no x37) (vecL_le (by omega))).mono fun e w40 ⟨he, x40'⟩ => ⟨_, he, ?_⟩
      rw [decide_eq_true g2, cond_true]
      exact hal _ (x37.trans x40')
    · refine ⟨_, _, _, _, he, ?_⟩
      refine (Right_spec (hv.no x16) (by omega)).mono fun e w19 ⟨he, x19'⟩ => ⟨_, he, ?_⟩
      have x19 := x16.trans x19'
      rw [hr]
      simp only [show ((0 : Int) == 0) = true from rfl, beq_self_eq_true, Bool.not_true, cond_false, cond_true]
      have hX19 := W.OwnB.no hX x19'
      refine (vRead_spec (W.OwnB.row hX19) (W.OwnB.le hX19) (vecL_le (by omega))).mono fun e w23 ⟨ra, rc, he, hra, x23'⟩ => ⟨ra, _, rc, _, he, ?_⟩
      have x23 := x19.trans x23'
      rw [readV_write hr hfit] at hra ⊢
      simp only [show ((0 : Int) != 0) = false from rfl, cond_false]
      refine (same5_spec hra.row (hv.no x23) (by show v.length < 1000000; omega)).mono fun e w26 ⟨he, x26'⟩ => ⟨_, he, ?_⟩
      rw [decide_eq_true rfl, Bool.not_true, cond_false]
      have XX := x23.trans x26'
      refine (vRead_spec (hb.no XX) hbc (by omega)).mono fun e w30 ⟨ra, rc, he, hra, x30'⟩ => ⟨ra, _, rc, _, he, ?_⟩
      have x30 := Ext.trans XX x30'
      by_cases hk : (readV b).2 ≠ 0
      · rw [show ((readV b).2 != 0) = true by simpa using hk, cond_true, readV_none hk]
        rw [show ((([] : List Hd).length : Int) == 0) = true from rfl, cond_true]
        exact hal _ x30
      have hk := Decidable.not_not.1 hk
      rw [show ((readV b).2 != 0) = false by simpa using hk, cond_false]
      obtain ⟨g1, g2, g3⟩ := readV_back hk
      have g4 := right_len g1
      refine (vBytes_spec hra.row (by omega) (fun _ => g3)).mono fun e w37 ⟨x37', hor⟩ => ?_
      rcases hor with ⟨hf, _⟩ | ⟨_, ya, yc, he, hy⟩
      · rw [g1] at hf; cases hf
      refine ⟨ya, _, yc, 0, he, ?_⟩
      rw [show ((0 : Int) == 0) = true from rfl, cond_true]
      have x37 := x30.trans x37'
      refine (sameB_spec (W.OwnB.row hy) (hb.no x37) (vecL_le (by omega))).mono fun e w40 ⟨he, x40'⟩ => ⟨_, he, ?_⟩
      rw [decide_eq_true g2, cond_true]
      exact hal _ (x37.trans x40')
  · rw [show (([(va, v.length, vc)] : List (Option Addr × Nat × Nat)).all fun p => decide (p.2.1 ≤ 30)) = false by simpa using hl, Bool.not_false, cond_true]
    exact hal _ x3
theorem VectorBack_walk (W : World) (a0 : Option Addr) (len0 cap0 : Nat) (a1 : Option Addr) (len1 cap1 : Nat) (o0 : HeadsQ W [.slice a0 len0 cap0]) (o1 : BytesQ W [.slice a1 len1 cap1]) :
    Calls Try.prog 5 #[.slice a0 len0 cap0, .slice a1 len1 cap1] W (GivesV (.bool true) fun w' => Ext no W w') := by
  obtain ⟨_, _, v, e0, _, _, r0, f0⟩ := o0
  obtain ⟨_, _, b, e1, g1, _, r1⟩ := o1
  cases e0; cases e1
  exact VectorBack_spec W r0 (fun h hh => wf_u64 (f0 h hh).2.2) r1 g1
end Go.Proofs.Ytifplncikohlpaa
