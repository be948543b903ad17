/- VectorTurns: what the law's function answers. -/
import Derived.Test.YtifplncikohlpaaVecC
set_option linter.unusedVariables false
set_option linter.unusedSimpArgs false
set_option maxRecDepth 20000
namespace Go.Proofs.Ytifplncikohlpaa
open Go Go.Mx Go.Proofs
/-- cachettelaw05.VectorTurns -/
def lTurns.M (a1a : Option Addr) (a1n : Nat) (a1c : Nat) (b2a : Option Addr) (b2n : Nat) (b2c : Nat) (R : Value → World → Prop) (w : World) : Prop :=
  thenW (w.alloc (.cells #[.slice a1a a1n a1c, .slice b2a b2n b2c] 22)) fun ww3 =>
  Calls Try.prog 6 #[.slice (some (blk w.heap.size)) 2 2] ww3 fun ee5 ww6 => ∃ (light4 : Bool), ee5 = .returned (.bool light4) ∧
  bif !light4 then (
  Calls Try.prog 7 #[] ww6 fun ee8 ww9 => ∃ (alive7 : Bool), ee8 = .returned (.bool alive7) ∧
  R (.bool alive7) ww9) else (
  Calls Try.prog 8 #[.slice a1a a1n a1c, .slice b2a b2n b2c] ww6 fun ee11 ww12 => ∃ (compare10 : Int), ee11 = .returned (.int .i64 compare10) ∧
  Calls Try.prog 8 #[.slice b2a b2n b2c, .slice a1a a1n a1c] ww12 fun ee14 ww15 => ∃ (compare13 : Int), ee14 = .returned (.int .i64 compare13) ∧
  bif compare10 == 3 then (
  bif compare13 == 3 then (
  Calls Try.prog 9 #[.slice a1a a1n a1c] ww15 fun ee17 ww18 => ∃ (right16 : Bool), ee17 = .returned (.bool right16) ∧
  bif !right16 then (
  Calls Try.prog 7 #[] ww18 fun ee20 ww21 => ∃ (alive19 : Bool), ee20 = .returned (.bool alive19) ∧
  R (.bool alive19) ww21) else (
  Calls Try.prog 9 #[.slice b2a b2n b2c] ww18 fun ee23 ww24 => ∃ (right22 : Bool), ee23 = .returned (.bool right22) ∧
  bif !right22 then (
  Calls Try.prog 7 #[] ww24 fun ee26 ww27 => ∃ (alive25 : Bool), ee26 = .returned (.bool alive25) ∧
  R (.bool alive25) ww27) else (
  R (.bool false) ww24))) else (
  R (.bool false) ww15)) else (
  bif compare10 == 2 then (
  bif compare13 == 2 then (
  Calls Try.prog 10 #[.slice a1a a1n a1c, .slice b2a b2n b2c] ww15 fun ee29 ww30 => ∃ (missing28a : Option Addr) (missing28n : Nat) (missing28c : Nat), ee29 = .returned (.slice missing28a missing28n missing28c) ∧
  bif decide ((missing28n : Int) > 0) then (
  Calls Try.prog 10 #[.slice b2a b2n b2c, .slice a1a a1n a1c] ww30 fun ee32 ww33 => ∃ (missing31a : Option Addr) (missing31n : Nat) (missing31c : Nat), ee32 = .returned (.slice missing31a missing31n missing31c) ∧
  bif decide ((missing31n : Int) > 0) then (
  Calls Try.prog 7 #[] ww33 fun ee35 ww36 => ∃ (alive34 : Bool), ee35 = .returned (.bool alive34) ∧
  R (.bool alive34) ww36) else (
  R (.bool false) ww33)) else (
  R (.bool false) ww30)) else (
  R (.bool false) ww15)) else (
  bif compare10 == (IntKind.i64.wrap (0 - compare13)) then (
  Calls Try.prog 10 #[.slice a1a a1n a1c, .slice b2a b2n b2c] ww15 fun ee38 ww39 => ∃ (missing37a : Option Addr) (missing37n : Nat) (missing37c : Nat), ee38 = .returned (.slice missing37a missing37n missing37c) ∧
  bif ((missing37n : Int) == 0) == (decide (compare10 ≥ 0)) then (
  Calls Try.prog 7 #[] ww39 fun ee41 ww42 => ∃ (alive40 : Bool), ee41 = .returned (.bool alive40) ∧
  R (.bool alive40) ww42) else (
  R (.bool false) ww39)) else (
  R (.bool false) ww15))))

theorem lTurns.eq (a1a : Option Addr) (a1n : Nat) (a1c : Nat) (b2a : Option Addr) (b2n : Nat) (b2c : Nat) (R : Value → World → Prop) (w : World) : mfunc Try.prog [] 3 [.slice a1a a1n a1c, .slice b2a b2n b2c] R w = lTurns.M a1a a1n a1c b2a b2n b2c R w := by kernel_rfl
theorem lTurns.ok (a1a : Option Addr) (a1n : Nat) (a1c : Nat) (b2a : Option Addr) (b2n : Nat) (b2c : Nat) {R : Value → World → Prop} {w : World} (h : lTurns.M a1a a1n a1c b2a b2n b2c R w) : Calls Try.prog 3 #[.slice a1a a1n a1c, .slice b2a b2n b2c] w fun e w' => ∃ v, e = .returned v ∧ R v w' :=
  mfunc_ok follows (H := []) (args := [.slice a1a a1n a1c, .slice b2a b2n b2c]) (by rw [lTurns.eq]; exact h)


/-- heads, as they come in. -/
def fitH (h : Hd) : Prop := (Lit.int .i64 h.1).wf = true ∧ (Lit.int .i64 h.2.1).wf = true ∧ (Lit.int .u64 h.2.2).wf = true
def HeadsQ (W : World) (cs : List Value) : Prop := ∃ (a : Option Addr) (c : Nat) (hs : List Hd), cs = [.slice a hs.length c] ∧ hs.length ≤ c ∧ c ≤ maxLen ∧ RowAt W a (hsC hs) ∧ ∀ h ∈ hs, fitH h
def HeadQ (W : World) (cs : List Value) : Prop := ∃ h : Hd, cs = hdC h ∧ fitH h
theorem opens_head : Opens Try.prog 44 HeadQ :=
  (opens_struct (size := 3) Try.underlying44 (by kernel_rfl)).mono fun W cs ⟨hl, h⟩ => by
    match cs, hl with
    | [c0, c1, c2], _ =>
      obtain ⟨n0, e0, f0⟩ := h 0 _ rfl _ (opens_int Try.underlying3)
      obtain ⟨n1, e1, f1⟩ := h 1 _ rfl _ (opens_int Try.underlying3)
      obtain ⟨n2, e2, f2⟩ := h 2 _ rfl _ (opens_int Try.underlying42)
      have ci : Try.prog.cellsOf 3 = 1 := by kernel_rfl
      have cu : Try.prog.cellsOf 42 = 1 := by kernel_rfl
      change List.take (Try.prog.cellsOf 3) (List.drop 0 [c0, c1, c2]) = _ at e0
      change List.take (Try.prog.cellsOf 3) (List.drop 1 [c0, c1, c2]) = _ at e1
      change List.take (Try.prog.cellsOf 42) (List.drop 2 [c0, c1, c2]) = _ at e2
      rw [ci] at e0 e1
      rw [cu] at e2
      simp only [List.drop_zero, List.drop_succ_cons, List.take_succ_cons, List.take_zero, List.cons.injEq, and_true] at e0 e1 e2
      subst e0; subst e1; subst e2
      exact ⟨(n0, n1, n2), rfl, f0, f1, f2⟩
theorem opens_heads : Opens Try.prog 22 HeadsQ :=
  (opens_slice (size := 3) Try.underlying22 (by kernel_rfl) opens_head).mono fun W cs ⟨a, l, c, rows, h1, h2, h3, h4, h5, h6⟩ => by
    obtain ⟨xs, h7, h8⟩ := rows_of (rows := rows) hdC fitH fun r hr => by
      obtain ⟨h, q1, q2⟩ := (h6 r hr).2
      exact ⟨h, q1, q2⟩
    subst h7
    rw [List.length_map] at h4
    subst h4
    exact ⟨a, c, xs, h1, h2, h3, by rw [hsC, List.flatMap_def]; exact h5, h8⟩

theorem both_turn (a b : List Hd) : bothV b a = bothV a b := Bool.and_comm _ _
theorem cmp_turn (a b : List Hd) : ∀ n, foldV cmpF b a (0, 0) n = ((foldV cmpF a b (0, 0) n).2, (foldV cmpF a b (0, 0) n).1)
  | 0 => rfl
  | n + 1 => by
    simp only [foldV]
    rw [cmp_turn a b n]
    simp only [cmpF, gt_iff_lt]
theorem miss_cmp (a b : List Hd) : ∀ n, ((foldV missF a b [] n).length = 0 ↔ (foldV cmpF a b (0, 0) n).2 = 0)
  | 0 => by simp [foldV]
  | n + 1 => by
    have ih := miss_cmp a b n
    simp only [foldV, missF, cmpF, gt_iff_lt]
    by_cases h : (getV a n).2.1 < (getV b n).2.1
    · rw [if_pos h, if_pos h]; simp
    · rw [if_neg h, if_neg h]; exact ih
theorem turns_plain (a b : List Hd) : (bothV a b = false ∧ cmpV a b = 3 ∧ cmpV b a = 3) ∨
    (bothV a b = true ∧ cmpV a b = 2 ∧ cmpV b a = 2 ∧ (missV a b).length ≠ 0 ∧ (missV b a).length ≠ 0) ∨
    (bothV a b = true ∧ cmpV a b ≠ 3 ∧ cmpV a b ≠ 2 ∧ cmpV a b = -(cmpV b a) ∧ -1 ≤ cmpV b a ∧ cmpV b a ≤ 1 ∧ ((missV a b).length = 0 ↔ cmpV a b ≥ 0)) := by
  have hb := both_turn a b
  have hc := cmp_turn a b 8
  have h01 := cmp01 a b 8
  have hm1 := miss_cmp a b 8
  have hm2 := miss_cmp b a 8
  rw [hc] at hm2
  unfold cmpV missV
  rw [hb, hc]
  cases bothV a b with
  | false => exact .inl ⟨rfl, rfl, rfl⟩
  | true =>
    right
    simp only [if_true]
    generalize foldV cmpF a b (0, 0) 8 = s at *
    obtain ⟨p, q⟩ := s
    simp only at *
    by_cases h2 : p + q = 2
    · left
      rw [if_pos h2, if_pos (by omega)]
      exact ⟨by trivial, rfl, rfl, fun e => by have := hm1.1 e; omega, fun e => by have := hm2.1 e; omega⟩
    · right
      rw [if_neg h2, if_neg (by omega)]
      refine ⟨by trivial, by omega, by omega, by omega, by omega, by omega, ?_⟩
      rw [hm1]
      constructor
      · intro e; omega
      · intro e; omega

theorem VectorTurns_spec (w : World) {aa ba : Option Addr} {ac bc : Nat} {a b : List Hd} (ha : RowAt w aa (hsC a)) (hb : RowAt w ba (hsC b)) :
    Calls Try.prog 3 #[.slice aa a.length ac, .slice ba b.length bc] w (GivesV (.bool true) fun w' => Ext no w w') := by
  refine (lTurns.ok _ _ _ _ _ _ (R := fun v w' => v = .bool true ∧ Ext no w w') ?_).mono fun e w' ⟨v, he, hv, hw⟩ => ⟨by rw [he, hv], hw⟩
  unfold lTurns.M
  have hal : ∀ w1, Ext no w w1 → Calls Try.prog 7 #[] w1 fun e w' => ∃ v : Bool, e = .returned (.bool v) ∧ (fun v w' => v = Value.bool true ∧ Ext no w w') (.bool v) w' := fun w1 hx =>
    (alive5_spec w1).mono fun e w' ⟨he, hw⟩ => ⟨true, he, rfl, hx.trans hw⟩
  refine thenW_in fun w3 h3 => ?_
  have x3 : Ext no w w3 := by subst h3; exact (Ext.refl _ _).alloc _
  have hrow : RowAt w3 (some (blk w.heap.size)) (([(aa, a.length, ac), (ba, b.length, bc)] : List (Option Addr × Nat × Nat)).map fun p => Value.slice p.1 p.2.1 p.2.2) := by
    subst h3; exact RowAt.of_blk (Blk.new w 22 _)
  refine (light_spec (l := [(aa, a.length, ac), (ba, b.length, bc)]) (lc := 2) hrow (by simp)).mono fun e w6 ⟨he, hw⟩ => ⟨_, he, ?_⟩
  subst hw
  by_cases hl : (([(aa, a.length, ac), (ba, b.length, bc)] : List (Option Addr × Nat × Nat)).all fun p => decide (p.2.1 ≤ 30)) = true
  · rw [hl, Bool.not_true, cond_false]
    simp only [List.all_cons, List.all_nil, Bool.and_true, Bool.and_eq_true, decide_eq_true_eq] at hl
    obtain ⟨hla, hlb⟩ := hl
    refine (Compare_spec (ha.no x3) (hb.no x3) (by omega) (by omega)).mono fun e w12 ⟨he, x12'⟩ => ⟨_, he, ?_⟩
    have x12 := x3.trans x12'
    refine (Compare_spec (hb.no x12) (ha.no x12) (by omega) (by omega)).mono fun e w15 ⟨he, x15'⟩ => ⟨_, he, ?_⟩
    have x15 := x12.trans x15'
    rcases turns_plain a b with ⟨t1, t2, t3⟩ | ⟨t1, t2, t3, t4, t5⟩ | ⟨t1, t2, t3, t4, t5, t6, t7⟩
    · rw [t2, t3, show ((3 : Int) == 3) = true from rfl, cond_true, cond_true]
      refine (Right_spec (ha.no x15) (by omega)).mono fun e w18 ⟨he, x18'⟩ => ⟨_, he, ?_⟩
      have x18 := x15.trans x18'
      by_cases hra : rightV a = true
      · rw [hra, Bool.not_true, cond_false]
        refine (Right_spec (hb.no x18) (by omega)).mono fun e w24 ⟨he, x24'⟩ => ⟨_, he, ?_⟩
        have hrb : rightV b = false := by unfold bothV at t1; rw [hra, Bool.true_and] at t1; exact t1
        rw [hrb, Bool.not_false, cond_true]
        exact hal _ (x18.trans x24')
      · rw [show rightV a = false by simpa using hra, Bool.not_false, cond_true]
        exact hal _ x18
    · rw [t2, t3]
      simp only [show ((2 : Int) == 3) = false from rfl, show ((2 : Int) == 2) = true from rfl, cond_false, cond_true]
      refine (Missing_spec (ha.no x15) (hb.no x15) (by omega) (by omega)).mono fun e w30 ⟨ra, rc, he, _, x30'⟩ => ⟨_, _, _, he, ?_⟩
      have x30 := x15.trans x30'
      rw [decide_eq_true (by omega), cond_true]
      refine (Missing_spec (hb.no x30) (ha.no x30) (by omega) (by omega)).mono fun e w33 ⟨ra, rc, he, _, x33'⟩ => ⟨_, _, _, he, ?_⟩
      rw [decide_eq_true (by omega), cond_true]
      exact hal _ (x30.trans x33')
    · rw [beq_eq_false_iff_ne.2 t2, beq_eq_false_iff_ne.2 t3, cond_false, cond_false, w64 (by omega) (by omega), show (cmpV a b == 0 - cmpV b a) = true by rw [beq_iff_eq]; omega, cond_true]
      refine (Missing_spec (ha.no x15) (hb.no x15) (by omega) (by omega)).mono fun e w30 ⟨ra, rc, he, _, x30'⟩ => ⟨_, _, _, he, ?_⟩
      have x30 := x15.trans x30'
      rw [show ((((missV a b).length : Int) == 0) == decide (cmpV a b ≥ 0)) = true by
        by_cases h : cmpV a b ≥ 0
        · rw [decide_eq_true h, t7.2 h]; rfl
        · have : ((missV a b).length : Int) ≠ 0 := fun e => h (t7.1 (by omega))
          rw [decide_eq_false h, beq_eq_false_iff_ne.2 this]; rfl, cond_true]
      exact hal _ x30
  · rw [show (([(aa, a.length, ac), (ba, b.length, bc)] : List (Option Addr × Nat × Nat)).all fun p => decide (p.2.1 ≤ 30)) = false by simpa using hl, Bool.not_false, cond_true]
    exact hal _ x3
theorem VectorTurns_walk (W : World) (a0 : Option Addr) (len0 cap0 : Nat) (a1 : Option Addr) (len1 cap1 : Nat) (o0 : HeadsQ W [.slice a0 len0 cap0]) (o1 : HeadsQ W [.slice a1 len1 cap1]) :
    Calls Try.prog 3 #[.slice a0 len0 cap0, .slice a1 len1 cap1] W (GivesV (.bool true) fun w' => Ext no W w') := by
  obtain ⟨_, _, a, e0, _, _, r0, _⟩ := o0
  obtain ⟨_, _, b, e1, _, _, r1, _⟩ := o1
  cases e0; cases e1
  exact VectorTurns_spec W r0 r1
end Go.Proofs.Ytifplncikohlpaa
