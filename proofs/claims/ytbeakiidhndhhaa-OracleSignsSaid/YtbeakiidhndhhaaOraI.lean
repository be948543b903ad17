/- OracleSigns: what the law's function answers. -/
import Derived.Test.YtbeakiidhndhhaaOraD
import Derived.Test.YtbeakiidhndhhaaOraH
set_option linter.unusedVariables false
set_option linter.unusedSimpArgs false
namespace Go.Proofs.Ytbeakiidhndhhaa
open Go Go.Mx Go.Proofs
/-- cachettelaw03.OracleSigns -/
def lSigns.M (draws1a : Option Addr) (draws1n : Nat) (draws1c : Nat) (a2a : Option Addr) (a2n : Nat) (a2c : Nat) (b3a : Option Addr) (b3n : Nat) (b3c : Nat) (guess4 : Int) (R : Value → World → Prop) (w : World) : Prop :=
  bif decide ((draws1n : Int) > 100) then (
  Calls Try.prog 17 #[] w fun ee6 ww7 => ∃ (alive5 : Bool), ee6 = .returned (.bool alive5) ∧
  R (.bool alive5) ww7) else (
  bif decide ((a2n : Int) > 300) then (
  Calls Try.prog 17 #[] w fun ee9 ww10 => ∃ (alive8 : Bool), ee9 = .returned (.bool alive8) ∧
  R (.bool alive8) ww10) else (
  bif decide ((b3n : Int) > 300) then (
  Calls Try.prog 17 #[] w fun ee12 ww13 => ∃ (alive11 : Bool), ee12 = .returned (.bool alive11) ∧
  R (.bool alive11) ww13) else (
  Calls Try.prog 18 #[.slice draws1a draws1n draws1c] w fun ee15 ww16 => ∃ (new14 : Option Addr), ee15 = .returned (.pointer new14) ∧
  Calls Try.prog 21 #[.pointer new14] ww16 fun ee19 ww20 => ∃ (pair17 : Int) (pair18 : Int), ee19 = .returned (.tuple #[.int .u64 pair17, .int .u64 pair18]) ∧
  Calls Try.prog 21 #[.pointer new14] ww20 fun ee23 ww24 => ∃ (pair21 : Int) (pair22 : Int), ee23 = .returned (.tuple #[.int .u64 pair21, .int .u64 pair22]) ∧
  Calls Try.prog 22 #[.pointer new14, .int .u64 pair17, .slice a2a a2n a2c] ww24 fun ee27 ww28 => ∃ (sign25 : Int) (sign26 : Int), ee27 = .returned (.tuple #[.int .u64 sign25, .int .i64 sign26]) ∧
  Calls Try.prog 22 #[.pointer new14, .int .u64 pair17, .slice a2a a2n a2c] ww28 fun ee31 ww32 => ∃ (sign29 : Int) (sign30 : Int), ee31 = .returned (.tuple #[.int .u64 sign29, .int .i64 sign30]) ∧
  Calls Try.prog 22 #[.pointer new14, .int .u64 pair18, .slice a2a a2n a2c] ww32 fun ee35 ww36 => ∃ (sign33 : Int) (sign34 : Int), ee35 = .returned (.tuple #[.int .u64 sign33, .int .i64 sign34]) ∧
  bif sign26 != 0 then (
  R (.bool false) ww36) else (
  bif sign30 != 0 then (
  R (.bool false) ww36) else (
  bif sign34 != 11 then (
  R (.bool false) ww36) else (
  bif sign25 != sign29 then (
  R (.bool false) ww36) else (
  Calls Try.prog 23 #[.pointer new14, .int .u64 pair18, .slice a2a a2n a2c, .int .u64 sign25] ww36 fun ee38 ww39 => ∃ (verify37 : Bool), ee38 = .returned (.bool verify37) ∧
  bif verify37 then (
  Calls Try.prog 23 #[.pointer new14, .int .u64 pair22, .slice a2a a2n a2c, .int .u64 sign25] ww39 fun ee41 ww42 => ∃ (verify40 : Bool), ee41 = .returned (.bool verify40) ∧
  bif !verify40 then (
  Calls Try.prog 23 #[.pointer new14, .int .u64 pair18, .slice b3a b3n b3c, .int .u64 sign25] ww42 fun ee44 ww45 => ∃ (verify43 : Bool), ee44 = .returned (.bool verify43) ∧
  Calls Try.prog 20 #[.slice a2a a2n a2c, .slice b3a b3n b3c] ww45 fun ee47 ww48 => ∃ (same46 : Bool), ee47 = .returned (.bool same46) ∧
  bif verify43 == same46 then (
  bif guess4 == sign25 then (
  bif pair17 != pair21 then (
  Calls Try.prog 17 #[] ww48 fun ee50 ww51 => ∃ (alive49 : Bool), ee50 = .returned (.bool alive49) ∧
  R (.bool alive49) ww51) else (
  R (.bool false) ww48)) else (
  Calls Try.prog 23 #[.pointer new14, .int .u64 pair18, .slice a2a a2n a2c, .int .u64 guess4] ww48 fun ee53 ww54 => ∃ (verify52 : Bool), ee53 = .returned (.bool verify52) ∧
  bif !verify52 then (
  bif pair17 != pair21 then (
  Calls Try.prog 17 #[] ww54 fun ee56 ww57 => ∃ (alive55 : Bool), ee56 = .returned (.bool alive55) ∧
  R (.bool alive55) ww57) else (
  R (.bool false) ww54)) else (
  R (.bool false) ww54))) else (
  False)) else (
  False)) else (
  False))))))))

theorem lSigns.eq (draws1a : Option Addr) (draws1n : Nat) (draws1c : Nat) (a2a : Option Addr) (a2n : Nat) (a2c : Nat) (b3a : Option Addr) (b3n : Nat) (b3c : Nat) (guess4 : Int) (R : Value → World → Prop) (w : World) : mfunc Try.prog [] 4 [.slice draws1a draws1n draws1c, .slice a2a a2n a2c, .slice b3a b3n b3c, .int .u64 guess4] R w = lSigns.M draws1a draws1n draws1c a2a a2n a2c b3a b3n b3c guess4 R w := by kernel_rfl
theorem lSigns.ok (draws1a : Option Addr) (draws1n : Nat) (draws1c : Nat) (a2a : Option Addr) (a2n : Nat) (a2c : Nat) (b3a : Option Addr) (b3n : Nat) (b3c : Nat) (guess4 : Int) {R : Value → World → Prop} {w : World} (h : lSigns.M draws1a draws1n draws1c a2a a2n a2c b3a b3n b3c guess4 R w) : Calls Try.prog 4 #[.slice draws1a draws1n draws1c, .slice a2a a2n a2c, .slice b3a b3n b3c, .int .u64 guess4] w fun e w' => ∃ v, e = .returned v ∧ R v w' :=
  mfunc_ok follows (H := []) (args := [.slice draws1a draws1n draws1c, .slice a2a a2n a2c, .slice b3a b3n b3c, .int .u64 guess4]) (by rw [lSigns.eq]; exact h)


/-- what two pairs and a signature come to. -/
theorem signs_plain (d : List Int) (a b : List UInt8) (z : Int) :
    let S1 := (pairOf (OS.init d)).2; let s := (pairOf (OS.init d)).1.1; let p := (pairOf (OS.init d)).1.2
    let S2 := (pairOf S1).2; let t := (pairOf S1).1.1; let q := (pairOf S1).1.2
    let S3 := (signOf S2 s a).2; let x := (signOf S2 s a).1.1
    S1.ok ∧ S2.ok ∧ S3.ok ∧ S1.used.length ≤ 2 ∧ S2.used.length ≤ 4 ∧ S3.used.length ≤ 5 ∧
    (signOf S2 s a).1.2 = true ∧ signOf S3 s a = ((x, true), S3) ∧ signOf S3 p a = ((0, false), S3) ∧ verifyOf S3 p a x = true ∧ verifyOf S3 q a x = false ∧
    verifyOf S3 p b x = decide (a = b) ∧ (z ≠ x → verifyOf S3 p a z = false) ∧ s ≠ t := by
  intro S1 s p S2 t q S3 x
  have k0 := OS.init_ok d
  obtain ⟨k1, l1⟩ := pairOf_ok k0
  obtain ⟨k2, l2⟩ := pairOf_ok k1
  obtain ⟨k3, l3⟩ := signOf_ok k2 s a
  obtain ⟨a1, a2, a3, a4, a5, a6, a7, a8, a9, a10, a11, a12, a13, a14⟩ := pairOf_spec k0
  obtain ⟨b1, b2, b3, b4, b5, b6, b7, b8, b9, b10, b11, b12, b13, b14⟩ := pairOf_spec k1
  have m1 : S1.used.length ≤ 0 + 2 := l1
  have m2 : S2.used.length ≤ S1.used.length + 2 := l2
  have m3 : S3.used.length ≤ S2.used.length + 1 := l3
  clear l1 l2 l3
  have u1 : S1.used = [s, p] := a6
  have hs1 : S1.secrets = [s] := a7
  have hp1 : S1.publics = [(p, s)] := a8
  rw [show (pairOf (OS.init d)).2.used = [s, p] from u1] at b3 b4
  simp only [List.mem_cons, List.not_mem_nil, or_false, not_or] at b3 b4
  have hst : s ≠ t := fun e => b3.1 e.symm
  have hpt : p ≠ t := fun e => b3.2 e.symm
  have hpq : p ≠ q := fun e => b4.2 e.symm
  have hsp : s ≠ p := a5
  have hs2 : S2.secrets = [s, t] := by
    show (pairOf S1).2.secrets = _
    rw [b7, show (pairOf (OS.init d)).2.secrets = [s] from hs1]
    unfold badd
    rw [if_neg (by simp; exact b3.1)]
    rfl
  have hp2 : S2.publics = [(p, s), (q, t)] := by
    show (pairOf S1).2.publics = _
    rw [b8, show (pairOf (OS.init d)).2.publics = [(p, s)] from hp1]
    simp only [aput]
    rw [if_neg hpq]
  have hg2 : S2.signs = [] := b11.trans a11
  have hd2 : S2.signed = [] := b12.trans a12
  have hsg : signOf S2 s a = (((freshOf S2).1, true), { (freshOf S2).2 with signs := [((s, a), (freshOf S2).1)], signed := [((freshOf S2).1, (s, a))] }) := by
    unfold signOf
    rw [if_pos (by rw [hs2]; simp), hg2, hd2]
    rfl
  have hx : x = (freshOf S2).1 := by show (signOf S2 s a).1.1 = _; rw [hsg]
  have hS3 : S3 = { (freshOf S2).2 with signs := [((s, a), x)], signed := [(x, (s, a))] } := by show (signOf S2 s a).2 = _; rw [hsg, hx]
  have f3 : S3.secrets = [s, t] ∧ S3.publics = [(p, s), (q, t)] ∧ S3.signs = [((s, a), x)] ∧ S3.signed = [(x, (s, a))] := by
    rw [hS3]
    exact ⟨(freshOf_frame S2).2.2.1.trans hs2, (freshOf_frame S2).2.2.2.1.trans hp2, rfl, rfl⟩
  obtain ⟨f31, f32, f33, f34⟩ := f3
  refine ⟨k1, k2, k3, by omega, by omega, by omega, by rw [hsg], ?_, ?_, ?_, ?_, ?_, ?_, hst⟩
  · unfold signOf; rw [if_pos (by rw [f31]; simp), f33]; simp [alook]
  · unfold signOf; rw [if_neg (by rw [f31]; simp; exact ⟨fun e => hsp e.symm, hpt⟩)]
  · unfold verifyOf; rw [f32, f34]; simp [alook]
  · unfold verifyOf; rw [f32, f34]; simp [alook, hpq, hst]
  · unfold verifyOf; rw [f32, f34]; simp [alook]
  · intro hz; unfold verifyOf; rw [f32, f34]; simp [alook, Ne.symm hz]

theorem OracleSigns_spec (w : World) {da aa ba : Option Addr} {dc ac bc : Nat} {d : List Int} {a b : List UInt8} (z : Int) (hd : RowAt w da (d.map u64V)) (ha : RowAt w aa (bytesV a)) (hb : RowAt w ba (bytesV b)) :
    Calls Try.prog 4 #[.slice da d.length dc, .slice aa a.length ac, .slice ba b.length bc, .int .u64 z] w (Gives (.bool true) fun w' => Ext no w w') := by
  refine (lSigns.ok _ _ _ _ _ _ _ _ _ _ (R := fun v w' => v = .bool true ∧ Ext no w w') ?_).mono fun e w' ⟨v, he, hv, hw⟩ => ⟨by rw [he, hv], hw⟩
  unfold lSigns.M
  have hal : ∀ w1, Ext no w w1 → Calls Try.prog 17 #[] w1 fun e w' => ∃ v : Bool, e = .returned (.bool v) ∧ (fun v w' => v = Value.bool true ∧ Ext no w w') (.bool v) w' := fun w1 hx =>
    (alive_spec w1).mono fun e w' ⟨he, hw⟩ => ⟨true, he, rfl, hx.trans hw⟩
  by_cases h1 : (d.length : Int) > 100
  · rw [decide_eq_true h1]; exact hal w (Ext.refl _ _)
  rw [decide_eq_false h1, cond_false]
  by_cases h2 : (a.length : Int) > 300
  · rw [decide_eq_true h2]; exact hal w (Ext.refl _ _)
  rw [decide_eq_false h2, cond_false]
  by_cases h3 : (b.length : Int) > 300
  · rw [decide_eq_true h3]; exact hal w (Ext.refl _ _)
  rw [decide_eq_false h3, cond_false]
  obtain ⟨k1, k2, k3, l1, l2, l3, q1, q2, q3, q4, q5, q6, q7, q8⟩ := signs_plain d a b z
  refine (New_spec hd (by omega)).mono fun e w15 ⟨g, he, hO, hx15, hg⟩ => ⟨some (blk g.p), he, ?_⟩
  have key : ∀ w', Ext g.m w15 w' → Ext no w w' := fun w' h' => hx15.then h' fun b hb => .inr (hg b hb).1
  have hoa := ha.out (m := g.m) fun b hb => (hg b hb).1
  have hob := hb.out (m := g.m) fun b hb => (hg b hb).1
  refine (Pair_spec hO (OS.init_ok d) (by simp [OS.init])).mono fun e w20 ⟨he, hO20, hx20⟩ => ⟨_, _, he, ?_⟩
  refine (Pair_spec hO20 k1 (by omega)).mono fun e w24 ⟨he, hO24, hx24'⟩ => ⟨_, _, he, ?_⟩
  have hx24 := hx20.trans hx24'
  refine (Sign_spec (c := ac) hO24 k2 (by omega) _ (ha.no (key _ hx24)) hoa).mono fun e w28 ⟨he, hO28, hx28'⟩ => ⟨_, _, he, ?_⟩
  have hx28 := hx24.trans hx28'
  refine (Sign_spec (c := ac) hO28 k3 (by omega) _ (ha.no (key _ hx28)) hoa).mono fun e w32 ⟨he, hO32, hx32'⟩ => ⟨_, _, he, ?_⟩
  have hx32 := hx28.trans hx32'
  rw [q2] at hO32 ⊢
  refine (Sign_spec (c := ac) hO32 k3 (Nat.lt_of_le_of_lt l3 (by decide)) _ (ha.no (key _ hx32)) hoa).mono fun e w36 ⟨he, hO36, hx36'⟩ => ⟨_, _, he, ?_⟩
  have hx36 := hx32.trans hx36'
  rw [q3] at hO36 ⊢
  rw [q1]
  simp only [if_true, Bool.false_eq_true, if_false, bne_self_eq_false, cond_false, show ((0 : Int) != 0) = false from rfl, show ((11 : Int) != 11) = false from rfl]
  refine (Verify_spec (c := ac) hO36 _ _ (ha.no (key _ hx36))).mono fun e w39 ⟨he, hx39'⟩ => ⟨_, he, ?_⟩
  have hx39 := hx36.trans hx39'.none
  rw [q4, cond_true]
  refine (Verify_spec (c := ac) (hO36.none hx39') _ _ (ha.no (key _ hx39))).mono fun e w42 ⟨he, hx42'⟩ => ⟨_, he, ?_⟩
  have hx42 := hx39.trans hx42'.none
  rw [q5, Bool.not_false, cond_true]
  refine (Verify_spec (c := bc) ((hO36.none hx39').none hx42') _ _ (hb.no (key _ hx42))).mono fun e w45 ⟨he, hx45'⟩ => ⟨_, he, ?_⟩
  have hx45 := hx42.trans hx45'.none
  refine (same_spec (ha.no (key _ hx45)) (hb.no (key _ hx45)) (by omega)).mono fun e w48 ⟨he, hx48'⟩ => ⟨_, he, ?_⟩
  have hx48 := hx45.trans hx48'.none
  rw [q6, beq_self_eq_true, cond_true]
  have e8 : ((pairOf (OS.init d)).1.1 != (pairOf (pairOf (OS.init d)).2).1.1) = true := by simpa using q8
  by_cases hz : z = (signOf (pairOf (pairOf (OS.init d)).2).2 (pairOf (OS.init d)).1.1 a).1.1
  · rw [show (z == _) = true from beq_iff_eq.2 hz, cond_true, e8, cond_true]
    exact hal _ (key _ hx48)
  · rw [show (z == _) = false from beq_eq_false_iff_ne.2 hz, cond_false]
    refine (Verify_spec (c := ac) ((((hO36.none hx39').none hx42').none hx45').none hx48') _ _ (ha.no (key _ hx48))).mono fun e w54 ⟨he, hx54'⟩ => ⟨_, he, ?_⟩
    rw [q7 hz, Bool.not_false, cond_true, e8, cond_true]
    exact hal _ (key _ (hx48.trans hx54'.none))

theorem OracleSigns_walk (W : World) (a0 : Option Addr) (len0 cap0 : Nat) (a1 : Option Addr) (len1 cap1 : Nat) (a2 : Option Addr) (len2 cap2 : Nat) (a3 : Int)
    (o0 : IntsQ .u64 W [.slice a0 len0 cap0]) (o1 : BytesQ W [.slice a1 len1 cap1]) (o2 : BytesQ W [.slice a2 len2 cap2]) (w3 : (Lit.int .u64 a3).wf = true) :
    Calls Try.prog 4 #[.slice a0 len0 cap0, .slice a1 len1 cap1, .slice a2 len2 cap2, .int .u64 a3] W (Gives (.bool true) fun w' => Ext no W w') := by
  obtain ⟨_, _, d, e0, _, _, r0, _⟩ := o0
  obtain ⟨_, _, a, e1, _, _, r1⟩ := o1
  obtain ⟨_, _, b, e2, _, _, r2⟩ := o2
  cases e0; cases e1; cases e2
  exact OracleSigns_spec W a3 r0 r1 r2
end Go.Proofs.Ytbeakiidhndhhaa
