/- OracleWraps: what the law's function answers. -/
import Derived.Test.YtbeakiidhndhhaaOraG
import Derived.Test.YtbeakiidhndhhaaOraH
set_option linter.unusedVariables false
set_option linter.unusedSimpArgs false
namespace Go.Proofs.Ytbeakiidhndhhaa
open Go Go.Mx Go.Proofs
/-- cachettelaw03.OracleWraps -/
def lWraps.M (draws1a : Option Addr) (draws1n : Nat) (draws1c : Nat) (b2a : Option Addr) (b2n : Nat) (b2c : Nat) (R : Value → World → Prop) (w : World) : Prop :=
  bif decide ((draws1n : Int) > 100) then (
  Calls Try.prog 17 #[] w fun ee4 ww5 => ∃ (alive3 : Bool), ee4 = .returned (.bool alive3) ∧
  R (.bool alive3) ww5) else (
  bif decide ((b2n : Int) > 100) then (
  Calls Try.prog 17 #[] w fun ee7 ww8 => ∃ (alive6 : Bool), ee7 = .returned (.bool alive6) ∧
  R (.bool alive6) ww8) else (
  Calls Try.prog 18 #[.slice draws1a draws1n draws1c] w fun ee10 ww11 => ∃ (new9 : Option Addr), ee10 = .returned (.pointer new9) ∧
  Calls Try.prog 24 #[.pointer new9] ww11 fun ee13 ww14 => ∃ (key12 : Int), ee13 = .returned (.int .u64 key12) ∧
  Calls Try.prog 21 #[.pointer new9] ww14 fun ee17 ww18 => ∃ (pair15 : Int) (pair16 : Int), ee17 = .returned (.tuple #[.int .u64 pair15, .int .u64 pair16]) ∧
  Calls Try.prog 21 #[.pointer new9] ww18 fun ee21 ww22 => ∃ (pair19 : Int) (pair20 : Int), ee21 = .returned (.tuple #[.int .u64 pair19, .int .u64 pair20]) ∧
  Calls Try.prog 51 #[.pointer new9, .int .u64 pair16, .int .u64 key12] ww22 fun ee25 ww26 => ∃ (wrap23a : Option Addr) (wrap23n : Nat) (wrap23c : Nat) (wrap24 : Int), ee25 = .returned (.tuple #[.slice wrap23a wrap23n wrap23c, .int .i64 wrap24]) ∧
  Calls Try.prog 52 #[.pointer new9, .int .u64 pair15, .slice wrap23a wrap23n wrap23c] ww26 fun ee29 ww30 => ∃ (unwrap27 : Int) (unwrap28 : Int), ee29 = .returned (.tuple #[.int .u64 unwrap27, .int .i64 unwrap28]) ∧
  Calls Try.prog 52 #[.pointer new9, .int .u64 pair19, .slice wrap23a wrap23n wrap23c] ww30 fun ee33 ww34 => ∃ (unwrap31 : Int) (unwrap32 : Int), ee33 = .returned (.tuple #[.int .u64 unwrap31, .int .i64 unwrap32]) ∧
  Calls Try.prog 52 #[.pointer new9, .int .u64 pair15, .slice b2a b2n b2c] ww34 fun ee37 ww38 => ∃ (unwrap35 : Int) (unwrap36 : Int), ee37 = .returned (.tuple #[.int .u64 unwrap35, .int .i64 unwrap36]) ∧
  Calls Try.prog 51 #[.pointer new9, .int .u64 pair15, .int .u64 key12] ww38 fun ee41 ww42 => ∃ (wrap39a : Option Addr) (wrap39n : Nat) (wrap39c : Nat) (wrap40 : Int), ee41 = .returned (.tuple #[.slice wrap39a wrap39n wrap39c, .int .i64 wrap40]) ∧
  Calls Try.prog 51 #[.pointer new9, .int .u64 pair16, .int .u64 pair15] ww42 fun ee45 ww46 => ∃ (wrap43a : Option Addr) (wrap43n : Nat) (wrap43c : Nat) (wrap44 : Int), ee45 = .returned (.tuple #[.slice wrap43a wrap43n wrap43c, .int .i64 wrap44]) ∧
  Calls Try.prog 22 #[.pointer none, .int .u64 1, .slice b2a b2n b2c] ww46 fun ee49 ww50 => ∃ (sign47 : Int) (sign48 : Int), ee49 = .returned (.tuple #[.int .u64 sign47, .int .i64 sign48]) ∧
  Calls Try.prog 50 #[.pointer none, .int .u64 1, .slice none 0 0, .slice b2a b2n b2c] ww50 fun ee53 ww54 => ∃ (openv51a : Option Addr) (openv51n : Nat) (openv51c : Nat) (openv52 : Int), ee53 = .returned (.tuple #[.slice openv51a openv51n openv51c, .int .i64 openv52]) ∧
  bif wrap24 == 0 then (
  bif unwrap28 == 0 then (
  bif unwrap27 == key12 then (
  bif unwrap32 == 11 then (
  bif unwrap36 == 4 then (
  bif wrap40 == 20 then (
  bif wrap44 == 11 then (
  bif sign48 == 23 then (
  bif openv52 == 23 then (
  Calls Try.prog 19 #[.pointer none, .slice b2a b2n b2c] ww54 fun ee56 ww57 => ∃ (hash55 : Int), ee56 = .returned (.int .u64 hash55) ∧
  bif hash55 == 0 then (
  Calls Try.prog 53 #[.pointer none] ww57 fun ee59 ww60 => ∃ (used58 : Int), ee59 = .returned (.int .i64 used58) ∧
  bif used58 == 0 then (
  Calls Try.prog 17 #[] ww60 fun ee62 ww63 => ∃ (alive61 : Bool), ee62 = .returned (.bool alive61) ∧
  R (.bool alive61) ww63) else (
  R (.bool false) ww60)) else (
  R (.bool false) ww57)) else (
  R (.bool false) ww54)) else (
  R (.bool false) ww54)) else (
  R (.bool false) ww54)) else (
  R (.bool false) ww54)) else (
  Calls Try.prog 20 #[.slice b2a b2n b2c, .slice wrap23a wrap23n wrap23c] ww54 fun ee65 ww66 => ∃ (same64 : Bool), ee65 = .returned (.bool same64) ∧
  bif same64 then (
  bif wrap40 == 20 then (
  bif wrap44 == 11 then (
  bif sign48 == 23 then (
  bif openv52 == 23 then (
  Calls Try.prog 19 #[.pointer none, .slice b2a b2n b2c] ww66 fun ee68 ww69 => ∃ (hash67 : Int), ee68 = .returned (.int .u64 hash67) ∧
  bif hash67 == 0 then (
  Calls Try.prog 53 #[.pointer none] ww69 fun ee71 ww72 => ∃ (used70 : Int), ee71 = .returned (.int .i64 used70) ∧
  bif used70 == 0 then (
  Calls Try.prog 17 #[] ww72 fun ee74 ww75 => ∃ (alive73 : Bool), ee74 = .returned (.bool alive73) ∧
  R (.bool alive73) ww75) else (
  R (.bool false) ww72)) else (
  R (.bool false) ww69)) else (
  R (.bool false) ww66)) else (
  R (.bool false) ww66)) else (
  R (.bool false) ww66)) else (
  R (.bool false) ww66)) else (
  R (.bool false) ww66))) else (
  False)) else (
  False)) else (
  False)) else (
  False)))

theorem lWraps.eq (draws1a : Option Addr) (draws1n : Nat) (draws1c : Nat) (b2a : Option Addr) (b2n : Nat) (b2c : Nat) (R : Value → World → Prop) (w : World) : mfunc Try.prog [] 12 [.slice draws1a draws1n draws1c, .slice b2a b2n b2c] R w = lWraps.M draws1a draws1n draws1c b2a b2n b2c R w := by kernel_rfl
theorem lWraps.ok (draws1a : Option Addr) (draws1n : Nat) (draws1c : Nat) (b2a : Option Addr) (b2n : Nat) (b2c : Nat) {R : Value → World → Prop} {w : World} (h : lWraps.M draws1a draws1n draws1c b2a b2n b2c R w) : Calls Try.prog 12 #[.slice draws1a draws1n draws1c, .slice b2a b2n b2c] w fun e w' => ∃ v, e = .returned v ∧ R v w' :=
  mfunc_ok follows (H := []) (args := [.slice draws1a draws1n draws1c, .slice b2a b2n b2c]) (by rw [lWraps.eq]; exact h)


theorem wraps_plain (d : List Int) (hf : ∀ x ∈ d, 0 ≤ x ∧ x < 18446744073709551616) (b : List UInt8) :
    let S1 := (keyOf (OS.init d)).2; let k := (keyOf (OS.init d)).1
    let S2 := (pairOf S1).2; let s := (pairOf S1).1.1; let p := (pairOf S1).1.2
    let S3 := (pairOf S2).2; let t := (pairOf S2).1.1; let q := (pairOf S2).1.2
    let S4 := (wrapOf S3 p k).2; let x := (wrapOf S3 p k).1.1
    S1.ok ∧ S2.ok ∧ S3.ok ∧ S4.ok ∧ S1.used.length ≤ 1 ∧ S2.used.length ≤ 3 ∧ S3.used.length ≤ 5 ∧ S4.used.length ≤ 6 ∧ x.length = 16 ∧
    (wrapOf S3 p k).1.2 = 0 ∧ unwrapOf S4 s x = (k, 0) ∧ (unwrapOf S4 t x).2 = 11 ∧ ((unwrapOf S4 s b).2 = 4 ∨ b = x) ∧ wrapOf S4 s k = (([], 20), S4) ∧ wrapOf S4 p s = (([], 11), S4) := by
  intro S1 k S2 s p S3 t q S4 x
  have k0 := OS.init_ok d hf
  obtain ⟨k1, l1⟩ := keyOf_ok k0
  obtain ⟨k2, l2⟩ := pairOf_ok k1
  obtain ⟨k3, l3⟩ := pairOf_ok k2
  obtain ⟨k4, l4⟩ := wrapOf_ok k3 p k
  obtain ⟨o1, o2, o3, o4, o5, o6, o7, o8, o9, o10, o11⟩ := keyOf_spec k0
  obtain ⟨a1, a2, a3, a4, a5, a6, a7, a8, a9, a10, a11, a12, a13, a14⟩ := pairOf_spec k1
  obtain ⟨b1, b2, b3, b4, b5, b6, b7, b8, b9, b10, b11, b12, b13, b14⟩ := pairOf_spec k2
  have m1 : S1.used.length ≤ 0 + 1 := l1
  have m2 : S2.used.length ≤ S1.used.length + 2 := l2
  have m3 : S3.used.length ≤ S2.used.length + 2 := l3
  have m4 : S4.used.length ≤ S3.used.length + 1 := l4
  clear l1 l2 l3 l4
  have u1 : S1.used = [k] := o3
  have u2 : S2.used = [k, s, p] := by show (pairOf S1).2.used = _; rw [a6, show (keyOf (OS.init d)).2.used = [k] from u1]; rfl
  rw [show (keyOf (OS.init d)).2.used = [k] from u1] at a3 a4
  rw [show (pairOf (keyOf (OS.init d)).2).2.used = [k, s, p] from u2] at b3 b4
  simp only [List.mem_cons, List.not_mem_nil, or_false, not_or] at a3 a4 b3 b4
  have hks : s ≠ k := a3
  have hsp : s ≠ p := a5
  have hst : s ≠ t := fun e => b3.2.1 e.symm
  have hpq : p ≠ q := fun e => b4.2.2 e.symm
  have hsq : s ≠ q := fun e => b4.2.1 e.symm
  have hk1 : S1.keys = [k] := o4
  have hk3 : S3.keys = [k] := b10.trans (a10.trans hk1)
  have hp3 : S3.publics = [(p, s), (q, t)] := by
    show (pairOf S2).2.publics = _
    rw [b8, show (pairOf (keyOf (OS.init d)).2).2.publics = [(p, s)] from by rw [a8, o7]; rfl]
    simp only [aput]; rw [if_neg hpq]
  have hw3 : S3.wrapped = [] := b14.trans (a14.trans o11)
  have hwr : wrapOf S3 p k = ((boxL (freshOf S3).1.toNat 8, 0), { (freshOf S3).2 with wrapped := [((freshOf S3).1, (p, k))] }) := by
    unfold wrapOf
    rw [if_pos (by rw [hp3]; simp [alook]), if_pos (by rw [hk3]; simp), hw3]; rfl
  have hx : x = boxL (freshOf S3).1.toNat 8 := by show (wrapOf S3 p k).1.1 = _; rw [hwr]
  have f12 : 0 < (freshOf S3).1 ∧ (freshOf S3).1 < 18446744073709551616 := freshOf_fit k3 (by show S3.used.length < 1000000; omega)
  obtain ⟨f1, f2⟩ := f12
  have hS4 : S4.publics = [(p, s), (q, t)] ∧ S4.keys = [k] ∧ S4.wrapped = [((freshOf S3).1, (p, k))] := by
    have : S4 = { (freshOf S3).2 with wrapped := [((freshOf S3).1, (p, k))] } := by show (wrapOf S3 p k).2 = _; rw [hwr]
    rw [this]
    exact ⟨(freshOf_frame S3).2.2.2.1.trans hp3, (freshOf_frame S3).2.1.trans hk3, rfl⟩
  obtain ⟨g1, g2, g3⟩ := hS4
  have hxl : x.length = 16 := by rw [hx, boxL_length]
  have hhx : ((handL x : Nat) : Int) = (freshOf S3).1 := by rw [hx, handL_box (by omega)]; omega
  refine ⟨k1, k2, k3, k4, by omega, by omega, by omega, by omega, hxl, by rw [hwr], ?_, ?_, ?_, ?_, ?_⟩
  · unfold unwrapOf; rw [hhx, g3]; simp [alook, hxl, g1]
  · unfold unwrapOf; rw [hhx, g3]; simp [alook, hxl, g1, hst]
  · by_cases hb : ((handL b : Nat) : Int) = (freshOf S3).1
    · by_cases hl : b.length = 16
      · right
        obtain ⟨_, h2⟩ := handL_back (bs := b) rfl (by omega)
        rw [h2, hx, hl, show handL b = (freshOf S3).1.toNat by omega]
      · left; unfold unwrapOf; rw [hb, g3]; simp [alook, hl]
    · left; unfold unwrapOf; rw [g3]; simp [alook, Ne.symm hb]
  · unfold wrapOf; rw [if_neg (by rw [g1]; simp [alook, hsp, Ne.symm hsp, Ne.symm hsq])]
  · unfold wrapOf; rw [if_pos (by rw [g1]; simp [alook]), if_neg (by rw [g2]; simp; exact hks)]

theorem OracleWraps_spec (w : World) {da ba : Option Addr} {dc bc : Nat} {d : List Int} {b : List UInt8} (hf : ∀ x ∈ d, 0 ≤ x ∧ x < 18446744073709551616) (hd : RowAt w da (d.map u64V)) (hb : RowAt w ba (bytesV b)) (hbc : b.length ≤ bc) :
    Calls Try.prog 12 #[.slice da d.length dc, .slice ba b.length bc] w (Gives (.bool true) fun w' => Ext no w w') := by
  refine (lWraps.ok _ _ _ _ _ _ (R := fun v w' => v = .bool true ∧ Ext no w w') ?_).mono fun e w' ⟨v, he, hv, hw⟩ => ⟨by rw [he, hv], hw⟩
  unfold lWraps.M
  have hal : ∀ w1, Ext no w w1 → Calls Try.prog 17 #[] w1 fun e w' => ∃ v : Bool, e = .returned (.bool v) ∧ (fun v w' => v = Value.bool true ∧ Ext no w w') (.bool v) w' := fun w1 hx =>
    (alive_spec w1).mono fun e w' ⟨he, hw⟩ => ⟨true, he, rfl, hx.trans hw⟩
  by_cases h1 : (d.length : Int) > 100
  · rw [decide_eq_true h1]; exact hal w (Ext.refl _ _)
  rw [decide_eq_false h1, cond_false]
  by_cases h2 : (b.length : Int) > 100
  · rw [decide_eq_true h2]; exact hal w (Ext.refl _ _)
  rw [decide_eq_false h2, cond_false]
  obtain ⟨k1, k2, k3, k4, l1, l2, l3, l4, q9, q10, q11, q12, q15, q13, q14⟩ := wraps_plain d hf b
  refine (New_spec hd (by omega)).mono fun e w11 ⟨g, he, hO, hx11, hg⟩ => ⟨some (blk g.p), he, ?_⟩
  have key : ∀ w', Ext g.m w11 w' → Ext no w w' := fun w' h' => hx11.then h' fun b hb => .inr (hg b hb).1
  have hob := hb.out (m := g.m) fun b hb => (hg b hb).1
  refine (Key_spec hO (OS.init_ok d hf) (by simp [OS.init])).mono fun e w14 ⟨he, hO14, hx14⟩ => ⟨_, he, ?_⟩
  refine (Pair_spec hO14 k1 (by omega)).mono fun e w18 ⟨he, hO18, hx18'⟩ => ⟨_, _, he, ?_⟩
  have hx18 := hx14.trans hx18'
  refine (Pair_spec hO18 k2 (by omega)).mono fun e w22 ⟨he, hO22, hx22'⟩ => ⟨_, _, he, ?_⟩
  have hx22 := hx18.trans hx22'
  refine (Wrap_spec hO22 k3 (by omega) _ _).mono fun e w26 ⟨⟨xa, xc, he, hxle, hxr, hxf⟩, hO26, hx26'⟩ => ⟨xa, _, xc, _, he, ?_⟩
  have hx26 := hx22.trans hx26'
  refine (Unwrap_spec hO26 _ (xc := xc) hxr (by omega) hxle).mono fun e w30 ⟨he, hx30'⟩ => ⟨_, _, he, ?_⟩
  have hx30 := hx26.trans hx30'.none
  have hO30 := hO26.none hx30'
  have hxr30 := hxr.no hx30'
  refine (Unwrap_spec hO30 _ (xc := xc) hxr30 (by omega) hxle).mono fun e w34 ⟨he, hx34'⟩ => ⟨_, _, he, ?_⟩
  have hx34 := hx30.trans hx34'.none
  have hO34 := hO30.none hx34'
  have hxr34 := hxr30.no hx34'
  refine (Unwrap_spec hO34 _ (xc := bc) (hb.no (key _ hx34)) (by omega) hbc).mono fun e w38 ⟨he, hx38'⟩ => ⟨_, _, he, ?_⟩
  have hx38 := hx34.trans hx38'.none
  have hO38 := hO34.none hx38'
  have hxr38 := hxr34.no hx38'
  refine (Wrap_spec hO38 k4 (by omega) _ _).mono fun e w42 ⟨⟨ya, yc, he, _, _, _⟩, hO42, hx42'⟩ => ⟨ya, _, yc, _, he, ?_⟩
  rw [q13] at hO42
  have hx42 := hx38.trans hx42'
  refine (Wrap_spec hO42 k4 (Nat.lt_of_le_of_lt l4 (by decide)) _ _).mono fun e w46 ⟨⟨za, zc, he, _, _, _⟩, hO46, hx46'⟩ => ⟨za, _, zc, _, he, ?_⟩
  have hx46 := hx42.trans hx46'
  refine (nil_sign _).mono fun e w50 ⟨he, hw⟩ => ⟨_, _, he, ?_⟩
  subst hw
  refine (nil_open _).mono fun e w54 ⟨he, hw⟩ => ⟨_, _, _, _, he, ?_⟩
  subst hw
  rw [q10, q11, q12]
  simp only [show ((0 : Int) == 0) = true from rfl, show ((11 : Int) == 11) = true from rfl, cond_true, beq_self_eq_true]
  by_cases hh : (unwrapOf (wrapOf (pairOf (pairOf (keyOf (OS.init d)).2).2).2 (pairOf (keyOf (OS.init d)).2).1.2 (keyOf (OS.init d)).1).2 (pairOf (keyOf (OS.init d)).2).1.1 b).2 = 4
  · rw [hh]
    simp only [show ((4 : Int) == 4) = true from rfl, cond_true]
    rw [q13]
    simp only [show ((20 : Int) == 20) = true from rfl, cond_true]
    rw [q14]
    simp only [show ((11 : Int) == 11) = true from rfl, show ((23 : Int) == 23) = true from rfl, cond_true]
    refine nil_hash.mono fun e w57 ⟨he, hw⟩ => ⟨_, he, ?_⟩
    subst hw
    simp only [show ((0 : Int) == 0) = true from rfl, cond_true]
    refine nil_used.mono fun e w60 ⟨he, hw⟩ => ⟨_, he, ?_⟩
    subst hw
    simp only [show ((0 : Int) == 0) = true from rfl, cond_true]
    exact hal _ (key _ hx46)
  · have hbx := q15.resolve_left hh
    rw [show ((unwrapOf (wrapOf (pairOf (pairOf (keyOf (OS.init d)).2).2).2 (pairOf (keyOf (OS.init d)).2).1.2 (keyOf (OS.init d)).1).2 (pairOf (keyOf (OS.init d)).2).1.1 b).2 == 4) = false by simpa using hh, cond_false]
    have hox : bytesV (wrapOf (pairOf (pairOf (keyOf (OS.init d)).2).2).2 (pairOf (keyOf (OS.init d)).2).1.2 (keyOf (OS.init d)).1).1.1 ≠ [] → Out g.m xa := fun _ => hxf.out fun q hq => .inl (hO22.lt q hq)
    have hxr46 := ((hxr38.ext' hx42' hox).ext' hx46' hox)
    refine (same_spec (hb.no (key _ hx46)) hxr46 (by omega)).mono fun e w66 ⟨he, hx66'⟩ => ⟨_, he, ?_⟩
    rw [decide_eq_true hbx, cond_true]
    rw [q13]
    simp only [show ((20 : Int) == 20) = true from rfl, cond_true]
    rw [q14]
    simp only [show ((11 : Int) == 11) = true from rfl, show ((23 : Int) == 23) = true from rfl, cond_true]
    refine nil_hash.mono fun e w57 ⟨he, hw⟩ => ⟨_, he, ?_⟩
    subst hw
    simp only [show ((0 : Int) == 0) = true from rfl, cond_true]
    refine nil_used.mono fun e w60 ⟨he, hw⟩ => ⟨_, he, ?_⟩
    subst hw
    simp only [show ((0 : Int) == 0) = true from rfl, cond_true]
    exact hal _ (key _ (hx46.trans hx66'.none))

theorem OracleWraps_walk (W : World) (a0 : Option Addr) (len0 cap0 : Nat) (a1 : Option Addr) (len1 cap1 : Nat) (o0 : IntsQ .u64 W [.slice a0 len0 cap0]) (o1 : BytesQ W [.slice a1 len1 cap1]) :
    Calls Try.prog 12 #[.slice a0 len0 cap0, .slice a1 len1 cap1] W (Gives (.bool true) fun w' => Ext no W w') := by
  obtain ⟨_, _, d, e0, _, _, r0, f0⟩ := o0
  obtain ⟨_, _, a, e1, g1, _, r1⟩ := o1
  cases e0; cases e1
  exact OracleWraps_spec W (fun x hx => wf_u64 (f0 x hx)) r0 r1 g1
end Go.Proofs.Ytbeakiidhndhhaa
