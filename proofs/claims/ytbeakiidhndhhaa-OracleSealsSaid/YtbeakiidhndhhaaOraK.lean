/- OracleSeals: what the law's function answers. -/
import Derived.Test.YtbeakiidhndhhaaOraG
import Derived.Test.YtbeakiidhndhhaaOraH
set_option linter.unusedVariables false
set_option linter.unusedSimpArgs false
namespace Go.Proofs.Ytbeakiidhndhhaa
open Go Go.Mx Go.Proofs
/-- cachettelaw03.OracleSeals -/
def lSeals.M (draws1a : Option Addr) (draws1n : Nat) (draws1c : Nat) (bound2a : Option Addr) (bound2n : Nat) (bound2c : Nat) (other3a : Option Addr) (other3n : Nat) (other3c : Nat) (plain4a : Option Addr) (plain4n : Nat) (plain4c : Nat) (atv5 : Int) (byv6 : Int) (R : Value → World → Prop) (w : World) : Prop :=
  bif decide ((draws1n : Int) > 100) then (
  Calls Try.prog 17 #[] w fun ee8 ww9 => ∃ (alive7 : Bool), ee8 = .returned (.bool alive7) ∧
  R (.bool alive7) ww9) else (
  bif decide ((bound2n : Int) > 300) then (
  Calls Try.prog 17 #[] w fun ee11 ww12 => ∃ (alive10 : Bool), ee11 = .returned (.bool alive10) ∧
  R (.bool alive10) ww12) else (
  bif decide ((other3n : Int) > 300) then (
  Calls Try.prog 17 #[] w fun ee14 ww15 => ∃ (alive13 : Bool), ee14 = .returned (.bool alive13) ∧
  R (.bool alive13) ww15) else (
  bif decide ((plain4n : Int) > 1500) then (
  Calls Try.prog 17 #[] w fun ee17 ww18 => ∃ (alive16 : Bool), ee17 = .returned (.bool alive16) ∧
  R (.bool alive16) ww18) else (
  Calls Try.prog 18 #[.slice draws1a draws1n draws1c] w fun ee20 ww21 => ∃ (new19 : Option Addr), ee20 = .returned (.pointer new19) ∧
  Calls Try.prog 24 #[.pointer new19] ww21 fun ee23 ww24 => ∃ (key22 : Int), ee23 = .returned (.int .u64 key22) ∧
  Calls Try.prog 24 #[.pointer new19] ww24 fun ee26 ww27 => ∃ (key25 : Int), ee26 = .returned (.int .u64 key25) ∧
  Calls Try.prog 26 #[.pointer new19, .int .u64 key22, .slice bound2a bound2n bound2c, .slice plain4a plain4n plain4c] ww27 fun ee30 ww31 => ∃ (sealv28a : Option Addr) (sealv28n : Nat) (sealv28c : Nat) (sealv29 : Int), ee30 = .returned (.tuple #[.slice sealv28a sealv28n sealv28c, .int .i64 sealv29]) ∧
  Calls Try.prog 49 #[.int .i64 (plain4n : Int)] ww31 fun ee33 ww34 => ∃ (classv32 : Int), ee33 = .returned (.int .i64 classv32) ∧
  bif decide (classv32 < 0) then (
  bif sealv29 == 3 then (
  bif (sealv28n : Int) == 0 then (
  Calls Try.prog 17 #[] ww34 fun ee36 ww37 => ∃ (alive35 : Bool), ee36 = .returned (.bool alive35) ∧
  R (.bool alive35) ww37) else (
  R (.bool false) ww34)) else (
  R (.bool false) ww34)) else (
  Calls Try.prog 50 #[.pointer new19, .int .u64 key22, .slice bound2a bound2n bound2c, .slice sealv28a sealv28n sealv28c] ww34 fun ee40 ww41 => ∃ (openv38a : Option Addr) (openv38n : Nat) (openv38c : Nat) (openv39 : Int), ee40 = .returned (.tuple #[.slice openv38a openv38n openv38c, .int .i64 openv39]) ∧
  Calls Try.prog 50 #[.pointer new19, .int .u64 key25, .slice bound2a bound2n bound2c, .slice sealv28a sealv28n sealv28c] ww41 fun ee44 ww45 => ∃ (openv42a : Option Addr) (openv42n : Nat) (openv42c : Nat) (openv43 : Int), ee44 = .returned (.tuple #[.slice openv42a openv42n openv42c, .int .i64 openv43]) ∧
  Calls Try.prog 50 #[.pointer new19, .int .u64 key22, .slice other3a other3n other3c, .slice sealv28a sealv28n sealv28c] ww45 fun ee48 ww49 => ∃ (openv46a : Option Addr) (openv46n : Nat) (openv46c : Nat) (openv47 : Int), ee48 = .returned (.tuple #[.slice openv46a openv46n openv46c, .int .i64 openv47]) ∧
  bif sealv29 != 0 then (
  R (.bool false) ww49) else (
  bif openv39 != 0 then (
  R (.bool false) ww49) else (
  Calls Try.prog 20 #[.slice openv38a openv38n openv38c, .slice plain4a plain4n plain4c] ww49 fun ee51 ww52 => ∃ (same50 : Bool), ee51 = .returned (.bool same50) ∧
  bif !same50 then (
  R (.bool false) ww52) else (
  bif openv43 != 11 then (
  R (.bool false) ww52) else (
  Calls Try.prog 20 #[.slice bound2a bound2n bound2c, .slice other3a other3n other3c] ww52 fun ee54 ww55 => ∃ (same53 : Bool), ee54 = .returned (.bool same53) ∧
  bif !((openv47 == 0) == same53) then (
  R (.bool false) ww55) else (
  bif decide (atv5 < 0) then (
  Calls Try.prog 17 #[] ww55 fun ee57 ww58 => ∃ (alive56 : Bool), ee57 = .returned (.bool alive56) ∧
  R (.bool alive56) ww58) else (
  bif decide (atv5 ≥ (sealv28n : Int)) then (
  Calls Try.prog 17 #[] ww55 fun ee60 ww61 => ∃ (alive59 : Bool), ee60 = .returned (.bool alive59) ∧
  R (.bool alive59) ww61) else (
  bif byv6 == 0 then (
  Calls Try.prog 17 #[] ww55 fun ee63 ww64 => ∃ (alive62 : Bool), ee63 = .returned (.bool alive62) ∧
  R (.bool alive62) ww64) else (
  thenW (ww55.alloc (.cells #[] 5)) fun ww65 =>
  ∃ (a66a : Option Addr) (a66n : Nat) (a66c : Nat) (ww67 : World), (Builtin.append_ #[23, 23] 23 #[.slice (some (blk ww55.heap.size)) 0 0, .slice sealv28a sealv28n sealv28c]).run Try.prog ww65 = .ok (.slice a66a a66n a66c) ww67 ∧
  a66a.elim False fun a68 =>
  0 ≤ (atv5 : Int) ∧ (atv5 : Int) < (a66n : Int) ∧
  ∃ (x69 : Int), ww67.cell? (a68.add (Int.toNat atv5 * 1)) = some (.int .u8 x69) ∧
  a66a.elim False fun a70 =>
  0 ≤ (atv5 : Int) ∧ (atv5 : Int) < (a66n : Int) ∧
  canStore ww67 ((a70.add (Int.toNat atv5 * 1)).add 0) ∧
  thenW (ww67.setCell ((a70.add (Int.toNat atv5 * 1)).add 0) (.int .u8 (IntKind.u8.wrap ((BitVec.ofInt (IntKind.bits .u8) x69 ^^^ BitVec.ofInt (IntKind.bits .u8) byv6).toNat)))) fun ww71 =>
  Calls Try.prog 50 #[.pointer new19, .int .u64 key22, .slice bound2a bound2n bound2c, .slice a66a a66n a66c] ww71 fun ee74 ww75 => ∃ (openv72a : Option Addr) (openv72n : Nat) (openv72c : Nat) (openv73 : Int), ee74 = .returned (.tuple #[.slice openv72a openv72n openv72c, .int .i64 openv73]) ∧
  bif openv73 == 4 then (
  Calls Try.prog 17 #[] ww75 fun ee77 ww78 => ∃ (alive76 : Bool), ee77 = .returned (.bool alive76) ∧
  R (.bool alive76) ww78) else (
  R (.bool false) ww75))))))))))))))

theorem lSeals.eq (draws1a : Option Addr) (draws1n : Nat) (draws1c : Nat) (bound2a : Option Addr) (bound2n : Nat) (bound2c : Nat) (other3a : Option Addr) (other3n : Nat) (other3c : Nat) (plain4a : Option Addr) (plain4n : Nat) (plain4c : Nat) (atv5 : Int) (byv6 : Int) (R : Value → World → Prop) (w : World) : mfunc Try.prog [] 11 [.slice draws1a draws1n draws1c, .slice bound2a bound2n bound2c, .slice other3a other3n other3c, .slice plain4a plain4n plain4c, .int .i64 atv5, .int .u8 byv6] R w = lSeals.M draws1a draws1n draws1c bound2a bound2n bound2c other3a other3n other3c plain4a plain4n plain4c atv5 byv6 R w := by kernel_rfl
theorem lSeals.ok (draws1a : Option Addr) (draws1n : Nat) (draws1c : Nat) (bound2a : Option Addr) (bound2n : Nat) (bound2c : Nat) (other3a : Option Addr) (other3n : Nat) (other3c : Nat) (plain4a : Option Addr) (plain4n : Nat) (plain4c : Nat) (atv5 : Int) (byv6 : Int) {R : Value → World → Prop} {w : World} (h : lSeals.M draws1a draws1n draws1c bound2a bound2n bound2c other3a other3n other3c plain4a plain4n plain4c atv5 byv6 R w) : Calls Try.prog 11 #[.slice draws1a draws1n draws1c, .slice bound2a bound2n bound2c, .slice other3a other3n other3c, .slice plain4a plain4n plain4c, .int .i64 atv5, .int .u8 byv6] w fun e w' => ∃ v, e = .returned v ∧ R v w' :=
  mfunc_ok follows (H := []) (args := [.slice draws1a draws1n draws1c, .slice bound2a bound2n bound2c, .slice other3a other3n other3c, .slice plain4a plain4n plain4c, .int .i64 atv5, .int .u8 byv6]) (by rw [lSeals.eq]; exact h)


theorem seals_keys (d : List Int) (hf : ∀ x ∈ d, 0 ≤ x ∧ x < 18446744073709551616) :
    let S1 := (keyOf (OS.init d)).2; let k := (keyOf (OS.init d)).1
    let S2 := (keyOf S1).2; let j := (keyOf S1).1
    S1.ok ∧ S2.ok ∧ S1.used.length ≤ 1 ∧ S2.used.length ≤ 2 ∧ k ∈ S2.keys ∧ k ≠ j ∧ S2.sealed = [] := by
  intro S1 k S2 j
  have k0 := OS.init_ok d hf
  obtain ⟨k1, l1⟩ := keyOf_ok k0
  obtain ⟨k2, l2⟩ := keyOf_ok k1
  obtain ⟨o1, o2, o3, o4, o5, o6, o7, o8, o9, o10, o11⟩ := keyOf_spec k0
  obtain ⟨p1, p2, p3, p4, p5, p6, p7, p8, p9, p10, p11⟩ := keyOf_spec k1
  have m1 : S1.used.length ≤ 0 + 1 := l1
  have m2 : S2.used.length ≤ S1.used.length + 1 := l2
  clear l1 l2
  have u1 : S1.used = [k] := o3
  have hk1 : S1.keys = [k] := o4
  have hkj : k ≠ j := fun e => p2 (by rw [show (keyOf (OS.init d)).2.used = [k] from u1]; simp; exact e.symm)
  refine ⟨k1, k2, by omega, by omega, ?_, hkj, p10.trans o10⟩
  show k ∈ (keyOf S1).2.keys
  rw [p4, show (keyOf (OS.init d)).2.keys = [k] from hk1]
  unfold badd
  rw [if_neg (by simp; exact fun e => hkj e.symm)]
  simp
theorem seals_plain {S : OS} (hok : S.ok) (hl : S.used.length ≤ 2) {k j : Int} (hk : k ∈ S.keys) (hkj : k ≠ j) (hse : S.sealed = []) (b o p : List UInt8) :
    (classOf p.length < 0 → sealOf S k b p = (([], 3), S)) ∧
    (¬ classOf p.length < 0 → (sealOf S k b p).1.2 = 0 ∧ (sealOf S k b p).2.ok ∧ (∀ x s, alook (sealOf S k b p).2.sealed x = some s → s.plain = p) ∧
      (sealOf S k b p).1.1.length ≤ 1032 ∧
      openOf (sealOf S k b p).2 k b (sealOf S k b p).1.1 = (p, 0) ∧ (openOf (sealOf S k b p).2 j b (sealOf S k b p).1.1).2 = 11 ∧
      (openOf (sealOf S k b p).2 k o (sealOf S k b p).1.1).2 = (if b = o then 0 else 5) ∧
      ∀ y, y.length = (sealOf S k b p).1.1.length → y ≠ (sealOf S k b p).1.1 → (openOf (sealOf S k b p).2 k b y).2 = 4) := by
  refine ⟨fun h => by unfold sealOf; rw [if_pos hk, if_pos h], fun h => ?_⟩
  have hso : sealOf S k b p = ((boxL (freshOf S).1.toNat (sizeN (classOf p.length)), 0), { (freshOf S).2 with sealed := [((freshOf S).1, ⟨k, b, p⟩)] }) := by
    unfold sealOf; rw [if_pos hk, if_neg h, hse]; rfl
  obtain ⟨f1, f2⟩ := freshOf_fit hok (by omega)
  have hsz := sizeN_le (classOf p.length)
  have hh : ((handL (boxL (freshOf S).1.toNat (sizeN (classOf p.length))) : Nat) : Int) = (freshOf S).1 := by rw [handL_box (by omega)]; omega
  have hokk := (sealOf_ok hok k b p).1
  rw [hso] at hokk ⊢
  refine ⟨rfl, hokk, ?_, by show (boxL _ _).length ≤ _; rw [boxL_length]; omega, ?_, ?_, ?_, ?_⟩
  · intro x s hs
    simp only [alook] at hs
    split at hs
    · cases hs; rfl
    · cases hs
  · unfold openOf
    simp only [hh, alook, if_true, boxL_length, ne_eq, not_true_eq_false, if_false]
  · unfold openOf
    simp only [hh, alook, if_true, boxL_length, ne_eq, not_true_eq_false, if_false]
    rw [if_pos hkj]
  · unfold openOf
    simp only [hh, alook, if_true, boxL_length, ne_eq, not_true_eq_false, if_false]
    by_cases hbo : b = o
    · rw [if_neg (by simpa using hbo), if_pos hbo]
    · rw [if_pos hbo, if_neg hbo]
  · intro y hyl hy
    have hne : ((handL y : Nat) : Int) ≠ (freshOf S).1 := fun e => by
      obtain ⟨q1, q2⟩ := handL_back (bs := y) rfl (by omega)
      refine hy (q2.trans ?_)
      rw [hyl]
      show boxL _ ((boxL _ _).length - 8) = _
      rw [boxL_length, show handL y = (freshOf S).1.toNat by omega, Nat.add_sub_cancel_left]
    unfold openOf
    simp only [alook, Ne.symm hne, if_false]

theorem OracleSeals_spec (w : World) {da ba oa pa : Option Addr} {dc bc oc pc : Nat} {d : List Int} {b o p : List UInt8} (at_ by_ : Int) (hby : 0 ≤ by_ ∧ by_ < 256) (hf : ∀ x ∈ d, 0 ≤ x ∧ x < 18446744073709551616) (hd : RowAt w da (d.map u64V)) (hb : RowAt w ba (bytesV b)) (ho : RowAt w oa (bytesV o)) (hp : RowAt w pa (bytesV p)) :
    Calls Try.prog 11 #[.slice da d.length dc, .slice ba b.length bc, .slice oa o.length oc, .slice pa p.length pc, .int .i64 at_, .int .u8 by_] w (Gives (.bool true) fun w' => Ext no w w') := by
  refine (lSeals.ok _ _ _ _ _ _ _ _ _ _ _ _ _ _ (R := fun v w' => v = .bool true ∧ Ext no w w') ?_).mono fun e w' ⟨v, he, hv, hw⟩ => ⟨by rw [he, hv], hw⟩
  unfold lSeals.M
  have hal : ∀ w1, Ext no w w1 → Calls Try.prog 17 #[] w1 fun e w' => ∃ v : Bool, e = .returned (.bool v) ∧ (fun v w' => v = Value.bool true ∧ Ext no w w') (.bool v) w' := fun w1 hx =>
    (alive_spec w1).mono fun e w' ⟨he, hw⟩ => ⟨true, he, rfl, hx.trans hw⟩
  by_cases h1 : (d.length : Int) > 100
  · rw [decide_eq_true h1]; exact hal w (Ext.refl _ _)
  rw [decide_eq_false h1, cond_false]
  by_cases h2 : (b.length : Int) > 300
  · rw [decide_eq_true h2]; exact hal w (Ext.refl _ _)
  rw [decide_eq_false h2, cond_false]
  by_cases h3 : (o.length : Int) > 300
  · rw [decide_eq_true h3]; exact hal w (Ext.refl _ _)
  rw [decide_eq_false h3, cond_false]
  by_cases h4 : (p.length : Int) > 1500
  · rw [decide_eq_true h4]; exact hal w (Ext.refl _ _)
  rw [decide_eq_false h4, cond_false]
  obtain ⟨k1, k2, l1, l2, hk, hkj, hse⟩ := seals_keys d hf
  obtain ⟨p1, p2⟩ := seals_plain k2 l2 hk hkj hse b o p
  generalize hS2 : (keyOf (keyOf (OS.init d)).2).2 = S2 at *
  refine (New_spec hd (by omega)).mono fun e w11 ⟨g, he, hO, hx11, hg⟩ => ⟨some (blk g.p), he, ?_⟩
  have key : ∀ w', Ext g.m w11 w' → Ext no w w' := fun w' h' => hx11.then h' fun b hb => .inr (hg b hb).1
  have hob := hb.out (m := g.m) fun b hb => (hg b hb).1
  have hop := hp.out (m := g.m) fun b hb => (hg b hb).1
  refine (Key_spec hO (OS.init_ok d hf) (by simp [OS.init])).mono fun e w14 ⟨he, hO14, hx14⟩ => ⟨_, he, ?_⟩
  refine (Key_spec hO14 k1 (by omega)).mono fun e w27 ⟨he, hO27, hx27'⟩ => ⟨_, he, ?_⟩
  have hx27 := hx14.trans hx27'
  rw [hS2] at hO27
  refine (Seal_spec (bc := bc) (pc := pc) hO27 k2 (by omega) (keyOf (OS.init d)).1 (hb.no (key _ hx27)) (hp.no (key _ hx27)) hob hop (by omega) (by omega)).mono fun e w31 ⟨⟨xa, xc, he, hxle, hxr, hxf⟩, hO31, hx31'⟩ => ⟨xa, _, xc, _, he, ?_⟩
  have hx31 := hx27.trans hx31'
  refine (Class_spec p.length).mono fun e w34 ⟨he, hw⟩ => ⟨_, he, ?_⟩
  subst hw
  by_cases hc : classOf p.length < 0
  · rw [decide_eq_true hc, cond_true, p1 hc]
    simp only [show ((3 : Int) == 3) = true from rfl, cond_true, List.length_nil, Int.natCast_zero, show ((0 : Int) == 0) = true from rfl, show (((0 : Nat) : Int) == 0) = true from rfl]
    exact hal _ (key _ hx31)
  rw [decide_eq_false hc, cond_false]
  obtain ⟨q1, q2, q3, q4, q5, q6, q7, q8⟩ := p2 hc
  generalize hxs : (sealOf S2 (keyOf (OS.init d)).1 b p).1.1 = xs at *
  generalize hS3 : (sealOf S2 (keyOf (OS.init d)).1 b p).2 = S3 at *
  have hpl : ∀ x s, alook S3.sealed x = some s → s.plain.length ≤ 1000000 := fun x s hs => by rw [q3 x s hs]; omega
  refine (Open_spec (bc := bc) (xc := xc) hO31 (keyOf (OS.init d)).1 (hb.no (key _ hx31)) hxr (by omega) hxle (hpl _)).mono fun e w41 ⟨⟨ya, yc, he, hyle, hyr, hyf⟩, hx41'⟩ => ⟨ya, _, yc, _, he, ?_⟩
  have hx41 := hx31.trans hx41'.none
  have hO41 := hO31.none hx41'
  refine (Open_spec (bc := bc) (xc := xc) hO41 (keyOf (keyOf (OS.init d)).2).1 (hb.no (key _ hx41)) (hxr.no hx41') (by omega) hxle (hpl _)).mono fun e w45 ⟨⟨za, zc, he, _, _, _⟩, hx45'⟩ => ⟨za, _, zc, _, he, ?_⟩
  have hx45 := hx41.trans hx45'.none
  have hO45 := hO41.none hx45'
  refine (Open_spec (bc := oc) (xc := xc) hO45 (keyOf (OS.init d)).1 (ho.no (key _ hx45)) ((hxr.no hx41').no hx45') (by omega) hxle (hpl _)).mono fun e w49 ⟨⟨ua, uc, he, _, _, _⟩, hx49'⟩ => ⟨ua, _, uc, _, he, ?_⟩
  have hx49 := hx45.trans hx49'.none
  have hO49 := hO45.none hx49'
  rw [q1, q5, q6, q7]
  rw [q5] at hyr hyle
  simp only [show ((0 : Int) != 0) = false from rfl, show ((11 : Int) != 11) = false from rfl, cond_false]
  refine (same_spec ((hyr.no hx45').no hx49') (hp.no (key _ hx49)) (by show p.length < 1000000; omega)).mono fun e w52 ⟨he, hx52'⟩ => ⟨_, he, ?_⟩
  have hx52 := hx49.trans hx52'.none
  rw [decide_eq_true rfl, Bool.not_true, cond_false]
  refine (same_spec (hb.no (key _ hx52)) (ho.no (key _ hx52)) (by omega)).mono fun e w55 ⟨he, hx55'⟩ => ⟨_, he, ?_⟩
  have hx55 := hx52.trans hx55'.none
  have hO55 := (hO49.none hx52').none hx55'
  have hxr55 := ((((hxr.no hx41').no hx45').no hx49').no hx52').no hx55'
  have e9 : (!(((if b = o then (0 : Int) else 5) == 0) == decide (b = o))) = false := by
    by_cases hbo : b = o
    · simp [hbo]
    · simp [hbo]
  rw [e9, cond_false]
  by_cases ha : at_ < 0
  · rw [decide_eq_true ha]; exact hal _ (key _ hx55)
  rw [decide_eq_false ha, cond_false]
  by_cases ha2 : at_ ≥ (xs.length : Int)
  · rw [decide_eq_true ha2]; exact hal _ (key _ hx55)
  rw [decide_eq_false ha2, cond_false]
  by_cases hb0 : by_ = 0
  · rw [beq_iff_eq.2 hb0]; exact hal _ (key _ hx55)
  rw [beq_eq_false_iff_ne.2 hb0, cond_false]
  refine thenW_in fun w65 h65 => ?_
  subst h65
  obtain ⟨i, hi, hz, hs, hbb⟩ := info_of inf5
  obtain ⟨ca, cc, w67, hr, hcle, hown, hcr, hx67', hcf⟩ := clone_owns (c := xc) (m := xs.length) (ty := 23) Try.underlying23 hi hz hs hbb rfl (bytesV_length xs) hxr55 (bytesV_one xs) (by omega) (by omega)
  refine ⟨ca, xs.length, cc, w67, hr, ?_⟩
  obtain ⟨n, rfl⟩ : ∃ n : Nat, at_ = n := ⟨at_.toNat, by omega⟩
  have hn : n < xs.length := by omega
  obtain ⟨cad, rfl, _⟩ := owns_store hown hn (.int .u8 0)
  have hat : (cad.add (Int.toNat (n : Int) * 1)) = cad.add n := by rw [Int.toNat_natCast, Nat.mul_one]
  have hxn := u8_lt xs[n]
  obtain ⟨nb, hnb, hnb2⟩ := xor_byte (x := (xs[n].toNat : Int)) (y := by_) (by omega) (by omega) hby.1 hby.2 hb0
  obtain ⟨_, hce, hcan, hrow, _⟩ := owns_store hown hn (.int .u8 (nb.toNat : Int))
  cases hce
  refine ⟨by omega, by omega, xs[n].toNat, by rw [hat]; exact hcr.at_ (bytesV_get hn), by omega, by omega, by rw [hat, add_zero]; exact hcan, ?_⟩
  rw [hnb]
  refine thenW_in fun w71 h71 => ?_
  rw [hat, add_zero] at h71
  rw [← h71] at hrow
  have hys : (bytesV xs).set n (.int .u8 (nb.toNat : Int)) = bytesV (xs.set n nb) := by simp [bytesV, u8V, List.map_set]
  rw [hys] at hrow
  have hx71' : Ext no w55 w71 := by
    subst h71
    exact hx67'.setCell (.inr (by rw [block_add]; exact (hcf cad rfl).1)) _
  have hx71 := hx55.trans hx71'.none
  have hO71 := hO55.none hx71'
  have hyl : (xs.set n nb).length = xs.length := List.length_set
  have hyne : xs.set n nb ≠ xs := fun e => by
    have := congrArg (fun l => l[n]?) e
    simp [hn] at this
    exact hnb2 (by rw [this])
  have hop71 := Open_spec (bc := bc) (xc := cc) (ba := ba) (b := b) hO71 (keyOf (OS.init d)).1 (hb.no (key _ hx71)) hrow (by rw [hyl]; omega) (by rw [hyl]; exact hcle) (hpl _)
  rw [hyl] at hop71
  refine hop71.mono fun e w75 ⟨⟨va, vc, he, _, _, _⟩, hx75'⟩ => ⟨va, _, vc, _, he, ?_⟩
  rw [q8 _ hyl hyne]
  simp only [show ((4 : Int) == 4) = true from rfl, cond_true]
  exact hal _ (key _ (hx71.trans hx75'.none))

theorem OracleSeals_walk (W : World) (a0 : Option Addr) (len0 cap0 : Nat) (a1 : Option Addr) (len1 cap1 : Nat) (a2 : Option Addr) (len2 cap2 : Nat) (a3 : Option Addr) (len3 cap3 : Nat) (a4 a5 : Int)
    (o0 : IntsQ .u64 W [.slice a0 len0 cap0]) (o1 : BytesQ W [.slice a1 len1 cap1]) (o2 : BytesQ W [.slice a2 len2 cap2]) (o3 : BytesQ W [.slice a3 len3 cap3]) (w4 : (Lit.int .i64 a4).wf = true) (w5 : (Lit.int .u8 a5).wf = true) :
    Calls Try.prog 11 #[.slice a0 len0 cap0, .slice a1 len1 cap1, .slice a2 len2 cap2, .slice a3 len3 cap3, .int .i64 a4, .int .u8 a5] W (Gives (.bool true) fun w' => Ext no W w') := by
  obtain ⟨_, _, d, e0, _, _, r0, f0⟩ := o0
  obtain ⟨_, _, a, e1, _, _, r1⟩ := o1
  obtain ⟨_, _, b, e2, _, _, r2⟩ := o2
  obtain ⟨_, _, c, e3, _, _, r3⟩ := o3
  cases e0; cases e1; cases e2; cases e3
  exact OracleSeals_spec W a4 a5 (wf_u8 w5) (fun x hx => wf_u64 (f0 x hx)) r0 r1 r2 r3
end Go.Proofs.Ytbeakiidhndhhaa
