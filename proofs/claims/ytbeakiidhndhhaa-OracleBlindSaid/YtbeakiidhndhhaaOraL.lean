/- OracleBlind: what the law's function answers. -/
import Derived.Test.YtbeakiidhndhhaaOraG
import Derived.Test.YtbeakiidhndhhaaOraH
set_option linter.unusedVariables false
set_option linter.unusedSimpArgs false
namespace Go.Proofs.Ytbeakiidhndhhaa
open Go Go.Mx Go.Proofs
/-- cachettelaw03.OracleBlind -/
def lBlind.M (draws1a : Option Addr) (draws1n : Nat) (draws1c : Nat) (a2a : Option Addr) (a2n : Nat) (a2c : Nat) (b3a : Option Addr) (b3n : Nat) (b3c : Nat) (R : Value → World → Prop) (w : World) : Prop :=
  bif decide ((draws1n : Int) > 100) then (
  Calls Try.prog 17 #[] w fun ee5 ww6 => ∃ (alive4 : Bool), ee5 = .returned (.bool alive4) ∧
  R (.bool alive4) ww6) else (
  bif decide ((a2n : Int) > 20) then (
  Calls Try.prog 17 #[] w fun ee8 ww9 => ∃ (alive7 : Bool), ee8 = .returned (.bool alive7) ∧
  R (.bool alive7) ww9) else (
  bif decide ((b3n : Int) > 20) then (
  Calls Try.prog 17 #[] w fun ee11 ww12 => ∃ (alive10 : Bool), ee11 = .returned (.bool alive10) ∧
  R (.bool alive10) ww12) else (
  Calls Try.prog 18 #[.slice draws1a draws1n draws1c] w fun ee14 ww15 => ∃ (new13 : Option Addr), ee14 = .returned (.pointer new13) ∧
  Calls Try.prog 18 #[.slice draws1a draws1n draws1c] ww15 fun ee17 ww18 => ∃ (new16 : Option Addr), ee17 = .returned (.pointer new16) ∧
  Calls Try.prog 24 #[.pointer new13] ww18 fun ee20 ww21 => ∃ (key19 : Int), ee20 = .returned (.int .u64 key19) ∧
  Calls Try.prog 24 #[.pointer new16] ww21 fun ee23 ww24 => ∃ (key22 : Int), ee23 = .returned (.int .u64 key22) ∧
  ∃ (I0 : Nat → List Value → World → Prop) (m26 : Nat), I0 m26 [.int .i64 0] ww24 ∧ ∀ (m27 : Nat) (ww28 : World) (i25 : Int), I0 m27 [.int .i64 i25] ww28 →
  bif decide (i25 < (a2n : Int)) then (
  bif decide (i25 < (b3n : Int)) then (
  thenW (ww28.drew) fun ww29 =>
  a2a.elim False fun a30 =>
  0 ≤ (i25 : Int) ∧ (i25 : Int) < (a2n : Int) ∧
  ∃ (x31a : Option Addr) (x31n : Nat) (x31c : Nat), ww29.cell? (a30.add (Int.toNat i25 * 1)) = some (.slice x31a x31n x31c) ∧
  bif decide ((x31n : Int) > 1500) then (
  Calls Try.prog 17 #[] ww29 fun ee33 ww34 => ∃ (alive32 : Bool), ee33 = .returned (.bool alive32) ∧
  R (.bool alive32) ww34) else (
  b3a.elim False fun a35 =>
  0 ≤ (i25 : Int) ∧ (i25 : Int) < (b3n : Int) ∧
  ∃ (x36a : Option Addr) (x36n : Nat) (x36c : Nat), ww29.cell? (a35.add (Int.toNat i25 * 1)) = some (.slice x36a x36n x36c) ∧
  bif decide ((x36n : Int) > 1500) then (
  Calls Try.prog 17 #[] ww29 fun ee38 ww39 => ∃ (alive37 : Bool), ee38 = .returned (.bool alive37) ∧
  R (.bool alive37) ww39) else (
  a2a.elim False fun a40 =>
  0 ≤ (i25 : Int) ∧ (i25 : Int) < (a2n : Int) ∧
  ∃ (x41a : Option Addr) (x41n : Nat) (x41c : Nat), ww29.cell? (a40.add (Int.toNat i25 * 1)) = some (.slice x41a x41n x41c) ∧
  b3a.elim False fun a42 =>
  0 ≤ (i25 : Int) ∧ (i25 : Int) < (b3n : Int) ∧
  ∃ (x43a : Option Addr) (x43n : Nat) (x43c : Nat), ww29.cell? (a42.add (Int.toNat i25 * 1)) = some (.slice x43a x43n x43c) ∧
  Calls Try.prog 25 #[.slice x41a x41n x41c, .slice x43a x43n x43c] ww29 fun ee45 ww46 => ∃ (alike44 : Bool), ee45 = .returned (.bool alike44) ∧
  bif !alike44 then (
  Calls Try.prog 17 #[] ww46 fun ee48 ww49 => ∃ (alive47 : Bool), ee48 = .returned (.bool alive47) ∧
  R (.bool alive47) ww49) else (
  a2a.elim False fun a50 =>
  0 ≤ (i25 : Int) ∧ (i25 : Int) < (a2n : Int) ∧
  ∃ (x51a : Option Addr) (x51n : Nat) (x51c : Nat), ww46.cell? (a50.add (Int.toNat i25 * 1)) = some (.slice x51a x51n x51c) ∧
  Calls Try.prog 26 #[.pointer new13, .int .u64 key19, .slice none 0 0, .slice x51a x51n x51c] ww46 fun ee54 ww55 => ∃ (sealv52a : Option Addr) (sealv52n : Nat) (sealv52c : Nat) (sealv53 : Int), ee54 = .returned (.tuple #[.slice sealv52a sealv52n sealv52c, .int .i64 sealv53]) ∧
  b3a.elim False fun a56 =>
  0 ≤ (i25 : Int) ∧ (i25 : Int) < (b3n : Int) ∧
  ∃ (x57a : Option Addr) (x57n : Nat) (x57c : Nat), ww55.cell? (a56.add (Int.toNat i25 * 1)) = some (.slice x57a x57n x57c) ∧
  Calls Try.prog 26 #[.pointer new16, .int .u64 key22, .slice none 0 0, .slice x57a x57n x57c] ww55 fun ee60 ww61 => ∃ (sealv58a : Option Addr) (sealv58n : Nat) (sealv58c : Nat) (sealv59 : Int), ee60 = .returned (.tuple #[.slice sealv58a sealv58n sealv58c, .int .i64 sealv59]) ∧
  Calls Try.prog 20 #[.slice sealv52a sealv52n sealv52c, .slice sealv58a sealv58n sealv58c] ww61 fun ee63 ww64 => ∃ (same62 : Bool), ee63 = .returned (.bool same62) ∧
  bif !same62 then (
  R (.bool false) ww64) else (
  bif sealv53 != sealv59 then (
  R (.bool false) ww64) else (
  ∃ m65, m65 < m27 ∧ I0 m65 [.int .i64 (IntKind.i64.wrap (i25 + 1))] ww64)))))) else (
  bif key19 == key22 then (
  Calls Try.prog 17 #[] ww28 fun ee67 ww68 => ∃ (alive66 : Bool), ee67 = .returned (.bool alive66) ∧
  R (.bool alive66) ww68) else (
  R (.bool false) ww28))) else (
  bif key19 == key22 then (
  Calls Try.prog 17 #[] ww28 fun ee70 ww71 => ∃ (alive69 : Bool), ee70 = .returned (.bool alive69) ∧
  R (.bool alive69) ww71) else (
  R (.bool false) ww28)))))

theorem lBlind.eq (draws1a : Option Addr) (draws1n : Nat) (draws1c : Nat) (a2a : Option Addr) (a2n : Nat) (a2c : Nat) (b3a : Option Addr) (b3n : Nat) (b3c : Nat) (R : Value → World → Prop) (w : World) : mfunc Try.prog [(0, [1, 2, 7, 8, 9, 10], [(11, (.one (.int .i64)))])] 5 [.slice draws1a draws1n draws1c, .slice a2a a2n a2c, .slice b3a b3n b3c] R w = lBlind.M draws1a draws1n draws1c a2a a2n a2c b3a b3n b3c R w := by kernel_rfl
theorem lBlind.ok (draws1a : Option Addr) (draws1n : Nat) (draws1c : Nat) (a2a : Option Addr) (a2n : Nat) (a2c : Nat) (b3a : Option Addr) (b3n : Nat) (b3c : Nat) {R : Value → World → Prop} {w : World} (h : lBlind.M draws1a draws1n draws1c a2a a2n a2c b3a b3n b3c R w) : Calls Try.prog 5 #[.slice draws1a draws1n draws1c, .slice a2a a2n a2c, .slice b3a b3n b3c] w fun e w' => ∃ v, e = .returned v ∧ R v w' :=
  mfunc_ok follows (H := [(0, [1, 2, 7, 8, 9, 10], [(11, (.one (.int .i64)))])]) (args := [.slice draws1a draws1n draws1c, .slice a2a a2n a2c, .slice b3a b3n b3c]) (by rw [lBlind.eq]; exact h)


/-- two oracles beside each other. -/
structure DuoG (w0 w : World) (G1 G2 : OG) (S S' : OS) : Prop where
  a : Orc w G1 S
  b : Orc w G2 S'
  ab : ∀ q, G1.m q → G2.x q
  ba : ∀ q, G2.m q → G1.x q
  l1 : ∀ q, G1.m q → w0.heap.size ≤ q
  l2 : ∀ q, G2.m q → w0.heap.size ≤ q
  e : Ext no w0 w
section
variable {w0 w w1 : World} {G1 G2 : OG} {S S' S1 : OS}
theorem DuoG.step1 (h : DuoG w0 w G1 G2 S S') (hO : Orc w1 G1 S1) (k : Ext G1.m w w1) : DuoG w0 w1 G1 (G2.more w w1) S1 S' :=
  ⟨hO, h.b.foreign k (fun q _ hq => h.ab q hq), fun q hq => .inl (h.ab q hq), h.ba, h.l1, h.l2, h.e.then k fun q hq => .inr (h.l1 q hq)⟩
theorem DuoG.step2 (h : DuoG w0 w G1 G2 S S') (hO : Orc w1 G2 S1) (k : Ext G2.m w w1) : DuoG w0 w1 (G1.more w w1) G2 S S1 :=
  ⟨h.a.foreign k (fun q _ hq => h.ba q hq), hO, h.ab, fun q hq => .inl (h.ba q hq), h.l1, h.l2, h.e.then k fun q hq => .inr (h.l2 q hq)⟩
theorem DuoG.none (h : DuoG w0 w G1 G2 S S') (k : Ext no w w1) : DuoG w0 w1 G1 G2 S S' :=
  ⟨h.a.none k, h.b.none k, h.ab, h.ba, h.l1, h.l2, h.e.trans k⟩
/-- they give the same handles. -/
def like (S S' : OS) : Prop := S.draws = S'.draws ∧ S.used = S'.used ∧ S.next = S'.next ∧ S.keys = S'.keys
theorem fresh_like (h : like S S') : (freshOf S).1 = (freshOf S').1 ∧ like (freshOf S).2 (freshOf S').2 := by
  obtain ⟨h1, h2, h3, h4⟩ := h
  have k1 := (freshOf_frame S).2.1
  have k2 := (freshOf_frame S').2.1
  have key : (freshOf S).1 = (freshOf S').1 ∧ (freshOf S).2.draws = (freshOf S').2.draws ∧ (freshOf S).2.used = (freshOf S').2.used ∧ (freshOf S).2.next = (freshOf S').2.next := by
    unfold freshOf
    rw [h1, h2, h3]
    cases pickD S'.draws S'.used with
    | some q => exact ⟨rfl, rfl, rfl, rfl⟩
    | none => exact ⟨rfl, rfl, rfl, rfl⟩
  exact ⟨key.1, key.2.1, key.2.2.1, key.2.2.2, by rw [k1, k2, h4]⟩
theorem seal_like (h : like S S') (k : Int) (b p q : List UInt8) (hc : classOf p.length = classOf q.length) : (sealOf S k b p).1 = (sealOf S' k b q).1 ∧ like (sealOf S k b p).2 (sealOf S' k b q).2 := by
  obtain ⟨f1, f2⟩ := fresh_like h
  unfold sealOf
  rw [h.2.2.2, hc]
  by_cases hk : k ∈ S'.keys
  · rw [if_pos hk, if_pos hk]
    by_cases hcl : classOf q.length < 0
    · rw [if_pos hcl, if_pos hcl]; exact ⟨rfl, h⟩
    · rw [if_neg hcl, if_neg hcl, f1]; exact ⟨rfl, f2⟩
  · rw [if_neg hk, if_neg hk]; exact ⟨rfl, h⟩
end

theorem OracleBlind_spec (w : World) {da aa ba : Option Addr} {dc ac bc : Nat} {d : List Int} {la lb : List BS} (hf : ∀ x ∈ d, 0 ≤ x ∧ x < 18446744073709551616) (hd : RowAt w da (d.map u64V)) (ha : RowAt w aa (la.map BS.v)) (hb : RowAt w ba (lb.map BS.v))
    (hag : ∀ x ∈ la, x.good w) (hbg : ∀ x ∈ lb, x.good w) :
    Calls Try.prog 5 #[.slice da d.length dc, .slice aa la.length ac, .slice ba lb.length bc] w (Gives (.bool true) fun w' => Ext no w w') := by
  refine (lBlind.ok _ _ _ _ _ _ _ _ _ (R := fun v w' => v = .bool true ∧ Ext no w w') ?_).mono fun e w' ⟨v, he, hv, hw⟩ => ⟨by rw [he, hv], hw⟩
  unfold lBlind.M
  have hal : ∀ w1, Ext no w w1 → Calls Try.prog 17 #[] w1 fun e w' => ∃ v : Bool, e = .returned (.bool v) ∧ (fun v w' => v = Value.bool true ∧ Ext no w w') (.bool v) w' := fun w1 hx =>
    (alive_spec w1).mono fun e w' ⟨he, hw⟩ => ⟨true, he, rfl, hx.trans hw⟩
  by_cases h1 : (d.length : Int) > 100
  · rw [decide_eq_true h1]; exact hal w (Ext.refl _ _)
  rw [decide_eq_false h1, cond_false]
  by_cases h2 : (la.length : Int) > 20
  · rw [decide_eq_true h2]; exact hal w (Ext.refl _ _)
  rw [decide_eq_false h2, cond_false]
  by_cases h3 : (lb.length : Int) > 20
  · rw [decide_eq_true h3]; exact hal w (Ext.refl _ _)
  rw [decide_eq_false h3, cond_false]
  have k0 := OS.init_ok d hf
  refine (New_spec hd (by omega)).mono fun e w15 ⟨g1, he, hO1, hx15, hg1⟩ => ⟨some (blk g1.p), he, ?_⟩
  refine (New_specX g1.m hO1.lt (hd.no hx15) (by omega)).mono fun e w18 ⟨g2, he, hO2, hx18, hg2, hg2x⟩ => ⟨some (blk g2.p), he, ?_⟩
  have duo : DuoG w w18 (g1.more w15 w18) g2 (OS.init d) (OS.init d) := ⟨hO1.foreign hx18 fun q _ hq => hq.elim, hO2, fun q hq => by rw [hg2x]; exact hq, fun q hq => .inr (hg2 q hq), fun q hq => (hg1 q hq).1, fun q hq => Nat.le_trans hx15.size (hg2 q hq).1, hx15.trans hx18⟩
  refine (Key_spec duo.a k0 (by simp [OS.init])).mono fun e w21 ⟨he, hO21, hx21⟩ => ⟨_, he, ?_⟩
  have duo21 := duo.step1 hO21 hx21
  refine (Key_spec duo21.b k0 (by simp [OS.init])).mono fun e w24 ⟨he, hO24, hx24⟩ => ⟨_, he, ?_⟩
  have duo24 := duo21.step2 hO24 hx24
  obtain ⟨k1, l1⟩ := keyOf_ok k0
  have l1' : (keyOf (OS.init d)).2.used.length ≤ 0 + 1 := l1
  generalize hkk : (keyOf (OS.init d)).1 = kk at *
  generalize hS1 : (keyOf (OS.init d)).2 = S1 at *
  have hfin : ∀ w1, Ext no w w1 → bif kk == kk then Calls Try.prog 17 #[] w1 fun e w' => ∃ v : Bool, e = .returned (.bool v) ∧ (fun v w' => v = Value.bool true ∧ Ext no w w') (.bool v) w' else (fun v w' => v = Value.bool true ∧ Ext no w w') (.bool false) w1 := fun w1 hx => by
    rw [beq_self_eq_true, cond_true]; exact hal w1 hx
  refine ⟨fun k vs w1 => ∃ i : Nat, vs = [.int .i64 i] ∧ k + i = la.length ∧ ∃ G1 G2 S S', G1.p = g1.p ∧ G2.p = g2.p ∧ DuoG w w1 G1 G2 S S' ∧ like S S' ∧ S.ok ∧ S'.ok ∧ S.used.length ≤ 1 + i ∧ S'.used.length ≤ 1 + i, la.length,
    ⟨0, rfl, rfl, _, _, _, _, rfl, rfl, duo24, ⟨rfl, rfl, rfl, rfl⟩, k1, k1, l1', l1'⟩, ?_⟩
  rintro k w1 i ⟨n, hi, hk, G1, G2, S, S', hp1, hp2, D, hlk, hok, hok', hul, hul'⟩
  simp only [List.cons.injEq, Value.int.injEq, true_and, and_true] at hi
  subst hi
  cases k with
  | zero =>
    rw [show decide ((n : Int) < (la.length : Int)) = false by simp; omega, cond_false]
    exact hfin w1 D.e
  | succ k =>
    have hn : n < la.length := by omega
    rw [show decide ((n : Int) < (la.length : Int)) = true by simp; omega, cond_true]
    by_cases hnb : ¬ n < lb.length
    · rw [show decide ((n : Int) < (lb.length : Int)) = false by simp; omega, cond_false]
      exact hfin w1 D.e
    have hnb := Decidable.not_not.1 hnb
    rw [show decide ((n : Int) < (lb.length : Int)) = true by simp; omega, cond_true]
    refine thenW_in fun w29 h29 => ?_
    have hx29 : Ext no w1 w29 := by subst h29; exact (Ext.refl _ _).drew
    have D29 := D.none hx29
    obtain ⟨ad, rfl⟩ := ha.addr (by intro e; rw [List.map_eq_nil_iff] at e; subst e; simp at hn)
    obtain ⟨bd, rfl⟩ := hb.addr (by intro e; rw [List.map_eq_nil_iff] at e; subst e; simp at hnb)
    have hca : ∀ w2, Ext no w w2 → w2.cell? (ad.add (Int.toNat (n : Int) * 1)) = some (.slice la[n].a la[n].bs.length la[n].c) := fun w2 hx => by
      rw [Int.toNat_natCast, Nat.mul_one]
      exact (ha.no hx).at_ (v := la[n].v) (by simp [hn])
    have hcb : ∀ w2, Ext no w w2 → w2.cell? (bd.add (Int.toNat (n : Int) * 1)) = some (.slice lb[n].a lb[n].bs.length lb[n].c) := fun w2 hx => by
      rw [Int.toNat_natCast, Nat.mul_one]
      exact (hb.no hx).at_ (v := lb[n].v) (by simp [hnb])
    have hga := hag la[n] (List.getElem_mem hn)
    have hgb := hbg lb[n] (List.getElem_mem hnb)
    refine ⟨by omega, by omega, _, _, _, hca _ D29.e, ?_⟩
    by_cases hla : (la[n].bs.length : Int) > 1500
    · rw [decide_eq_true hla]; exact hal _ D29.e
    rw [decide_eq_false hla, cond_false]
    refine ⟨by omega, by omega, _, _, _, hcb _ D29.e, ?_⟩
    by_cases hlb : (lb[n].bs.length : Int) > 1500
    · rw [decide_eq_true hlb]; exact hal _ D29.e
    rw [decide_eq_false hlb, cond_false]
    refine ⟨by omega, by omega, _, _, _, hca _ D29.e, by omega, by omega, _, _, _, hcb _ D29.e, ?_⟩
    refine Alike_spec.mono fun e w46 ⟨he, hw⟩ => ⟨_, he, ?_⟩
    subst hw
    by_cases hcl : classOf la[n].bs.length = classOf lb[n].bs.length
    · rw [beq_iff_eq.2 hcl, Bool.not_true, cond_false]
      refine ⟨by omega, by omega, _, _, _, hca _ D29.e, ?_⟩
      have hoa := hga.2.out (m := G1.m) D29.l1
      have hob := hgb.2.out (m := G2.m) D29.l2
      have hse := Seal_spec (bc := 0) (ba := none) (b := []) (pc := la[n].c) D29.a hok (by omega) kk (RowAt.nil _ _) (hga.2.no D29.e) (fun h => absurd rfl h) hoa (by decide) (by omega)
      rw [hp1] at hse
      refine hse.mono fun e w55 ⟨⟨xa, xc, he, hxle, hxr, hxf⟩, hO55, hx55⟩ => ⟨xa, _, xc, _, he, ?_⟩
      have D55 := D29.step1 hO55 hx55
      refine ⟨by omega, by omega, _, _, _, hcb _ D55.e, ?_⟩
      have hse2 := Seal_spec (bc := 0) (ba := none) (b := []) (pc := lb[n].c) D55.b hok' (by omega) kk (RowAt.nil _ _) (hgb.2.no D55.e) (fun h => absurd rfl h) hob (by decide) (by omega)
      rw [show (G2.more w46 w55).p = g2.p from hp2] at hse2
      refine hse2.mono fun e w61 ⟨⟨ya, yc, he, hyle, hyr, hyf⟩, hO61, hx61⟩ => ⟨ya, _, yc, _, he, ?_⟩
      have D61 := D55.step2 hO61 hx61
      obtain ⟨s1, s2⟩ := seal_like hlk kk [] la[n].bs lb[n].bs hcl
      have hxr61 := hxr.ext' hx61 (fun _ => hxf.out fun q hq => .inl (D29.b.lt q hq))
      have hlen : (sealOf S kk [] la[n].bs).1.1.length < 1000000 := by
        unfold sealOf
        split
        · split
          · exact (by decide : 0 < 1000000)
          · have := sizeN_le (classOf la[n].bs.length)
            show (boxL _ _).length < _
            rw [boxL_length]; omega
        · exact (by decide : 0 < 1000000)
      refine (same_spec hxr61 hyr hlen).mono fun e w66 ⟨he, hx64⟩ => ⟨_, he, ?_⟩
      have D64 := D61.none hx64
      rw [decide_eq_true (by rw [s1]), Bool.not_true, cond_false, show ((sealOf S kk [] la[n].bs).1.2 != (sealOf S' kk [] lb[n].bs).1.2) = false by rw [s1]; simp, cond_false]
      obtain ⟨m1, m2⟩ := sealOf_ok hok kk [] la[n].bs
      obtain ⟨m3, m4⟩ := sealOf_ok hok' kk [] lb[n].bs
      exact ⟨k, by omega, n + 1, by rw [w64 (by omega) (by omega)]; rfl, by omega, G1.more w55 w61, G2.more w46 w55, _, _, hp1, hp2, D64, s2, m1, m3, by omega, by omega⟩
    · rw [beq_eq_false_iff_ne.2 hcl, Bool.not_false, cond_true]
      exact hal _ D29.e

theorem OracleBlind_walk (W : World) (a0 : Option Addr) (len0 cap0 : Nat) (a1 : Option Addr) (len1 cap1 : Nat) (a2 : Option Addr) (len2 cap2 : Nat)
    (o0 : IntsQ .u64 W [.slice a0 len0 cap0]) (o1 : BytessQ W [.slice a1 len1 cap1]) (o2 : BytessQ W [.slice a2 len2 cap2]) :
    Calls Try.prog 5 #[.slice a0 len0 cap0, .slice a1 len1 cap1, .slice a2 len2 cap2] W (Gives (.bool true) fun w' => Ext no W w') := by
  obtain ⟨_, _, d, e0, _, _, r0, f0⟩ := o0
  obtain ⟨_, _, a, e1, _, _, r1, f1⟩ := o1
  obtain ⟨_, _, b, e2, _, _, r2, f2⟩ := o2
  cases e0; cases e1; cases e2
  exact OracleBlind_spec W (fun x hx => wf_u64 (f0 x hx)) r0 r1 r2 f1 f2
end Go.Proofs.Ytbeakiidhndhhaa
