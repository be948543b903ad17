/- Frames: the reference reads one. -/
import Derived.Test.YtoempemllkebkaaZE
import Derived.Test.YtoempemllkebkaaZF
import Derived.Test.YtoempemllkebkaaZG
import Derived.Test.YtoempemllkebkaaZD
import Derived.Test.YtoempemllkebkaaZB
import Derived.Test.YtoempemllkebkaaZA
set_option linter.unusedVariables false
set_option linter.unusedSimpArgs false
set_option maxRecDepth 20000
set_option maxHeartbeats 8000000
namespace Go.Proofs.Ytoempemllkebkaa
open Go Go.Mx Go.Proofs
open W (OwnB RdR numR countR doneR)
section
variable {w w' : World} {x y : FP} {e f : Ent} {a ba : Option Addr} {c bc : Nat} {bs : List UInt8}
theorem Q2g {N : Nat} (h : RowAt w a (bytesV bs)) (hc : bs.length ≤ c) (hl : bs.length < 1000000) (hN : N ≤ w.heap.size) (hfr : bytesV bs ≠ [] → ∀ ad, a = some ad → ad.block < N) :
    Calls Try.prog 47 #[.slice a bs.length c] w (fun e w' => ∃ a' c', e = .returned (.tuple #[entV (readE bs).1 a' c', .int .i64 (readE bs).2]) ∧ RowAt w' a' (bytesV (readE bs).1.body) ∧ (bytesV (readE bs).1.body ≠ [] → ∀ ad, a' = some ad → ad.block < N) ∧ Ext no w w') := by
  refine (Q0i.go _ _ _ (R := fun v w' => ∃ a' c', v = (.tuple #[entV (readE bs).1 a' c', .int .i64 (readE bs).2]) ∧ RowAt w' a' (bytesV (readE bs).1.body) ∧ (bytesV (readE bs).1.body ≠ [] → ∀ ad, a' = some ad → ad.block < N) ∧ Ext no w w') ?_).mono fun e w' ⟨v, he, a, c, hv, hw⟩ => ⟨a, c, by rw [he, hv], hw⟩
  unfold Q0i.N
  intro w3 q4 p5 X3 hq hq1 hq2 hp5
  have hp5 := hp5.one
  have hR : RdR w3 q4 N bs 0 := ⟨by omega, a, c, hq, hc, h.no X3, hfr⟩
  refine (Q22 hR hl).mono fun e w15 ⟨ba, bc, he, hle, hrow, hbp, hr15, X15⟩ => ⟨_, _, _, _, _, _, _, _, _, _, he, keep1 X15 (by omega), fun w24 p25 X24 hp25 => ?_⟩
  have hp25 := hp25.one
  have Y24 : Ext no w w24 := (X3.then X15 fun b hb => .inr (by omega)).trans X24
  refine (W.rDone_spec (hr15.no X24)).mono fun e w28 ⟨he, hw⟩ => ⟨_, he, by subst hw; exact Keep.refl _ _, ?_⟩
  subst hw
  obtain ⟨g1, g2⟩ := Q3j (bs, 0)
  have new5 : ∀ {w1 w2 : World}, Ext no w w1 → Ext (fun b => b = p5) w1 w2 → Ext no w w2 := fun h1 h2 => h1.then h2 fun b hb => .inr (by omega)
  have hF : Q03.F (entT (bs, 0)).w (entT (bs, 0)).i (entT (bs, 0)).pv (entT (bs, 0)).t (entT (bs, 0)).tw (entT (bs, 0)).ep ba (entT (bs, 0)).body.length bc (entT (bs, 0)).sg = Q0t (entR (bs, 0)) := (Q1D _ _ _).trans g1
  rw [hF]
  refine ⟨fun hd w37 X37 => ?_, fun hd => ⟨fun hr w49 X49 => ?_, fun hr w57 X57 => ?_⟩⟩
  · have : readE bs = (Ent.zero, doneR (entR7 (bs, 0))) := by unfold readE; rw [if_pos hd]
    rw [this]
    exact ⟨none, 0, rfl, RowAt.nil _ _, fun _ ad ha => (by cases ha), new5 Y24 X37⟩
  · have : readE bs = (Ent.zero, 4) := by unfold readE; rw [if_neg (by rw [hd]; simp), if_neg (by rw [hr]; simp)]
    rw [this]
    exact ⟨none, 0, rfl, RowAt.nil _ _, fun _ ad ha => (by cases ha), new5 Y24 X49⟩
  · have : readE bs = (entR (bs, 0), 0) := by unfold readE; rw [if_neg (by rw [hd]; simp), if_pos hr]
    rw [this]
    rw [g2 hr] at hrow hbp ⊢
    refine ⟨ba, bc, rfl, (hrow.no X24).ext' X57 fun h0 ad ha hb => ?_, hbp, new5 Y24 X57⟩
    have := hbp h0 ad ha
    omega
theorem Q1F {b : List UInt8} (h : frDone b ≠ 0) : readW b = (Fr.zero, frDone b) := by unfold readW; rw [if_pos h]
theorem Q1z {b : List UInt8} (hd : frDone b = 0) (hl : (frLooks b).2 ≠ 0) : readW b = (Fr.zero, (frLooks b).2) := by unfold readW; rw [if_neg (fun h => h hd), if_pos hl]
theorem Q2o {b : List UInt8} {f : Fr} (hd : frDone b = 0) (hl : frLooks b = (f, 0)) (hk : frOK f = true) : readW b = (f, 0) := by unfold readW; rw [if_neg (fun h => h hd), hl, if_neg (fun h => h rfl), if_pos hk]
theorem Q1P {b : List UInt8} {f : Fr} (hd : frDone b = 0) (hl : frLooks b = (f, 0)) (hk : frOK f = false) : readW b = (Fr.zero, 4) := by unfold readW; rw [if_neg (fun h => h hd), hl, if_neg (fun h => h rfl), hk]; rfl
theorem Q1O {c : Nat × List UInt8} {l : List (Nat × List UInt8)} {f : Fr} (h : (f.put c).2 ≠ 0) : looks (c :: l) f = (Fr.zero, (f.put c).2) := by rw [looks, if_neg h]
theorem Q2w {c : List UInt8} (h : (readE c).2 = 0) : (readE c).1.body.length < 1000000 := by
  have := ((Q18 _).1 (Q21 h).2.1).2.2.2.2.2.2.2.2.2.1
  omega
theorem Q43 {b : List UInt8} (h : RowAt w a (bytesV b)) (hc : b.length ≤ c) :
    Calls Try.prog 18 #[.slice a b.length c] w fun e w' => ∃ x' : FP, e = .returned (.tuple #[x'.V, .int .i64 (readFr b).2]) ∧ x'.r = (readFr b).1 ∧ x'.at w' ∧ Ext no w w' := by
  refine (Q00.go a b.length c (R := fun v w' => ∃ x' : FP, v = (.tuple #[x'.V, .int .i64 (readFr b).2]) ∧ x'.r = (readFr b).1 ∧ x'.at w' ∧ Ext no w w') ?_).mono fun e w' ⟨v, he, x', hv, hw⟩ => ⟨x', by rw [he, hv], hw⟩
  unfold Q00.N
  have bad : ∀ {k : Int} {w2 : World}, readFr b = (Fr.zero, k) → Ext no w w2 → ∃ x' : FP, (.tuple #[FP.zero.V, .int .i64 k] : Value) = (.tuple #[x'.V, .int .i64 (readFr b).2]) ∧ x'.r = (readFr b).1 ∧ x'.at w2 ∧ Ext no w w2 := fun {k w2} e X =>
    ⟨FP.zero, by rw [e], by rw [e]; rfl, ⟨RowAt.nil _ _, RowAt.nil _ _, RowAt.nil _ _⟩, X⟩
  have good : ∀ {x : FP} {w2 : World}, readFr b = (x.r, 0) → x.at w2 → Ext no w w2 → ∃ x' : FP, (.tuple #[x.V, .int .i64 0] : Value) = (.tuple #[x'.V, .int .i64 (readFr b).2]) ∧ x'.r = (readFr b).1 ∧ x'.at w2 ∧ Ext no w w2 := fun {x w2} e ha X =>
    ⟨x, by rw [e], by rw [e], ha, X⟩
  refine ⟨fun hg w23 X23 => bad (by unfold readFr; rw [if_pos (by omega)]) X23, fun hg w25 q26 p27 X25 hb25 hq hq' hp => ?_⟩
  have hrw : readFr b = readW b := by unfold readFr; rw [if_neg (by omega)]
  have hp := hp.one
  have hR : RdR w25 q26 w.heap.size b 0 := ⟨hq, a, c, hb25, hc, h.no X25, fun h0 ad ha => h.lt h0 ha⟩
  refine (W.rCount_spec hR (by omega) (m := 4) (by decide) (by decide)).mono fun u w30 ⟨he, hR30, X30⟩ => ⟨_, he, keep1 X30 (by omega), ?_⟩
  have Y30 : Ext no w w30 := X25.then X30 fun b hb => .inr (by omega)
  have hfd : frDone b = doneR (kdS (countR 4 (b, 0)).1 (countR 4 (b, 0)).2) := rfl
  have hfl : frLooks b = looks (kdL (countR 4 (b, 0)).1 (countR 4 (b, 0)).2) (kdF (countR 4 (b, 0)).1 { Fr.zero with kd := (countR 4 (b, 0)).1 } (countR 4 (b, 0)).2) := rfl
  have hcl : (countR 4 (b, 0)).2.1.length ≤ b.length := W.countR_len 4 (b, 0)
  clear he
  generalize countR 4 (b, 0) = cc at *
  obtain ⟨n, s⟩ := cc
  have hR30 : RdR w30 q26 w.heap.size s.1 s.2 := hR30
  have hcl : s.1.length ≤ b.length := hcl
  have z25 := X25.size
  have z30 := X30.size
  dsimp only
  refine ⟨fun k1 w51 p53 X51 hp53 => ?_, fun k1 => ⟨fun k2 w51 p53 X51 hp53 => ?_, fun k2 => ⟨fun k3 w51 p53 X51 hp53 => ?_, fun k3 => ⟨fun k4 w51 p53 X51 hp53 => ?_, fun k4 w51 p53 X51 hp53 => ?_⟩⟩⟩⟩
  all_goals
    have hp53 := hp53.one
    have hR51 := hR30.no X51
    have Y51 := Y30.trans X51
    have z51 := X51.size
  · obtain rfl : n = 1 := by omega
    have hd1 : frDone b = doneR (bytesR 4000 s).2 := hfd
    have hl1 : frLooks b = looks [(0, (bytesR 4000 s).1)] ⟨1, Ent.zero, Ent.zero, 0, [], 0⟩ := hfl
    have hbl := Q1n 4000 s
    refine (Q17 hR51 (by omega) (m := 4000) (by decide) (by decide)).mono fun u w56 ⟨a5, c5, he, hc5, hr5, hf5, hR56, X56⟩ => ⟨a5, _, c5, he, keep2 X56 (by omega) (by omega), ?_⟩
    have Y56 : Ext no w w56 := Y51.then X56 fun b hb => .inr (by omega)
    have z56 := X56.size
    refine (W.rDone_spec hR56).mono fun u w59 ⟨he, hw⟩ => ⟨_, he, by subst hw; exact Keep.refl _ _, ?_⟩
    subst hw
    refine ⟨fun hd w80 X80 => bad ?_ (Y56.then X80 fun b hb => .inr (by omega)), fun hd => ?_⟩
    · rw [hrw, Q1F (by rw [hd1]; exact hd), hd1]
    have hd0 : frDone b = 0 := by rw [hd1]; exact hd
    refine (Q2g (N := w.heap.size) hr5 hc5 (by have := hbl.2; show (bytesR 4000 s).1.length < 1000000; omega) Y56.size hf5).mono fun u w91 ⟨a6, c6, he, hr6, hf6, X91⟩ => ⟨_, _, _, _, _, _, _, _, _, _, _, he, X91.kept, fun hk w121 X121 => bad ?_ ((Y56.trans X91).then X121 fun b hb => .inr (by omega)), fun hk => ⟨fun h => absurd h (by omega), fun _ => ⟨fun h => absurd h (by omega), fun _ => ⟨fun h => absurd h (by omega), fun _ w130 X130 => ?_⟩⟩⟩⟩
    · have hl2 : frLooks b = (Fr.zero, (readE (bytesR 4000 s).1).2) := by rw [hl1]; exact Q1O hk
      rw [hrw, Q1z hd0 (by rw [hl2]; exact hk), hl2]
    have hl2 : frLooks b = (⟨1, (readE (bytesR 4000 s).1).1, Ent.zero, 0, [], 0⟩, 0) := by rw [hl1]; exact Q1o hk
    have hbody := Q2w hk
    have hr130 := hr6.ext' X130 (fun h0 ad ha hb => by have := hf6 h0 ad ha; omega)
    have Y130 := (Y56.trans X91).then X130 fun b hb => .inr (by omega)
    refine (Q1b (x := ⟨⟨1, (readE (bytesR 4000 s).1).1, Ent.zero, 0, [], 0⟩, a6, c6, none, 0, none, 0⟩) ⟨hr130, RowAt.nil _ _, RowAt.nil _ _⟩ (show (0 : Nat) < 1000000 by decide) hbody (show (0 : Nat) < 1000000 by decide)).mono fun u w519 ⟨he, X519⟩ => ⟨_, he, X519.kept, fun hr w540 X540 => bad ?_ ((Y130.trans X519).then X540 fun b hb => .inr (by omega)), fun hr w560 X560 => good (x := ⟨⟨1, (readE (bytesR 4000 s).1).1, Ent.zero, 0, [], 0⟩, a6, c6, none, 0, none, 0⟩) ?_ ⟨?_, RowAt.nil _ _, RowAt.nil _ _⟩ ((Y130.trans X519).then X560 fun b hb => .inr (by omega))⟩
    · rw [hrw]; exact Q1P hd0 hl2 hr
    · rw [hrw]; exact Q2o hd0 hl2 hr
    · exact (hr130.no X519).ext' X560 (fun h0 ad ha hb => by have := hf6 h0 ad ha; omega)
  · obtain rfl : n = 2 := by omega
    have hd1 : frDone b = doneR (bytesR 4000 (countR 7 s).2).2 := hfd
    have hl1 : frLooks b = looks [(2, (bytesR 4000 (countR 7 s).2).1)] ⟨2, Ent.zero, Ent.zero, ((countR 7 s).1 : Nat), [], 0⟩ := hfl
    have hkl : (countR 7 s).2.1.length ≤ s.1.length := W.countR_len 7 s
    have hbl := Q1n 4000 (countR 7 s).2
    refine (W.rCount_spec hR51 (by omega) (m := 7) (by decide) (by decide)).mono fun u w53 ⟨he, hR53, X53⟩ => ⟨_, he, keep2 X53 (by omega) (by omega), fun w54 X54 => ?_⟩
    have z53 := X53.size
    have z54 := X54.size
    have hR54 : RdR w54 q26 w.heap.size (countR 7 s).2.1 (countR 7 s).2.2 := hR53.up X54 fun b hb => by omega
    have Y54 : Ext no w w54 := (Y51.then X53 fun b hb => .inr (by omega)).then X54 fun b hb => .inr (by omega)
    refine (Q17 hR54 (by omega) (m := 4000) (by decide) (by decide)).mono fun u w56 ⟨a5, c5, he, hc5, hr5, hf5, hR56, X56⟩ => ⟨a5, _, c5, he, keep2 X56 (by omega) (by omega), fun h => absurd h (by omega), fun _ => ?_⟩
    have Y56 : Ext no w w56 := Y54.then X56 fun b hb => .inr (by omega)
    have z56 := X56.size
    refine (W.rDone_spec hR56).mono fun u w59 ⟨he, hw⟩ => ⟨_, he, by subst hw; exact Keep.refl _ _, ?_⟩
    subst hw
    refine ⟨fun hd w80 X80 => bad ?_ (Y56.then X80 fun b hb => .inr (by omega)), fun hd => ⟨fun h => absurd h (by omega), fun _ => ?_⟩⟩
    · rw [hrw, Q1F (by rw [hd1]; exact hd), hd1]
    have hd0 : frDone b = 0 := by rw [hd1]; exact hd
    refine (V5.rRead_spec hr5 hc5 (by have := hbl.2; show (bytesR 4000 (countR 7 s).2).1.length < 1000000; omega)).mono fun u w91 ⟨ra, rc, he, hO, X91⟩ => ⟨ra, _, rc, _, he, X91.kept, fun hk w121 X121 => bad ?_ ((Y56.trans X91).then X121 fun b hb => .inr (by omega)), fun hk w130 X130 => ?_⟩
    · have hl2 : frLooks b = (Fr.zero, (readV (bytesR 4000 (countR 7 s).2).1).2) := by rw [hl1]; exact Q1O hk
      rw [hrw, Q1z hd0 (by rw [hl2]; exact hk), hl2]
    have hl2 : frLooks b = (⟨2, Ent.zero, Ent.zero, ((countR 7 s).1 : Nat), (readV (bytesR 4000 (countR 7 s).2).1).1, 0⟩, 0) := by rw [hl1]; exact Q1o hk
    have hvl := Q3t (bytesR 4000 (countR 7 s).2).1
    have hr130 := hO.row.ext' X130 (fun h0 ad ha hb => by have := (hO.fr ad ha).1; omega)
    have Y130 := (Y56.trans X91).then X130 fun b hb => .inr (by omega)
    refine (Q1b (x := ⟨⟨2, Ent.zero, Ent.zero, ((countR 7 s).1 : Nat), (readV (bytesR 4000 (countR 7 s).2).1).1, 0⟩, none, 0, none, 0, ra, rc⟩) ⟨RowAt.nil _ _, RowAt.nil _ _, hr130⟩ (by show (readV (bytesR 4000 (countR 7 s).2).1).1.length < 1000000; omega) (show (0 : Nat) < 1000000 by decide) (show (0 : Nat) < 1000000 by decide)).mono fun u w519 ⟨he, X519⟩ => ⟨_, he, X519.kept, fun hr w540 X540 => bad ?_ ((Y130.trans X519).then X540 fun b hb => .inr (by omega)), fun hr w560 X560 => good (x := ⟨⟨2, Ent.zero, Ent.zero, ((countR 7 s).1 : Nat), (readV (bytesR 4000 (countR 7 s).2).1).1, 0⟩, none, 0, none, 0, ra, rc⟩) ?_ ⟨RowAt.nil _ _, RowAt.nil _ _, ?_⟩ ((Y130.trans X519).then X560 fun b hb => .inr (by omega))⟩
    · rw [hrw]; exact Q1P hd0 hl2 hr
    · rw [hrw]; exact Q2o hd0 hl2 hr
    · exact (hr130.no X519).ext' X560 (fun h0 ad ha hb => by have := (hO.fr ad ha).1; omega)
  · obtain rfl : n = 3 := by omega
    have hd1 : frDone b = doneR (numR (bytesR 4000 (countR 7 s).2).2).2 := hfd
    have hl1 : frLooks b = looks [(2, (bytesR 4000 (countR 7 s).2).1)] ⟨3, Ent.zero, Ent.zero, ((countR 7 s).1 : Nat), [], ((numR (bytesR 4000 (countR 7 s).2).2).1 : Nat)⟩ := hfl
    have hkl : (countR 7 s).2.1.length ≤ s.1.length := W.countR_len 7 s
    have hbl := Q1n 4000 (countR 7 s).2
    refine (W.rCount_spec hR51 (by omega) (m := 7) (by decide) (by decide)).mono fun u w53 ⟨he, hR53, X53⟩ => ⟨_, he, keep2 X53 (by omega) (by omega), fun w54 X54 => ?_⟩
    have z53 := X53.size
    have z54 := X54.size
    have hR54 : RdR w54 q26 w.heap.size (countR 7 s).2.1 (countR 7 s).2.2 := hR53.up X54 fun b hb => by omega
    have Y54 : Ext no w w54 := (Y51.then X53 fun b hb => .inr (by omega)).then X54 fun b hb => .inr (by omega)
    refine (Q17 hR54 (by omega) (m := 4000) (by decide) (by decide)).mono fun u w56 ⟨a5, c5, he, hc5, hr5, hf5, hR56, X56⟩ => ⟨a5, _, c5, he, keep2 X56 (by omega) (by omega), ?_⟩
    have Y56 : Ext no w w56 := Y54.then X56 fun b hb => .inr (by omega)
    have z56 := X56.size
    have hR56 : RdR w56 q26 w.heap.size (bytesR 4000 (countR 7 s).2).2.1 (bytesR 4000 (countR 7 s).2).2.2 := hR56
    refine (W.rRNum_spec hR56 (by have := hbl.1; omega)).mono fun u w57 ⟨he, hR57, X57⟩ => ⟨_, he, keep2 X57 (by omega) (by omega), fun w58 X58 => ?_⟩
    have z57 := X57.size
    have z58 := X58.size
    have hR58 := hR57.up X58 fun b hb => by omega
    have Y58 : Ext no w w58 := (Y56.then X57 fun b hb => .inr (by omega)).then X58 fun b hb => .inr (by omega)
    have hr58 : RowAt w58 a5 (bytesV (bytesR 4000 (countR 7 s).2).1) := (hr5.ext' X57 (fun h0 ad ha hb => by have := hf5 h0 ad ha; omega)).ext' X58 (fun h0 ad ha hb => by have := hf5 h0 ad ha; omega)
    refine (W.rDone_spec hR58).mono fun u w59 ⟨he, hw⟩ => ⟨_, he, by subst hw; exact Keep.refl _ _, ?_⟩
    subst hw
    refine ⟨fun hd w80 X80 => bad ?_ (Y58.then X80 fun b hb => .inr (by omega)), fun hd => ⟨fun h => absurd h (by omega), fun _ => ?_⟩⟩
    · rw [hrw, Q1F (by rw [hd1]; exact hd), hd1]
    have hd0 : frDone b = 0 := by rw [hd1]; exact hd
    refine (V5.rRead_spec hr58 hc5 (by have := hbl.2; show (bytesR 4000 (countR 7 s).2).1.length < 1000000; omega)).mono fun u w91 ⟨ra, rc, he, hO, X91⟩ => ⟨ra, _, rc, _, he, X91.kept, fun hk w121 X121 => bad ?_ ((Y58.trans X91).then X121 fun b hb => .inr (by omega)), fun hk w130 X130 => ?_⟩
    · have hl2 : frLooks b = (Fr.zero, (readV (bytesR 4000 (countR 7 s).2).1).2) := by rw [hl1]; exact Q1O hk
      rw [hrw, Q1z hd0 (by rw [hl2]; exact hk), hl2]
    have hl2 : frLooks b = (⟨3, Ent.zero, Ent.zero, ((countR 7 s).1 : Nat), (readV (bytesR 4000 (countR 7 s).2).1).1, ((numR (bytesR 4000 (countR 7 s).2).2).1 : Nat)⟩, 0) := by rw [hl1]; exact Q1o hk
    have hvl := Q3t (bytesR 4000 (countR 7 s).2).1
    have hr130 := hO.row.ext' X130 (fun h0 ad ha hb => by have := (hO.fr ad ha).1; omega)
    have Y130 := (Y58.trans X91).then X130 fun b hb => .inr (by omega)
    refine (Q1b (x := ⟨⟨3, Ent.zero, Ent.zero, ((countR 7 s).1 : Nat), (readV (bytesR 4000 (countR 7 s).2).1).1, ((numR (bytesR 4000 (countR 7 s).2).2).1 : Nat)⟩, none, 0, none, 0, ra, rc⟩) ⟨RowAt.nil _ _, RowAt.nil _ _, hr130⟩ (by show (readV (bytesR 4000 (countR 7 s).2).1).1.length < 1000000; omega) (show (0 : Nat) < 1000000 by decide) (show (0 : Nat) < 1000000 by decide)).mono fun u w519 ⟨he, X519⟩ => ⟨_, he, X519.kept, fun hr w540 X540 => bad ?_ ((Y130.trans X519).then X540 fun b hb => .inr (by omega)), fun hr w560 X560 => good (x := ⟨⟨3, Ent.zero, Ent.zero, ((countR 7 s).1 : Nat), (readV (bytesR 4000 (countR 7 s).2).1).1, ((numR (bytesR 4000 (countR 7 s).2).2).1 : Nat)⟩, none, 0, none, 0, ra, rc⟩) ?_ ⟨RowAt.nil _ _, RowAt.nil _ _, ?_⟩ ((Y130.trans X519).then X560 fun b hb => .inr (by omega))⟩
    · rw [hrw]; exact Q1P hd0 hl2 hr
    · rw [hrw]; exact Q2o hd0 hl2 hr
    · exact (hr130.no X519).ext' X560 (fun h0 ad ha hb => by have := (hO.fr ad ha).1; omega)
  · obtain rfl : n = 4 := by omega
    have hd1 : frDone b = doneR (bytesR 4000 (bytesR 4000 s).2).2 := hfd
    have hl1 : frLooks b = looks [(0, (bytesR 4000 s).1), (1, (bytesR 4000 (bytesR 4000 s).2).1)] ⟨4, Ent.zero, Ent.zero, 0, [], 0⟩ := hfl
    have hbl := Q1n 4000 s
    have hbl2 := Q1n 4000 (bytesR 4000 s).2
    refine (Q17 hR51 (by omega) (m := 4000) (by decide) (by decide)).mono fun u w53 ⟨a4, c4, he, hc4, hr4, hf4, hR53, X53⟩ => ⟨a4, _, c4, he, keep2 X53 (by omega) (by omega), ?_⟩
    have hR53 : RdR w53 q26 w.heap.size (bytesR 4000 s).2.1 (bytesR 4000 s).2.2 := hR53
    have z53 := X53.size
    have Y53 : Ext no w w53 := Y51.then X53 fun b hb => .inr (by omega)
    refine (Q17 hR53 (by have := hbl.1; omega) (m := 4000) (by decide) (by decide)).mono fun u w56 ⟨a5, c5, he, hc5, hr5, hf5, hR56, X56⟩ => ⟨a5, _, c5, he, keep2 X56 (by omega) (by omega), ?_⟩
    have Y56 : Ext no w w56 := Y53.then X56 fun b hb => .inr (by omega)
    have z56 := X56.size
    have hr4' : RowAt w56 a4 (bytesV (bytesR 4000 s).1) := hr4.ext' X56 (fun h0 ad ha hb => by have := hf4 h0 ad ha; omega)
    refine (W.rDone_spec hR56).mono fun u w59 ⟨he, hw⟩ => ⟨_, he, by subst hw; exact Keep.refl _ _, ?_⟩
    subst hw
    refine ⟨fun hd w80 X80 => bad ?_ (Y56.then X80 fun b hb => .inr (by omega)), fun hd => ?_⟩
    · rw [hrw, Q1F (by rw [hd1]; exact hd), hd1]
    have hd0 : frDone b = 0 := by rw [hd1]; exact hd
    refine (Q2g (N := w.heap.size) hr4' hc4 (by have := hbl.2; show (bytesR 4000 s).1.length < 1000000; omega) Y56.size hf4).mono fun u w91 ⟨a6, c6, he, hr6, hf6, X91⟩ => ⟨_, _, _, _, _, _, _, _, _, _, _, he, X91.kept, fun hk w121 X121 => bad ?_ ((Y56.trans X91).then X121 fun b hb => .inr (by omega)), fun hk w92 X92 => ?_⟩
    · have hl2 : frLooks b = (Fr.zero, (readE (bytesR 4000 s).1).2) := by rw [hl1]; exact Q1O hk
      rw [hrw, Q1z hd0 (by rw [hl2]; exact hk), hl2]
    have hl2 : frLooks b = looks [(1, (bytesR 4000 (bytesR 4000 s).2).1)] ⟨4, (readE (bytesR 4000 s).1).1, Ent.zero, 0, [], 0⟩ := by rw [hl1]; exact Q37 hk
    have hbody := Q2w hk
    have z91 := X91.size
    have z92 := X92.size
    have Y92 : Ext no w w92 := (Y56.trans X91).then X92 fun b hb => .inr (by omega)
    have hr692 := hr6.ext' X92 (fun h0 ad ha hb => by have := hf6 h0 ad ha; omega)
    have hr592 : RowAt w92 a5 (bytesV (bytesR 4000 (bytesR 4000 s).2).1) := (hr5.no X91).ext' X92 (fun h0 ad ha hb => by have := hf5 h0 ad ha; omega)
    refine (Q2g (N := w.heap.size) hr592 hc5 (by have := hbl.1; have := hbl2.2; show (bytesR 4000 (bytesR 4000 s).2).1.length < 1000000; omega) Y92.size hf5).mono fun u w93 ⟨a7, c7, he, hr7, hf7, X93⟩ => ⟨_, _, _, _, _, _, _, _, _, _, _, he, X93.kept, fun hk2 w121 X121 => bad ?_ ((Y92.trans X93).then X121 fun b hb => .inr (by omega)), fun hk2 w130 X130 => ?_⟩
    · have hl3 : frLooks b = (Fr.zero, (readE (bytesR 4000 (bytesR 4000 s).2).1).2) := by rw [hl2]; exact Q1O hk2
      rw [hrw, Q1z hd0 (by rw [hl3]; exact hk2), hl3]
    have hl3 : frLooks b = (⟨4, (readE (bytesR 4000 s).1).1, (readE (bytesR 4000 (bytesR 4000 s).2).1).1, 0, [], 0⟩, 0) := by rw [hl2]; exact Q1o hk2
    have hbody2 := Q2w hk2
    have hr6130 := (hr692.no X93).ext' X130 (fun h0 ad ha hb => by have := hf6 h0 ad ha; omega)
    have hr7130 := hr7.ext' X130 (fun h0 ad ha hb => by have := hf7 h0 ad ha; omega)
    have Y130 := (Y92.trans X93).then X130 fun b hb => .inr (by omega)
    refine (Q1b (x := ⟨⟨4, (readE (bytesR 4000 s).1).1, (readE (bytesR 4000 (bytesR 4000 s).2).1).1, 0, [], 0⟩, a6, c6, a7, c7, none, 0⟩) ⟨hr6130, hr7130, RowAt.nil _ _⟩ (show (0 : Nat) < 1000000 by decide) hbody hbody2).mono fun u w519 ⟨he, X519⟩ => ⟨_, he, X519.kept, fun hr w540 X540 => bad ?_ ((Y130.trans X519).then X540 fun b hb => .inr (by omega)), fun hr w560 X560 => good (x := ⟨⟨4, (readE (bytesR 4000 s).1).1, (readE (bytesR 4000 (bytesR 4000 s).2).1).1, 0, [], 0⟩, a6, c6, a7, c7, none, 0⟩) ?_ ⟨?_, ?_, RowAt.nil _ _⟩ ((Y130.trans X519).then X560 fun b hb => .inr (by omega))⟩
    · rw [hrw]; exact Q1P hd0 hl3 hr
    · rw [hrw]; exact Q2o hd0 hl3 hr
    · exact (hr6130.no X519).ext' X560 (fun h0 ad ha hb => by have := hf6 h0 ad ha; omega)
    · exact (hr7130.no X519).ext' X560 (fun h0 ad ha hb => by have := hf7 h0 ad ha; omega)
  · have hd1 : frDone b = doneR s := by rw [hfd]; unfold kdS; rw [if_neg (by omega), if_neg (by omega), if_neg (by omega), if_neg (by omega)]
    have hl2 : frLooks b = (⟨n, Ent.zero, Ent.zero, 0, [], 0⟩, 0) := by rw [hfl]; unfold kdL kdF; rw [if_neg (by omega), if_neg (by omega), if_neg (by omega), if_neg (by omega), if_neg (by omega), if_neg (by omega)]; rfl
    refine (W.rDone_spec hR51).mono fun u w59 ⟨he, hw⟩ => ⟨_, he, by subst hw; exact Keep.refl _ _, ?_⟩
    subst hw
    refine ⟨fun hd w80 X80 => bad ?_ (Y51.then X80 fun b hb => .inr (by omega)), fun hd => ?_⟩
    · rw [hrw, Q1F (by rw [hd1]; exact hd), hd1]
    have hd0 : frDone b = 0 := by rw [hd1]; exact hd
    refine (Q1b (x := ⟨⟨n, Ent.zero, Ent.zero, 0, [], 0⟩, none, 0, none, 0, none, 0⟩) ⟨RowAt.nil _ _, RowAt.nil _ _, RowAt.nil _ _⟩ (show (0 : Nat) < 1000000 by decide) (show (0 : Nat) < 1000000 by decide) (show (0 : Nat) < 1000000 by decide)).mono fun u w519 ⟨he, X519⟩ => ⟨_, he, X519.kept, fun hr w540 X540 => bad ?_ ((Y51.trans X519).then X540 fun b hb => .inr (by omega)), fun hr w560 X560 => good (x := ⟨⟨n, Ent.zero, Ent.zero, 0, [], 0⟩, none, 0, none, 0, none, 0⟩) ?_ ⟨RowAt.nil _ _, RowAt.nil _ _, RowAt.nil _ _⟩ ((Y51.trans X519).then X560 fun b hb => .inr (by omega))⟩
    · rw [hrw]; exact Q1P hd0 hl2 hr
    · rw [hrw]; exact Q2o hd0 hl2 hr
end
set_option maxRecDepth 100000
set_option maxHeartbeats 4000000
abbrev Q0c.J1 (c6 : Bool) (c7 : Int) (c8 : Option Addr) (c5 c9 : Nat) (bt : Option Addr) (bg bu : Nat) (au : Addr) (R : RW) (ar : World) : Prop :=
 bif c6 then (
 ∃ (be : Int), ar.cell? (au.add 17) = some (.int .i64 be) ∧
 Calls Try.prog 39 #[.int .u64 (IntKind.u64.wrap be)] ar fun c4 bx => ∃ (ay : Option Addr) (b0 b1 : Nat), c4 = .returned (.slice ay b0 b1) ∧
 ∃ (bp : Option Addr) (bm br : Nat) (bh : World), (Builtin.append_ #[25, 25] 25 #[.slice bt bg bu, .slice ay b0 b1]).run Try.prog bx = .ok (.slice bp bm br) bh ∧
 Calls Try.prog 42 #[.slice c8 c5 c9] bh fun c3 bz => ∃ (am : Option Addr) (ab ak : Nat), c3 = .returned (.slice am ab ak) ∧
 ∃ (bf : Option Addr) (ax b9 : Nat) (ac : World), (Builtin.append_ #[25, 25] 25 #[.slice bp bm br, .slice am ab ak]).run Try.prog bz = .ok (.slice bf ax b9) ac ∧
 ∃ (b4 : Int), ac.cell? (au.add 0) = some (.int .i64 b4) ∧
 bif b4 == 3 then (
 ∃ (ba : Int), ac.cell? (au.add 19) = some (.int .u64 ba) ∧
 Calls Try.prog 39 #[.int .u64 ba] ac fun c0 c2 => ∃ (b2 : Option Addr) (b5 b3 : Nat), c0 = .returned (.slice b2 b5 b3) ∧
 ∃ (bn : Option Addr) (bb bj : Nat) (bc : World), (Builtin.append_ #[25, 25] 25 #[.slice bf ax b9, .slice b2 b5 b3]).run Try.prog c2 = .ok (.slice bn bb bj) bc ∧
 bif decide ((bb : Int) > 4000) then (
 R (.tuple #[.slice none 0 0, .int .i64 3]) bc) else (
 R (.tuple #[.slice bn bb bj, .int .i64 0]) bc)) else (
 bif decide ((ax : Int) > 4000) then (
 R (.tuple #[.slice none 0 0, .int .i64 3]) ac) else (
 R (.tuple #[.slice bf ax b9, .int .i64 0]) ac))) else (
 bif c7 == 4 then (
 thenW (ar.drew) fun b7 =>
 ∃ (aa ao aq aw az ae : Int) (af : Option Addr) (ap al : Nat) (av : Int), cellsAt b7 (au.add 1) [.int .i64 aa, .int .i64 ao, .int .u64 aq, .int .i64 aw, .int .i64 az, .int .i64 ae, .slice af ap al, .int .u64 av] 0 ∧
 ∃ (a0 a3 a6 a7 a9 a5 : Int) (a1 : Option Addr) (a2 a4 : Nat) (a8 : Int), cellsAt b7 (au.add 9) [.int .i64 a0, .int .i64 a3, .int .u64 a6, .int .i64 a7, .int .i64 a9, .int .i64 a5, .slice a1 a2 a4, .int .u64 a8] 0 ∧
 Calls Try.prog 41 #[.agg #[.int .i64 aa, .int .i64 ao, .int .u64 aq, .int .i64 aw, .int .i64 az, .int .i64 ae, .slice af ap al, .int .u64 av]] b7 fun c1 bs => ∃ (ah : Option Addr) (ai ad : Nat), c1 = .returned (.slice ah ai ad) ∧
 cellsAt bs (au.add 9) [.int .i64 a0, .int .i64 a3, .int .u64 a6, .int .i64 a7, .int .i64 a9, .int .i64 a5, .slice a1 a2 a4, .int .u64 a8] 0 ∧
 ∃ (bo : Option Addr) (bk bl : Nat) (bd : World), (Builtin.append_ #[25, 25] 25 #[.slice bt bg bu, .slice ah ai ad]).run Try.prog bs = .ok (.slice bo bk bl) bd ∧
 cellsAt bd (au.add 9) [.int .i64 a0, .int .i64 a3, .int .u64 a6, .int .i64 a7, .int .i64 a9, .int .i64 a5, .slice a1 a2 a4, .int .u64 a8] 0 ∧
 Calls Try.prog 41 #[.agg #[.int .i64 a0, .int .i64 a3, .int .u64 a6, .int .i64 a7, .int .i64 a9, .int .i64 a5, .slice a1 a2 a4, .int .u64 a8]] bd fun bv bw => ∃ (aj : Option Addr) (ag an : Nat), bv = .returned (.slice aj ag an) ∧
 ∃ (bq : Option Addr) (b8 bi : Nat) (b6 : World), (Builtin.append_ #[25, 25] 25 #[.slice bo bk bl, .slice aj ag an]).run Try.prog bw = .ok (.slice bq b8 bi) b6 ∧
 bif decide ((b8 : Int) > 4000) then (
 R (.tuple #[.slice none 0 0, .int .i64 3]) b6) else (
 R (.tuple #[.slice bq b8 bi, .int .i64 0]) b6)) else (
 bif decide ((bg : Int) > 4000) then (
 R (.tuple #[.slice none 0 0, .int .i64 3]) ar) else (
 R (.tuple #[.slice bt bg bu, .int .i64 0]) ar)))

abbrev Q0c.J2 (ay : Addr) (R : RW) (au : World) : Prop :=
 ∃ (aj : Int), au.cell? (ay.add 0) = some (.int .i64 aj) ∧
 Calls Try.prog 39 #[.int .u64 (IntKind.u64.wrap aj)] au fun b0 av => ∃ (a4 : Option Addr) (a6 a5 : Nat), b0 = .returned (.slice a4 a6 a5) ∧
 ∃ (ap : Option Addr) (ax aw : Nat), av.cell? (ay.add 18) = some (.slice ap ax aw) ∧
 Calls Try.prog 40 #[.slice ap ax aw] av fun b2 ag => ∃ (a1 : Option Addr) (a3 a2 : Nat) (an : Int), b2 = .returned (.tuple #[.slice a1 a3 a2, .int .i64 an]) ∧
 ∃ (a0 : Int), ag.cell? (ay.add 0) = some (.int .i64 a0) ∧
 bif a0 == 1 then (
 ∃ (a7 ac ah ak al ad : Int) (a8 : Option Addr) (aa a9 : Nat) (ai : Int), cellsAt ag (ay.add 1) [.int .i64 a7, .int .i64 ac, .int .u64 ah, .int .i64 ak, .int .i64 al, .int .i64 ad, .slice a8 aa a9, .int .u64 ai] 0 ∧
 Calls Try.prog 41 #[.agg #[.int .i64 a7, .int .i64 ac, .int .u64 ah, .int .i64 ak, .int .i64 al, .int .i64 ad, .slice a8 aa a9, .int .u64 ai]] ag fun b1 az => ∃ (ab : Option Addr) (ae af : Nat), b1 = .returned (.slice ab ae af) ∧
 ∃ (aq : Option Addr) (ao ar : Nat) (am : World), (Builtin.append_ #[25, 25] 25 #[.slice a4 a6 a5, .slice ab ae af]).run Try.prog az = .ok (.slice aq ao ar) am ∧
 bif decide ((ao : Int) > 4000) then (
 R (.tuple #[.slice none 0 0, .int .i64 3]) am) else (
 R (.tuple #[.slice aq ao ar, .int .i64 0]) am)) else (
 bif a0 == 2 then (
 Q0c.J1 (a0 == 2) a0 a1 a3 a2 a4 a6 a5 ay R ag) else (
 Q0c.J1 (a0 == 3) a0 a1 a3 a2 a4 a6 a5 ay R ag))

def Q0c.M (bf au b1 b3 bb bd az : Int) (b2 : Option Addr) (aw ay : Nat) (be ae ar ax b6 b4 aq : Int) (an : Option Addr) (ap ao : Nat) (b5 ba : Int) (bh : Option Addr) (bj bk : Nat) (bc : Int) (R : RW) (w : World) : Prop :=
 thenW (w.alloc (.cells #[.int .i64 bf, .int .i64 au, .int .i64 b1, .int .u64 b3, .int .i64 bb, .int .i64 bd, .int .i64 az, .slice b2 aw ay, .int .u64 be, .int .i64 ae, .int .i64 ar, .int .u64 ax, .int .i64 b6, .int .i64 b4, .int .i64 aq, .slice an ap ao, .int .u64 b5, .int .i64 ba, .slice bh bj bk, .int .u64 bc] 30)) fun bi =>
 ∃ (am a0 ab ad ai aj a4 : Int) (aa : Option Addr) (a2 a8 : Nat) (ag a1 a6 ac ah af a3 : Int) (a7 : Option Addr) (a9 a5 : Nat) (ak av : Int) (b7 : Option Addr) (b9 b8 : Nat) (b0 : Int), cellsAt bi (blk w.heap.size) [.int .i64 am, .int .i64 a0, .int .i64 ab, .int .u64 ad, .int .i64 ai, .int .i64 aj, .int .i64 a4, .slice aa a2 a8, .int .u64 ag, .int .i64 a1, .int .i64 a6, .int .u64 ac, .int .i64 ah, .int .i64 af, .int .i64 a3, .slice a7 a9 a5, .int .u64 ak, .int .i64 av, .slice b7 b9 b8, .int .u64 b0] 0 ∧
 Calls Try.prog 19 #[.agg #[.int .i64 am, .int .i64 a0, .int .i64 ab, .int .u64 ad, .int .i64 ai, .int .i64 aj, .int .i64 a4, .slice aa a2 a8, .int .u64 ag, .int .i64 a1, .int .i64 a6, .int .u64 ac, .int .i64 ah, .int .i64 af, .int .i64 a3, .slice a7 a9 a5, .int .u64 ak, .int .i64 av, .slice b7 b9 b8, .int .u64 b0]] bi fun bl bg => ∃ (al : Bool), bl = .returned (.bool al) ∧
 bif !al then (
 R (.tuple #[.slice none 0 0, .int .i64 1]) bg) else (
 Q0c.J2 (blk w.heap.size) R bg)

theorem Q0c.ok (am a6 ab ad ai ak aa : Int) (ac : Option Addr) (a7 a9 : Nat) (al a0 a5 a8 ag ae a4 : Int) (a1 : Option Addr) (a3 a2 : Nat) (af ah : Int) (an : Option Addr) (ao ap : Nat) (aj : Int) {R : RW} {w : World} (h : Q0c.M am a6 ab ad ai ak aa ac a7 a9 al a0 a5 a8 ag ae a4 a1 a3 a2 af ah an ao ap aj R w) : Calls Try.prog 17 #[.agg #[.int .i64 am, .int .i64 a6, .int .i64 ab, .int .u64 ad, .int .i64 ai, .int .i64 ak, .int .i64 aa, .slice ac a7 a9, .int .u64 al, .int .i64 a0, .int .i64 a5, .int .u64 a8, .int .i64 ag, .int .i64 ae, .int .i64 a4, .slice a1 a3 a2, .int .u64 af, .int .i64 ah, .slice an ao ap, .int .u64 aj]] w fun e w' => ∃ v, e = .returned v ∧ R v w' :=
  Q08 follows (H := []) (args := [.agg #[.int .i64 am, .int .i64 a6, .int .i64 ab, .int .u64 ad, .int .i64 ai, .int .i64 ak, .int .i64 aa, .slice ac a7 a9, .int .u64 al, .int .i64 a0, .int .i64 a5, .int .u64 a8, .int .i64 ag, .int .i64 ae, .int .i64 a4, .slice a1 a3 a2, .int .u64 af, .int .i64 ah, .slice an ao ap, .int .u64 aj]]) (cast (by kernel_rfl) h)

def Q0c.N (a0 a4 ad aj b5 b7 a5 : Int) (a6 : Option Addr) (ac a8 : Nat) (b6 a7 af aw ba b8 ah : Int) (ag : Option Addr) (ai ae : Nat) (b9 b4 : Int) (bx : Option Addr) (bz bw : Nat) (bl : Int) (R : RW) (w : World) : Prop :=
 ∀ (bq : World) (bb : Nat), Ext no w bq → Priv w bq [bb] →
 Calls Try.prog 19 #[.agg #[.int .i64 a0, .int .i64 a4, .int .i64 ad, .int .u64 aj, .int .i64 b5, .int .i64 b7, .int .i64 a5, .slice a6 ac a8, .int .u64 b6, .int .i64 a7, .int .i64 af, .int .u64 aw, .int .i64 ba, .int .i64 b8, .int .i64 ah, .slice ag ai ae, .int .u64 b9, .int .i64 b4, .slice bx bz bw, .int .u64 bl]] bq fun d9 bp => ∃ (al : Bool), d9 = .returned (.bool al) ∧
 Keep [bb] bq bp ∧
 (al = false →
 R (.tuple #[.slice none 0 0, .int .i64 1]) bp) ∧
 (al = true →
 Calls Try.prog 39 #[.int .u64 (IntKind.u64.wrap a0)] bp fun d3 c2 => ∃ (a3 : Option Addr) (a1 a2 : Nat), d3 = .returned (.slice a3 a1 a2) ∧
 Keep [bb] bp c2 ∧
 Calls Try.prog 40 #[.slice bx bz bw] c2 fun d6 ak => ∃ (aa : Option Addr) (a9 ab : Nat) (bs : Int), d6 = .returned (.tuple #[.slice aa a9 ab, .int .i64 bs]) ∧
 Keep [bb] c2 ak ∧
 (a0 = 1 →
 Calls Try.prog 41 #[.agg #[.int .i64 a4, .int .i64 ad, .int .u64 aj, .int .i64 b5, .int .i64 b7, .int .i64 a5, .slice a6 ac a8, .int .u64 b6]] ak fun d7 d8 => ∃ (ax : Option Addr) (an b1 : Nat), d7 = .returned (.slice ax an b1) ∧
 ∃ (cp : Option Addr) (bu cm : Nat) (c1 : World), (Builtin.append_ #[25, 25] 25 #[.slice a3 a1 a2, .slice ax an b1]).run Try.prog d8 = .ok (.slice cp bu cm) c1 ∧
 ((bu : Int) > 4000 →
 R (.tuple #[.slice none 0 0, .int .i64 3]) c1) ∧
 ((bu : Int) ≤ 4000 →
 R (.tuple #[.slice cp bu cm, .int .i64 0]) c1)) ∧
 (a0 ≠ 1 →
 (a0 = 2 →
 Calls Try.prog 39 #[.int .u64 (IntKind.u64.wrap b4)] ak fun d5 c5 => ∃ (bk : Option Addr) (bi bc : Nat), d5 = .returned (.slice bk bi bc) ∧
 Keep [bb] ak c5 ∧
 ∃ (ce : Option Addr) (cq cc : Nat) (bv : World), (Builtin.append_ #[25, 25] 25 #[.slice a3 a1 a2, .slice bk bi bc]).run Try.prog c5 = .ok (.slice ce cq cc) bv ∧
 Keep [bb] c5 bv ∧
 Calls Try.prog 42 #[.slice aa a9 ab] bv fun cy cb => ∃ (av : Option Addr) (b3 ap : Nat), cy = .returned (.slice av b3 ap) ∧
 Keep [bb] bv cb ∧
 ∃ (co : Option Addr) (bo cv : Nat) (br : World), (Builtin.append_ #[25, 25] 25 #[.slice ce cq cc, .slice av b3 ap]).run Try.prog cb = .ok (.slice co bo cv) br ∧
 Keep [bb] cb br ∧
 ((bo : Int) > 4000 →
 R (.tuple #[.slice none 0 0, .int .i64 3]) br) ∧
 ((bo : Int) ≤ 4000 →
 R (.tuple #[.slice co bo cv, .int .i64 0]) br)) ∧
 (a0 ≠ 2 →
 (a0 = 3 →
 Calls Try.prog 39 #[.int .u64 (IntKind.u64.wrap b4)] ak fun cw ca => ∃ (bd : Option Addr) (be bg : Nat), cw = .returned (.slice bd be bg) ∧
 Keep [bb] ak ca ∧
 ∃ (cj : Option Addr) (cf cs : Nat) (bm : World), (Builtin.append_ #[25, 25] 25 #[.slice a3 a1 a2, .slice bd be bg]).run Try.prog ca = .ok (.slice cj cf cs) bm ∧
 Keep [bb] ca bm ∧
 Calls Try.prog 42 #[.slice aa a9 ab] bm fun cx c6 => ∃ (au : Option Addr) (ao b2 : Nat), cx = .returned (.slice au ao b2) ∧
 Keep [bb] bm c6 ∧
 ∃ (cl : Option Addr) (cn ck : Nat) (c7 : World), (Builtin.append_ #[25, 25] 25 #[.slice cj cf cs, .slice au ao b2]).run Try.prog c6 = .ok (.slice cl cn ck) c7 ∧
 Keep [bb] c6 c7 ∧
 Calls Try.prog 39 #[.int .u64 bl] c7 fun d2 cz => ∃ (bf : Option Addr) (bh bj : Nat), d2 = .returned (.slice bf bh bj) ∧
 ∃ (ct : Option Addr) (bn ch : Nat) (c0 : World), (Builtin.append_ #[25, 25] 25 #[.slice cl cn ck, .slice bf bh bj]).run Try.prog cz = .ok (.slice ct bn ch) c0 ∧
 ((bn : Int) > 4000 →
 R (.tuple #[.slice none 0 0, .int .i64 3]) c0) ∧
 ((bn : Int) ≤ 4000 →
 R (.tuple #[.slice ct bn ch, .int .i64 0]) c0)) ∧
 (a0 ≠ 3 →
 (a0 = 4 →
 ∀ (c3 : World), Ext no ak c3 →
 Calls Try.prog 41 #[.agg #[.int .i64 a4, .int .i64 ad, .int .u64 aj, .int .i64 b5, .int .i64 b7, .int .i64 a5, .slice a6 ac a8, .int .u64 b6]] c3 fun d0 c4 => ∃ (b0 : Option Addr) (ar am : Nat), d0 = .returned (.slice b0 ar am) ∧
 Keep [bb] c3 c4 ∧
 ∃ (cd : Option Addr) (cg ci : Nat) (c8 : World), (Builtin.append_ #[25, 25] 25 #[.slice a3 a1 a2, .slice b0 ar am]).run Try.prog c4 = .ok (.slice cd cg ci) c8 ∧
 Keep [bb] c4 c8 ∧
 Calls Try.prog 41 #[.agg #[.int .i64 a7, .int .i64 af, .int .u64 aw, .int .i64 ba, .int .i64 b8, .int .i64 ah, .slice ag ai ae, .int .u64 b9]] c8 fun d1 d4 => ∃ (ay : Option Addr) (az aq : Nat), d1 = .returned (.slice ay az aq) ∧
 ∃ (cr : Option Addr) (bt cu : Nat) (c9 : World), (Builtin.append_ #[25, 25] 25 #[.slice cd cg ci, .slice ay az aq]).run Try.prog d4 = .ok (.slice cr bt cu) c9 ∧
 ((bt : Int) > 4000 →
 R (.tuple #[.slice none 0 0, .int .i64 3]) c9) ∧
 ((bt : Int) ≤ 4000 →
 R (.tuple #[.slice cr bt cu, .int .i64 0]) c9)) ∧
 (a0 ≠ 4 →
 ((a1 : Int) > 4000 →
 R (.tuple #[.slice none 0 0, .int .i64 3]) ak) ∧
 ((a1 : Int) ≤ 4000 →
 R (.tuple #[.slice a3 a1 a2, .int .i64 0]) ak))))))

theorem Q0c.up (ad a1 a7 ae ak am a3 : Int) (a4 : Option Addr) (a6 a5 : Nat) (al a2 a9 af ai ag ab : Int) (aa : Option Addr) (ac a8 : Nat) (ah aj : Int) (ap : Option Addr) (aq ao : Nat) (an : Int) {R : RW} {w : World} (h : Q0c.N ad a1 a7 ae ak am a3 a4 a6 a5 al a2 a9 af ai ag ab aa ac a8 ah aj ap aq ao an R w) : Q0c.M ad a1 a7 ae ak am a3 a4 a6 a5 al a2 a9 af ai ag ab aa ac a8 ah aj ap aq ao an R w := by
  unfold Q0c.M
  unfold Q0c.N at h
  refine Q02 fun cf d2 => ?_
  have a0 := Blk.of_new d2
  have di := ((Ext.refl no w)).size
  have c5 := (Ext.refl no w).x_alloc d2
  refine ⟨ad, a1, a7, ae, ak, am, a3, a4, a6, a5, al, a2, a9, af, ai, ag, ab, aa, ac, a8, ah, aj, ap, aq, ao, an, ⟨a0.celli 0 rfl rfl, a0.celli 1 rfl rfl, a0.celli 2 rfl rfl, a0.celli 3 rfl rfl, a0.celli 4 rfl rfl, a0.celli 5 rfl rfl, a0.celli 6 rfl rfl, a0.celli 7 rfl rfl, a0.celli 8 rfl rfl, a0.celli 9 rfl rfl, a0.celli 10 rfl rfl, a0.celli 11 rfl rfl, a0.celli 12 rfl rfl, a0.celli 13 rfl rfl, a0.celli 14 rfl rfl, a0.celli 15 rfl rfl, a0.celli 16 rfl rfl, a0.celli 17 rfl rfl, a0.celli 18 rfl rfl, a0.celli 19 rfl rfl, trivial⟩, ?_⟩
  have h := h cf (w.heap.size) c5 (Priv.cons di a0.lt Priv.nil)
  refine h.mono fun dn db h => ?_
  obtain ⟨bc, he, hk, h⟩ := h
  refine ⟨bc, he, ?_⟩
  have a0 := hk.blk a0 (by simp)
  refine bif_of (fun ck => ?_) (fun ck => ?_)
  ·have h := h.1 (not_t ck)
   exact h
  have h := h.2 (not_f ck)
  first | unfold Q0c.J2 | skip
  refine ⟨ad, a0.celli 0 rfl rfl, ?_⟩
  refine h.mono fun df da h => ?_
  obtain ⟨bl, bo, bj, he, hk, h⟩ := h
  refine ⟨bl, bo, bj, he, ?_⟩
  have a0 := hk.blk a0 (by simp)
  refine ⟨ap, aq, ao, a0.celli 18 rfl rfl, ?_⟩
  refine h.mono fun dj cn h => ?_
  obtain ⟨ay, ax, b7, bb, he, hk, h⟩ := h
  refine ⟨ay, ax, b7, bb, he, ?_⟩
  have a0 := hk.blk a0 (by simp)
  refine ⟨ad, a0.celli 0 rfl rfl, ?_⟩
  refine bif_of (fun bu => ?_) (fun bu => ?_)
  ·have h := h.1 (beq_t bu)
   refine ⟨a1, a7, ae, ak, am, a3, a4, a6, a5, al, ⟨a0.celli 1 rfl rfl, a0.celli 2 rfl rfl, a0.celli 3 rfl rfl, a0.celli 4 rfl rfl, a0.celli 5 rfl rfl, a0.celli 6 rfl rfl, a0.celli 7 rfl rfl, a0.celli 8 rfl rfl, trivial⟩, ?_⟩
   refine h.mono fun dk dl h => ?_
   obtain ⟨b3, au, b8, he, h⟩ := h
   refine ⟨b3, au, b8, he, ?_⟩
   obtain ⟨cq, cs, ce, c8, hr, h⟩ := h
   refine ⟨cq, cs, ce, c8, hr, ?_⟩
   refine bif_of (fun c2 => ?_) (fun c2 => ?_)
   ·have h := h.1 (of_decide_eq_true c2)
    exact h
   have h := h.2 (Int.not_lt.1 (of_decide_eq_false c2))
   exact h
  have h := h.2 (beq_f bu)
  refine bif_of (fun bp => ?_) (fun bp => ?_)
  ·have h := h.1 (beq_t bp)
   first | unfold Q0c.J1 | skip
   refine bif_tt bp ?_
   refine ⟨aj, a0.celli 17 rfl rfl, ?_⟩
   refine h.mono fun dh dd h => ?_
   obtain ⟨bn, bk, bd, he, hk, h⟩ := h
   refine ⟨bn, bk, bd, he, ?_⟩
   have a0 := hk.blk a0 (by simp)
   obtain ⟨c0, ct, bv, cy, hr, hk, h⟩ := h
   refine ⟨c0, ct, bv, cy, hr, ?_⟩
   have a0 := hk.blk a0 (by simp)
   refine h.mono fun d5 dp h => ?_
   obtain ⟨b2, ba, aw, he, hk, h⟩ := h
   refine ⟨b2, ba, aw, he, ?_⟩
   have a0 := hk.blk a0 (by simp)
   obtain ⟨cp, c4, d0, cj, hr, hk, h⟩ := h
   refine ⟨cp, c4, d0, cj, hr, ?_⟩
   have a0 := hk.blk a0 (by simp)
   refine ⟨ad, a0.celli 0 rfl rfl, ?_⟩
   refine bif_ff (cong1 (r := false) (fun z => z == 3) (beq_t bp) (by decide)) ?_
   refine bif_of (fun br => ?_) (fun br => ?_)
   ·have h := h.1 (of_decide_eq_true br)
    exact h
   have h := h.2 (Int.not_lt.1 (of_decide_eq_false br))
   exact h
  have h := h.2 (beq_f bp)
  first | unfold Q0c.J1 | skip
  refine bif_of (fun bq => ?_) (fun bq => ?_)
  ·have h := h.1 (beq_t bq)
   refine ⟨aj, a0.celli 17 rfl rfl, ?_⟩
   refine h.mono fun d3 dm h => ?_
   obtain ⟨be, bf, bh, he, hk, h⟩ := h
   refine ⟨be, bf, bh, he, ?_⟩
   have a0 := hk.blk a0 (by simp)
   obtain ⟨cb, c6, cw, bt, hr, hk, h⟩ := h
   refine ⟨cb, c6, cw, bt, hr, ?_⟩
   have a0 := hk.blk a0 (by simp)
   refine h.mono fun d4 de h => ?_
   obtain ⟨b1, av, b9, he, hk, h⟩ := h
   refine ⟨b1, av, b9, he, ?_⟩
   have a0 := hk.blk a0 (by simp)
   obtain ⟨cd, ch, cc, cm, hr, hk, h⟩ := h
   refine ⟨cd, ch, cc, cm, hr, ?_⟩
   have a0 := hk.blk a0 (by simp)
   refine ⟨ad, a0.celli 0 rfl rfl, ?_⟩
   refine bif_tt bq ?_
   refine ⟨an, a0.celli 19 rfl rfl, ?_⟩
   refine h.mono fun d9 d6 h => ?_
   obtain ⟨bg, bi, bm, he, h⟩ := h
   refine ⟨bg, bi, bm, he, ?_⟩
   obtain ⟨cx, c1, c9, c3, hr, h⟩ := h
   refine ⟨cx, c1, c9, c3, hr, ?_⟩
   refine bif_of (fun bz => ?_) (fun bz => ?_)
   ·have h := h.1 (of_decide_eq_true bz)
    exact h
   have h := h.2 (Int.not_lt.1 (of_decide_eq_false bz))
   exact h
  have h := h.2 (beq_f bq)
  refine bif_fo (fun bs => ?_) (fun bs => ?_)
  ·have h := h.2 (beq_f bs)
   refine bif_of (fun cl => ?_) (fun cl => ?_)
   ·have h := h.1 (of_decide_eq_true cl)
    exact h
   have h := h.2 (Int.not_lt.1 (of_decide_eq_false cl))
   exact h
  have h := h.1 (beq_t bs)
  refine Q02 fun cg d1 => ?_
  have bx := (Ext.refl no cn).x_drew d1
  have a0 := a0.x_drew d1
  refine ⟨a1, a7, ae, ak, am, a3, a4, a6, a5, al, ⟨a0.celli 1 rfl rfl, a0.celli 2 rfl rfl, a0.celli 3 rfl rfl, a0.celli 4 rfl rfl, a0.celli 5 rfl rfl, a0.celli 6 rfl rfl, a0.celli 7 rfl rfl, a0.celli 8 rfl rfl, trivial⟩, ?_⟩
  refine ⟨a2, a9, af, ai, ag, ab, aa, ac, a8, ah, ⟨a0.celli 9 rfl rfl, a0.celli 10 rfl rfl, a0.celli 11 rfl rfl, a0.celli 12 rfl rfl, a0.celli 13 rfl rfl, a0.celli 14 rfl rfl, a0.celli 15 rfl rfl, a0.celli 16 rfl rfl, trivial⟩, ?_⟩
  have h := h cg bx
  refine h.mono fun d7 dc h => ?_
  obtain ⟨b6, b0, ar, he, hk, h⟩ := h
  refine ⟨b6, b0, ar, he, ?_⟩
  have a0 := hk.blk a0 (by simp)
  refine ⟨⟨a0.celli 9 rfl rfl, a0.celli 10 rfl rfl, a0.celli 11 rfl rfl, a0.celli 12 rfl rfl, a0.celli 13 rfl rfl, a0.celli 14 rfl rfl, a0.celli 15 rfl rfl, a0.celli 16 rfl rfl, trivial⟩, ?_⟩
  obtain ⟨bw, c7, ca, cr, hr, hk, h⟩ := h
  refine ⟨bw, c7, ca, cr, hr, ?_⟩
  have a0 := hk.blk a0 (by simp)
  refine ⟨⟨a0.celli 9 rfl rfl, a0.celli 10 rfl rfl, a0.celli 11 rfl rfl, a0.celli 12 rfl rfl, a0.celli 13 rfl rfl, a0.celli 14 rfl rfl, a0.celli 15 rfl rfl, a0.celli 16 rfl rfl, trivial⟩, ?_⟩
  refine h.mono fun d8 dg h => ?_
  obtain ⟨b4, b5, az, he, h⟩ := h
  refine ⟨b4, b5, az, he, ?_⟩
  obtain ⟨cu, co, cz, cv, hr, h⟩ := h
  refine ⟨cu, co, cz, cv, hr, ?_⟩
  refine bif_of (fun ci => ?_) (fun ci => ?_)
  ·have h := h.1 (of_decide_eq_true ci)
   exact h
  have h := h.2 (Int.not_lt.1 (of_decide_eq_false ci))
  exact h

theorem Q0c.go (am a6 ab ad ai ak aa : Int) (ac : Option Addr) (a7 a9 : Nat) (al a0 a5 a8 ag ae a4 : Int) (a1 : Option Addr) (a3 a2 : Nat) (af ah : Int) (an : Option Addr) (ao ap : Nat) (aj : Int) {R : RW} {w : World} (h : Q0c.N am a6 ab ad ai ak aa ac a7 a9 al a0 a5 a8 ag ae a4 a1 a3 a2 af ah an ao ap aj R w) : Calls Try.prog 17 #[.agg #[.int .i64 am, .int .i64 a6, .int .i64 ab, .int .u64 ad, .int .i64 ai, .int .i64 ak, .int .i64 aa, .slice ac a7 a9, .int .u64 al, .int .i64 a0, .int .i64 a5, .int .u64 a8, .int .i64 ag, .int .i64 ae, .int .i64 a4, .slice a1 a3 a2, .int .u64 af, .int .i64 ah, .slice an ao ap, .int .u64 aj]] w fun e w' => ∃ v, e = .returned v ∧ R v w' := Q0c.ok am a6 ab ad ai ak aa ac a7 a9 al a0 a5 a8 ag ae a4 a1 a3 a2 af ah an ao ap aj (Q0c.up am a6 ab ad ai ak aa ac a7 a9 al a0 a5 a8 ag ae a4 a1 a3 a2 af ah an ao ap aj h)
set_option maxRecDepth 20000
set_option maxHeartbeats 8000000
open W (OwnB)
section
variable {w w' : World} {x y : FP} {e f : Ent} {a ba : Option Addr} {c bc : Nat} {bs : List UInt8}
theorem app1 {N : Nat} {l xs : List UInt8} {xa : Option Addr} {xc : Nat} (h : OwnB N w a c l) (hx : RowAt w xa (bytesV xs)) (hl : l.length + xs.length ≤ 100000000) (hN : N ≤ w.heap.size) :
    ∃ a' c' w', (Builtin.append_ #[25, 25] 25 #[.slice a l.length c, .slice xa xs.length xc]).run Try.prog w = .ok (.slice a' (l ++ xs).length c') w' ∧ OwnB N w' a' c' (l ++ xs) ∧ Ext (fun b => ∃ ad, a = some ad ∧ b = ad.block) w w' := by
  obtain ⟨i, hi, hz, hs, hb⟩ := info_of W.infU8
  obtain ⟨a', c', w', hr, ho, hg, hbk⟩ := Q1q (ty := 25) Try.underlying25 hi hz hs hb rfl (by decide) h.own (xa := xa) (m := xs.length) (c := xc) (by rw [Q12]; omega) hx (Q2s xs) (by omega) (by omega)
  have hrow : ∀ q, (Value.slice a l.length c).ownBlock = some q → ∃ ad, a = some ad ∧ q = ad.block := fun q hq => by
    cases a with
    | none => simp [Value.ownBlock] at hq
    | some ad => simp only [Value.ownBlock, Option.some.injEq] at hq; exact ⟨ad, rfl, hq.symm⟩
  refine ⟨a', c', w', by rw [List.length_append]; exact hr, ⟨by rw [List.length_append, show bytesV (l ++ xs) = bytesV l ++ bytesV xs by simp [bytesV]]; exact ho, fun ad ha => ⟨?_, (Q1j ho).2 ad ha⟩⟩, Ext.of_grown hg fun q hq => .inl (hrow q hq)⟩
  subst ha
  rcases hbk with hq | hq
  · obtain ⟨ad', ha', e⟩ := hrow _ hq.symm
    rw [e]; exact (h.fr ad' ha').1
  · simp only [Value.ownBlock, Option.some.injEq] at hq; omega
theorem Q1G (hr : Q0t e = true) (hf : e.fit) (hb : RowAt w ba (bytesV e.body)) :
    Calls Try.prog 41 #[entV e ba bc] w (fun x w' => ∃ a' c', x = .returned (.slice a' (encE e).length c') ∧ OwnB w.heap.size w' a' c' (encE e) ∧ Ext no w w') := by
  refine (Q0z.go e.w e.i e.pv e.t e.tw e.ep ba e.body.length bc e.sg (R := fun v w' => ∃ a' c', v = (.slice a' (encE e).length c') ∧ OwnB w.heap.size w' a' c' (encE e) ∧ Ext no w w') ?_).mono fun x w' ⟨v, he, a, c, hv, hw⟩ => ⟨a, c, by rw [he, hv], hw⟩
  unfold Q0z.N
  intro w10 X10
  refine (Q3M (fun _ => hf) (hb.no X10)).mono fun x w15 ⟨X15, hor⟩ => ?_
  rcases hor with ⟨hn, _⟩ | ⟨_, a1, c1, he, hO⟩
  · rw [hr] at hn; cases hn
  refine ⟨a1, _, c1, _, he, ?_⟩
  have X := X10.trans X15
  have hel := ent_len hr
  exact (Q1L hO.row (by omega)).mono fun x w18 ⟨a2, c2, he, hO2, X18⟩ => ⟨a2, _, c2, he, a2, c2, rfl, OwnB.up hO2 X.size, X.trans X18⟩
theorem Q4I {z : Fr} (hz : x.r = z) (h : x.at w) (hf : x.r.fit) (hl : x.r.v.length ≤ 1000) (hle : x.r.e.body.length < 1000000) (hlf : x.r.f.body.length < 1000000) :
    Calls Try.prog 17 #[x.V] w (fun u w' => ∃ a c, u = .returned (.tuple #[.slice a (frK z).1.length c, .int .i64 (frK z).2]) ∧ OwnB w.heap.size w' a c (frK z).1 ∧ Ext no w w') := by
  obtain ⟨⟨kd, e, f, who, v, sg⟩, ea, ec, fa, fc, va, vc⟩ := x
  have hx : Fr.mk kd e f who v sg = z := hz
  obtain ⟨he, hf1, hv⟩ := id h
  obtain ⟨fe, ff, fv, fs⟩ := hf
  have he : RowAt w ea (bytesV e.body) := he
  have hf1 : RowAt w fa (bytesV f.body) := hf1
  have hv : RowAt w va (hsC v) := hv
  have fe : e.fit := fe
  have ff : f.fit := ff
  have fv : ∀ h ∈ v, 0 ≤ h.2.2 ∧ h.2.2 < 18446744073709551616 := fv
  have fs : 0 ≤ sg ∧ sg < 18446744073709551616 := fs
  have hl : v.length ≤ 1000 := hl
  have hR : ∀ {l : List UInt8} {a : Option Addr} {c : Nat} {w2 : World}, frOK z = true → l = frL z → OwnB w.heap.size w2 a c l → Ext no w w2 →
      (((l.length : Int) > 4000 → (∃ a c, (.tuple #[.slice none 0 0, .int .i64 3] : Value) = (.tuple #[.slice a (frK z).1.length c, .int .i64 (frK z).2]) ∧ OwnB w.heap.size w2 a c (frK z).1 ∧ Ext no w w2)) ∧
       ((l.length : Int) ≤ 4000 → (∃ a' c', (.tuple #[.slice a l.length c, .int .i64 0] : Value) = (.tuple #[.slice a' (frK z).1.length c', .int .i64 (frK z).2]) ∧ OwnB w.heap.size w2 a' c' (frK z).1 ∧ Ext no w w2))) := fun {l a c w2} hk hl hO X => by
    subst hl
    refine ⟨fun hg => ?_, fun hg => ?_⟩
    · have e : frK z = ([], 3) := by unfold frK; rw [hk, if_neg (by decide), if_pos (by omega)]
      rw [e]; exact ⟨none, 0, rfl, OwnB.nil _ _, X⟩
    · have e : frK z = (frL z, 0) := by unfold frK; rw [hk, if_neg (by decide), if_neg (by omega)]
      rw [e]; exact ⟨a, c, rfl, hO, X⟩
  refine (Q0c.go kd e.w e.i e.pv e.t e.tw e.ep ea e.body.length ec e.sg f.w f.i f.pv f.t f.tw f.ep fa f.body.length fc f.sg who va v.length vc sg (R := fun u w' => ∃ a c, u = (.tuple #[.slice a (frK z).1.length c, .int .i64 (frK z).2]) ∧ OwnB w.heap.size w' a c (frK z).1 ∧ Ext no w w') ?_).mono fun u w' ⟨v, he, a, c, hv, hw⟩ => ⟨a, c, by rw [he, hv], hw⟩
  unfold Q0c.N
  intro w21 p22 X21 hp
  have hp := hp.one
  have at21 := h.no X21
  refine (Q1b at21 (by show v.length < 1000000; omega) hle hlf).mono fun u w25 ⟨hu, X25⟩ => ⟨_, hu, X25.kept, fun hk => ?_, fun hk => ?_⟩
  · have hk : frOK ⟨kd, e, f, who, v, sg⟩ = false := hk
    rw [hx] at hk
    have ek : frK z = ([], 1) := by unfold frK; rw [if_pos hk]
    rw [ek]; exact ⟨none, 0, rfl, OwnB.nil _ _, X21.trans X25⟩
  have hk : frOK ⟨kd, e, f, who, v, sg⟩ = true := hk
  have hkd := frOK_kd hk
  simp only at hkd
  have hle1 := fun h => frOK_e hk h
  have hlf1 := fun h => frOK_f hk h
  have hlv := fun h => frOK_v hk h
  simp only at hle1 hlf1 hlv
  have Y25 := X21.trans X25
  rw [wu64 (n := kd) (by omega) (by omega)]
  have num : ∀ {K : Int} {w1 : World}, 0 ≤ K → K < 18446744073709551616 → Calls Try.prog 39 #[.int .u64 K] w1 (fun e w' => ∃ a' c', e = .returned (.slice a' (numL K.toNat).length c') ∧ OwnB w1.heap.size w' a' c' (numL K.toNat) ∧ Ext no w1 w') := fun {K w1} h0 h1 => by
    obtain ⟨n, rfl⟩ : ∃ n : Nat, K = n := ⟨K.toNat, by omega⟩
    rw [Int.toNat_natCast]
    exact W.rNum_spec n w1 (by omega)
  have hz0 : w.heap.size ≤ w25.heap.size := Y25.size
  have hz1 := X25.size
  have n1 := W.numL_le kd.toNat
  refine (num (by omega) (by omega)).mono fun u w29 ⟨a1, c1, hu, hB, X29⟩ => ⟨a1, _, c1, hu, X29.kept, ?_⟩
  have Y29 := Y25.trans X29
  refine (Q3I (hv.no Y29) hl (vnat fv)).mono fun u w33 ⟨X33, hor⟩ => ?_
  have hvr : ∃ (a : Option Addr) (n c : Nat) (k : Int), u = .returned (.tuple #[.slice a n c, .int .i64 k]) ∧ (rightV v = true → n = (vecL v).length ∧ RowAt w33 a (bytesV (vecL v)) ∧ ∀ ad, a = some ad → w29.heap.size ≤ ad.block) := by
    rcases hor with ⟨hn, hu⟩ | ⟨_, a2, c2, hu, hO2⟩
    · exact ⟨_, _, _, _, hu, fun h => by rw [hn] at h; cases h⟩
    · exact ⟨_, _, _, _, hu, fun _ => ⟨rfl, hO2.row, fun ad ha => (hO2.fr ad ha).1⟩⟩
  obtain ⟨va2, vn, vc2, vk, hu, hvr⟩ := hvr
  have Y33 := Y29.trans X33
  refine ⟨va2, vn, vc2, vk, hu, X33.kept, fun k1 => ?_, fun k1 => ⟨fun k2 => ?_, fun k2 => ⟨fun k3 => ?_, fun k3 => ⟨fun k4 w71 X71 => ?_, fun k4 => by omega⟩⟩⟩⟩
  · have hre := hle1 (.inl k1)
    have l1 := Q2F hre
    refine (Q1G (e := e) hre fe (he.no Y33)).mono fun u w37 ⟨a2, c2, hu, hO2, X37⟩ => ⟨a2, _, c2, hu, ?_⟩
    obtain ⟨a3, c3, w39, hr, hB, Y, XA, hN⟩ := app hB Y29 hz0 X29.size (X33.trans X37) (xc := c2) hO2.row (by omega)
    exact ⟨a3, _, c3, w39, hr, hR (hx ▸ hk) (by rw [← hx]; unfold frL frP; rw [if_pos k1]) (OwnB.up hB hz0) Y⟩
  · obtain ⟨w0, w8, hrv⟩ := hlv (.inl k2)
    obtain ⟨hvn, hvrow, hvfr⟩ := hvr hrv
    subst hvn
    have n3 := vec_len hrv
    have n2 := W.numL_le who.toNat
    have n4 := Q4l hrv
    rw [wu64 (n := who) (by omega) (by omega)]
    refine (num (by omega) (by omega)).mono fun u w44 ⟨a2, c2, hu, hO2, X44⟩ => ⟨a2, _, c2, hu, X44.kept, ?_⟩
    have hB44 := (hB.no X33).no X44
    have g29 := X29.size; have g33 := X33.size; have g44 := X44.size
    obtain ⟨a3, c3, w46, hr, hB3, XA⟩ := app1 hB44 (xc := c2) hO2.row (by omega) (by omega)
    have gA := XA.size
    have Y46 : Ext no w w46 := ((Y29.trans X33).trans X44).then XA fun b ⟨ad, ha, e⟩ => .inr (by rw [e]; have := (hB.fr ad ha).1; omega)
    refine ⟨a3, _, c3, w46, hr, keep1 XA (fun ⟨ad, ha, e⟩ => by have := (hB.fr ad ha).1; omega), ?_⟩
    have hvrow46 : RowAt w46 va2 (bytesV (vecL v)) := (hvrow.no X44).ext' XA fun _ ad ha => fun ⟨ad2, ha2, e⟩ => by have := hvfr ad ha; have := (hB.fr ad2 ha2).2; omega
    refine (Q1L hvrow46 (by omega)).mono fun u w49 ⟨a4, c4, hu, hO4, X49⟩ => ⟨a4, _, c4, hu, X49.kept, ?_⟩
    obtain ⟨a5, c5, w51, hr, hB, Y, XA, hN⟩ := app hB3 Y46 hz0 (by omega) X49 (xc := c4) hO4.row (by unfold encV at n4; simp only [List.length_append] at n4 ⊢; omega)
    exact ⟨a5, _, c5, w51, hr, keep1 XA (by omega), hR (hx ▸ hk) (by rw [← hx]; unfold frL frP encV; rw [if_neg k1, if_neg (show ¬ kd = 4 by omega), if_neg (show ¬ kd = 3 by omega)]; simp only [List.append_assoc]) (OwnB.up hB hz0) Y⟩
  · obtain ⟨w0, w8, hrv⟩ := hlv (.inr k3)
    obtain ⟨hvn, hvrow, hvfr⟩ := hvr hrv
    subst hvn
    have n3 := vec_len hrv
    have n2 := W.numL_le who.toNat
    have n4 := Q4l hrv
    rw [wu64 (n := who) (by omega) (by omega)]
    refine (num (by omega) (by omega)).mono fun u w44 ⟨a2, c2, hu, hO2, X44⟩ => ⟨a2, _, c2, hu, X44.kept, ?_⟩
    have hB44 := (hB.no X33).no X44
    have g29 := X29.size; have g33 := X33.size; have g44 := X44.size
    obtain ⟨a3, c3, w46, hr, hB3, XA⟩ := app1 hB44 (xc := c2) hO2.row (by omega) (by omega)
    have gA := XA.size
    have Y46 : Ext no w w46 := ((Y29.trans X33).trans X44).then XA fun b ⟨ad, ha, e⟩ => .inr (by rw [e]; have := (hB.fr ad ha).1; omega)
    refine ⟨a3, _, c3, w46, hr, keep1 XA (fun ⟨ad, ha, e⟩ => by have := (hB.fr ad ha).1; omega), ?_⟩
    have hvrow46 : RowAt w46 va2 (bytesV (vecL v)) := (hvrow.no X44).ext' XA fun _ ad ha => fun ⟨ad2, ha2, e⟩ => by have := hvfr ad ha; have := (hB.fr ad2 ha2).2; omega
    refine (Q1L hvrow46 (by omega)).mono fun u w49 ⟨a4, c4, hu, hO4, X49⟩ => ⟨a4, _, c4, hu, X49.kept, ?_⟩
    obtain ⟨a5, c5, w51, hr, hB, Y, XA, hN⟩ := app hB3 Y46 hz0 (by omega) X49 (xc := c4) hO4.row (by unfold encV at n4; simp only [List.length_append] at n4 ⊢; omega)
    refine ⟨a5, _, c5, w51, hr, keep1 XA (by omega), ?_⟩
    refine (num (by omega) (by omega)).mono fun u w66 ⟨a6, c6, hu, hO6, X66⟩ => ⟨a6, _, c6, hu, ?_⟩
    have n6 := W.numL_le sg.toNat
    obtain ⟨a7, c7, w68, hr, hB, Y, XA, hN⟩ := app hB Y hz0 hN X66 (xc := c6) hO6.row (by unfold encV at n4; simp only [List.length_append] at n4 ⊢; omega)
    exact ⟨a7, _, c7, w68, hr, hR (hx ▸ hk) (by rw [← hx]; unfold frL frP encV; rw [if_neg k1, if_neg (show ¬ kd = 4 by omega), if_pos k3]; simp only [List.append_assoc]) (OwnB.up hB hz0) Y⟩
  · have hre := hle1 (.inr k4)
    have hrf := hlf1 k4
    have l1 := Q2F hre
    have l2 := Q2F hrf
    have Y71 := Y33.trans X71
    refine (Q1G (e := e) hre fe (he.no Y71)).mono fun u w74 ⟨a2, c2, hu, hO2, X74⟩ => ⟨a2, _, c2, hu, X74.kept, ?_⟩
    obtain ⟨a3, c3, w76, hr, hB, Y, XA, hN⟩ := app hB Y29 hz0 X29.size ((X33.trans X71).trans X74) (xc := c2) hO2.row (by omega)
    refine ⟨a3, _, c3, w76, hr, keep1 XA (by omega), ?_⟩
    refine (Q1G (e := f) hrf ff (hf1.no Y)).mono fun u w79 ⟨a4, c4, hu, hO4, X79⟩ => ⟨a4, _, c4, hu, ?_⟩
    obtain ⟨a5, c5, w81, hr, hB, Y, XA, hN⟩ := app hB Y hz0 hN X79 (xc := c4) hO4.row (by simp only [List.length_append]; omega)
    exact ⟨a5, _, c5, w81, hr, hR (hx ▸ hk) (by rw [← hx]; unfold frL frP; rw [if_neg k1, if_pos k4]; simp only [List.append_assoc]) (OwnB.up hB hz0) Y⟩
theorem Q3C (h : x.at w) (hf : x.r.fit) (hl : x.r.v.length ≤ 1000) (hle : x.r.e.body.length < 1000000) (hlf : x.r.f.body.length < 1000000) :
    Calls Try.prog 17 #[x.V] w (fun u w' => ∃ a c, u = .returned (.tuple #[.slice a (frK x.r).1.length c, .int .i64 (frK x.r).2]) ∧ OwnB w.heap.size w' a c (frK x.r).1 ∧ Ext no w w') := Q4I rfl h hf hl hle hlf
end
structure Ent.wide (e : Ent) : Prop where
  w : -9223372036854775808 ≤ e.w ∧ e.w < 9223372036854775808
  i : -9223372036854775808 ≤ e.i ∧ e.i < 9223372036854775808
  t : -9223372036854775808 ≤ e.t ∧ e.t < 9223372036854775808
  tw : -9223372036854775808 ≤ e.tw ∧ e.tw < 9223372036854775808
  ep : -9223372036854775808 ≤ e.ep ∧ e.ep < 9223372036854775808
def EntQ (W : World) (cs : List Value) : Prop := ∃ (e : Ent) (a : Option Addr) (c : Nat), cs = entC e a c ∧ e.fit ∧ e.wide ∧ e.body.length ≤ c ∧ c ≤ maxLen ∧ RowAt W a (bytesV e.body)
theorem list8 {α : Type} : ∀ {l : List α}, l.length = 8 → ∃ a b c d e f g h, l = [a, b, c, d, e, f, g, h]
  | [a, b, c, d, e, f, g, h], _ => ⟨a, b, c, d, e, f, g, h, rfl⟩
theorem Q3s : Try.prog.cellsOf 27 = 8 := by kernel_rfl
theorem Q1H : Try.prog.cellsOf 24 = 2 := by kernel_rfl
theorem Q36 : Opens Try.prog 27 EntQ := (Q1x Try.underlying27 Q3s).mono fun W cs ⟨hl, hf⟩ => by
  obtain ⟨c0, c1, c2, c3, c4, c5, c6, c7, rfl⟩ := list8 hl
  have e0 : ∃ n, (([c0, c1, c2, c3, c4, c5, c6, c7] : List Value).drop 0).take (Try.prog.cellsOf 3) = [.int .i64 n] ∧ _ := hf 0 _ rfl _ (Q16 Try.underlying3)
  have e1 : ∃ n, (([c0, c1, c2, c3, c4, c5, c6, c7] : List Value).drop 1).take (Try.prog.cellsOf 3) = [.int .i64 n] ∧ _ := hf 1 _ rfl _ (Q16 Try.underlying3)
  have e2 : ∃ n, (([c0, c1, c2, c3, c4, c5, c6, c7] : List Value).drop 2).take (Try.prog.cellsOf 22) = [.int .u64 n] ∧ _ := hf 2 _ rfl _ (Q16 Try.underlying22)
  have e3 := hf 3 _ rfl _ (Q1x Try.underlying24 Q1H)
  change (((([c0, c1, c2, c3, c4, c5, c6, c7] : List Value).drop 3).take (Try.prog.cellsOf 24)).length = 2 ∧ _) at e3
  have e4 : ∃ n, (([c0, c1, c2, c3, c4, c5, c6, c7] : List Value).drop 5).take (Try.prog.cellsOf 3) = [.int .i64 n] ∧ _ := hf 4 _ rfl _ (Q16 Try.underlying3)
  have e5 : BytesQ W ((([c0, c1, c2, c3, c4, c5, c6, c7] : List Value).drop 6).take (Try.prog.cellsOf 25)) := hf 5 _ rfl _ (Q3W Try.underlying25 (by kernel_rfl) Try.underlying5)
  have e6 : ∃ n, (([c0, c1, c2, c3, c4, c5, c6, c7] : List Value).drop 7).take (Try.prog.cellsOf 22) = [.int .u64 n] ∧ _ := hf 6 _ rfl _ (Q16 Try.underlying22)
  have o1 : Try.prog.cellsOf 3 = 1 := by kernel_rfl
  have o2 : Try.prog.cellsOf 22 = 1 := by kernel_rfl
  have o3 : Try.prog.cellsOf 25 = 1 := by kernel_rfl
  have o4 : Try.prog.cellsOf 2 = 1 := by kernel_rfl
  simp only [o1, o2, o3, Q1H, List.drop_zero, List.drop_succ_cons, List.take_succ_cons, List.take_zero] at e0 e1 e2 e4 e5 e6
  obtain ⟨_, hs⟩ := e3
  have s0 : ∃ n, ((((([c0, c1, c2, c3, c4, c5, c6, c7] : List Value).drop 3).take (Try.prog.cellsOf 24)).drop 0).take (Try.prog.cellsOf 2)) = [.int .i64 n] ∧ _ := hs 0 _ rfl _ (Q16 Try.underlying2)
  have s1 : ∃ n, ((((([c0, c1, c2, c3, c4, c5, c6, c7] : List Value).drop 3).take (Try.prog.cellsOf 24)).drop 1).take (Try.prog.cellsOf 3)) = [.int .i64 n] ∧ _ := hs 1 _ rfl _ (Q16 Try.underlying3)
  simp only [o1, o4, Q1H, List.drop_zero, List.drop_succ_cons, List.take_succ_cons, List.take_zero] at s0 s1
  obtain ⟨n0, q0, w0⟩ := e0
  obtain ⟨n1, q1, w1⟩ := e1
  obtain ⟨n2, q2, w2⟩ := e2
  obtain ⟨n3, q3, w3⟩ := s0
  obtain ⟨n4, q4, w4⟩ := s1
  obtain ⟨n5, q5, w5⟩ := e4
  obtain ⟨a, c, bs, q6, l1, l2, r⟩ := e5
  obtain ⟨n7, q7, w7⟩ := e6
  simp only [List.cons.injEq, and_true] at q0 q1 q2 q3 q4 q5 q6 q7
  subst q0; subst q1; subst q2; subst q3; subst q4; subst q5; subst q6; subst q7
  exact ⟨⟨n0, n1, n2, n3, n4, n5, bs, n7⟩, a, c, rfl, ⟨(wf_u64 w2).1, (wf_u64 w2).2, (wf_u64 w7).1, (wf_u64 w7).2⟩, ⟨wf_i64 w0, wf_i64 w1, wf_i64 w3, wf_i64 w4, wf_i64 w5⟩, l1, l2, r⟩
set_option maxHeartbeats 4000000
open W (OwnB Rd numR countR doneR)
structure FP.inn (W : World) (x : FP) : Prop where
  at_ : x.at W
  el : x.r.e.body.length ≤ x.ec
  fl : x.r.f.body.length ≤ x.fc
  vl : x.r.v.length ≤ x.vc
  fv : ∀ h ∈ x.r.v, fitH h
  fe : x.r.e.fit ∧ x.r.e.wide
  ff : x.r.f.fit ∧ x.r.f.wide
  kd : -9223372036854775808 ≤ x.r.kd ∧ x.r.kd < 9223372036854775808
  who : -9223372036854775808 ≤ x.r.who ∧ x.r.who < 9223372036854775808
  sg : 0 ≤ x.r.sg ∧ x.r.sg < 18446744073709551616
def FrQ (W : World) (cs : List Value) : Prop := ∃ x : FP, cs = x.C ∧ x.inn W
theorem opens_frame : Opens Try.prog 30 FrQ :=
  (Q5j (qs := [(1, _), (8, _), (8, _), (1, _), (1, _), (1, _)]) (size := 20) Try.underlying30 (by kernel_rfl)
    ⟨⟨rfl, by kernel_rfl, Q16 Try.underlying3⟩, ⟨rfl, by kernel_rfl, Q36⟩, ⟨rfl, by kernel_rfl, Q36⟩, ⟨rfl, by kernel_rfl, Q16 Try.underlying3⟩, ⟨rfl, by kernel_rfl, Q3Z⟩, ⟨rfl, by kernel_rfl, Q16 Try.underlying22⟩, rfl⟩).mono
    fun W cs ⟨_, _, e0, _, ⟨kd, q0, fk⟩, _, _, e1, _, ⟨e, ea, ec, q1, f1, g1, l1, _, r1⟩, _, _, e2, _, ⟨f, fa, fc, q2, f2, g2, l2, _, r2⟩, _, _, e3, _, ⟨who, q3, fw⟩, _, _, e4, _, ⟨va, vc, hs, q4, l4, _, r4, f4⟩, _, _, e5, _, ⟨sg, q5, fs⟩, q6⟩ => by
      subst q0; subst q1; subst q2; subst q3; subst q4; subst q5; subst q6; subst e5; subst e4; subst e3; subst e2; subst e1; subst e0
      exact ⟨⟨⟨kd, e, f, who, hs, sg⟩, ea, ec, fa, fc, va, vc⟩, rfl, ⟨r1, r2, r4⟩, l1, l2, l4, f4, ⟨f1, g1⟩, ⟨f2, g2⟩, wf_i64 fk, wf_i64 fw, wf_u64 fs⟩
theorem FP.inn.fit {W : World} {x : FP} (h : x.inn W) : x.r.fit := ⟨h.fe.1, h.ff.1, fun q hq => wf_u64 (h.fv q hq).2.2, h.sg⟩
theorem frK_ok {x : Fr} (h : (frK x).2 = 0) : frOK x = true ∧ (frL x).length ≤ 4000 ∧ frK x = (frL x, 0) := by
  unfold frK at h ⊢
  cases hk : frOK x with
  | false => rw [hk, if_pos rfl] at h; exact absurd (show (1 : Int) = 0 from h) (by decide)
  | true =>
    rw [hk, if_neg (by decide)] at h
    by_cases hl : (frL x).length > 4000
    · rw [if_pos hl] at h; exact absurd (show (3 : Int) = 0 from h) (by decide)
    · exact ⟨rfl, by omega, by rw [if_neg (by decide), if_neg hl]⟩
theorem frK_len (x : Fr) : (frK x).1.length ≤ 4000 := by
  unfold frK
  split
  · exact Nat.zero_le _
  · split
    · exact Nat.zero_le _
    · show (frL x).length ≤ 4000; omega
theorem light_v {r : Fr} (h : frLight r = true) : r.e.body.length ≤ 1500 ∧ r.f.body.length ≤ 1500 ∧ r.v.length ≤ 30 := of_decide_eq_true h
set_option maxRecDepth 100000
set_option maxHeartbeats 40000000
abbrev Q09.J1 (om ce : Addr) (se : Option Addr) (sg s2 : Nat) (R : RW) (pr : World) : Prop :=
 ∃ (li d6 en i6 kv kt eq : Int) (el : Option Addr) (ex ew : Nat) (lg d4 fm g0 ly ln fk : Int) (df : Option Addr) (fh e3 : Nat) (kf np : Int) (pl : Option Addr) (ou pg : Nat) (mh : Int), cellsAt pr ce [.int .i64 li, .int .i64 d6, .int .i64 en, .int .u64 i6, .int .i64 kv, .int .i64 kt, .int .i64 eq, .slice el ex ew, .int .u64 lg, .int .i64 d4, .int .i64 fm, .int .u64 g0, .int .i64 ly, .int .i64 ln, .int .i64 fk, .slice df fh e3, .int .u64 kf, .int .i64 np, .slice pl ou pg, .int .u64 mh] 0 ∧
 Calls Try.prog 10 #[.agg #[.int .i64 li, .int .i64 d6, .int .i64 en, .int .u64 i6, .int .i64 kv, .int .i64 kt, .int .i64 eq, .slice el ex ew, .int .u64 lg, .int .i64 d4, .int .i64 fm, .int .u64 g0, .int .i64 ly, .int .i64 ln, .int .i64 fk, .slice df fh e3, .int .u64 kf, .int .i64 np, .slice pl ou pg, .int .u64 mh]] pr fun s3 sb => ∃ (nq fo ga l8 o8 ms jo : Int) (j8 : Option Addr) (gi gw : Nat) (nb du fx la ma nc iy : Int) (iv : Option Addr) (jm gg : Nat) (mf oq : Int) (qi : Option Addr) (qk ps : Nat) (ot : Int), s3 = .returned (.agg #[.int .i64 nq, .int .i64 fo, .int .i64 ga, .int .u64 l8, .int .i64 o8, .int .i64 ms, .int .i64 jo, .slice j8 gi gw, .int .u64 nb, .int .i64 du, .int .i64 fx, .int .u64 la, .int .i64 ma, .int .i64 nc, .int .i64 iy, .slice iv jm gg, .int .u64 mf, .int .i64 oq, .slice qi qk ps, .int .u64 ot]) ∧
 Calls Try.prog 9 #[.agg #[.int .i64 nq, .int .i64 fo, .int .i64 ga, .int .u64 l8, .int .i64 o8, .int .i64 ms, .int .i64 jo, .slice j8 gi gw, .int .u64 nb, .int .i64 du, .int .i64 fx, .int .u64 la, .int .i64 ma, .int .i64 nc, .int .i64 iy, .slice iv jm gg, .int .u64 mf, .int .i64 oq, .slice qi qk ps, .int .u64 ot]] sb fun s6 q1 => ∃ (jp : Option Addr) (i5 k4 : Nat) (lu : Int), s6 = .returned (.tuple #[.slice jp i5 k4, .int .i64 lu]) ∧
 ∃ (l3 d7 ea i9 l1 lw dr : Int) (fg : Option Addr) (dg ey : Nat) (ke d5 e0 jh l7 ld dh : Int) (f8 : Option Addr) (ei e6 : Nat) (ki o3 : Int) (ph : Option Addr) (p3 p1 : Nat) (mu : Int), cellsAt q1 ce [.int .i64 l3, .int .i64 d7, .int .i64 ea, .int .u64 i9, .int .i64 l1, .int .i64 lw, .int .i64 dr, .slice fg dg ey, .int .u64 ke, .int .i64 d5, .int .i64 e0, .int .u64 jh, .int .i64 l7, .int .i64 ld, .int .i64 dh, .slice f8 ei e6, .int .u64 ki, .int .i64 o3, .slice ph p3 p1, .int .u64 mu] 0 ∧
 Calls Try.prog 17 #[.agg #[.int .i64 l3, .int .i64 d7, .int .i64 ea, .int .u64 i9, .int .i64 l1, .int .i64 lw, .int .i64 dr, .slice fg dg ey, .int .u64 ke, .int .i64 d5, .int .i64 e0, .int .u64 jh, .int .i64 l7, .int .i64 ld, .int .i64 dh, .slice f8 ei e6, .int .u64 ki, .int .i64 o3, .slice ph p3 p1, .int .u64 mu]] q1 fun s7 qz => ∃ (i1 : Option Addr) (gs ig : Nat) (l4 : Int), s7 = .returned (.tuple #[.slice i1 gs ig, .int .i64 l4]) ∧
 Calls Try.prog 13 #[.slice se sg s2] qz fun sf pc => ∃ (nx e1 gc kq nz mo ic : Int) (k2 : Option Addr) (jq g2 : Nat) (o0 et je kl mi nn gh : Int) (j2 : Option Addr) (gj jn : Nat) (m8 pn : Int) (py : Option Addr) (q7 qo : Nat) (pj n1 : Int), sf = .returned (.tuple #[.agg #[.int .i64 nx, .int .i64 e1, .int .i64 gc, .int .u64 kq, .int .i64 nz, .int .i64 mo, .int .i64 ic, .slice k2 jq g2, .int .u64 o0, .int .i64 et, .int .i64 je, .int .u64 kl, .int .i64 mi, .int .i64 nn, .int .i64 gh, .slice j2 gj jn, .int .u64 m8, .int .i64 pn, .slice py q7 qo, .int .u64 pj], .int .i64 n1]) ∧
 thenW (pc.alloc (.cells #[.int .i64 0, .int .i64 0, .int .i64 0, .int .u64 0, .int .i64 0, .int .i64 0, .int .i64 0, .slice none 0 0, .int .u64 0, .int .i64 0, .int .i64 0, .int .u64 0, .int .i64 0, .int .i64 0, .int .i64 0, .slice none 0 0, .int .u64 0, .int .i64 0, .slice none 0 0, .int .u64 0] 38)) fun sc =>
 putsK sc (blk pc.heap.size) [.int .i64 nx, .int .i64 e1, .int .i64 gc, .int .u64 kq, .int .i64 nz, .int .i64 mo, .int .i64 ic, .slice k2 jq g2, .int .u64 o0, .int .i64 et, .int .i64 je, .int .u64 kl, .int .i64 mi, .int .i64 nn, .int .i64 gh, .slice j2 gj jn, .int .u64 m8, .int .i64 pn, .slice py q7 qo, .int .u64 pj] 0 fun s0 =>
 Calls Try.prog 18 #[.slice se sg s2] s0 fun qt oa => ∃ (n6 eg il lf oj o5 j7 : Int) (k0 : Option Addr) (ib ip : Nat) (mv dd j9 lz m7 na jy : Int) (j6 : Option Addr) (ii gl : Nat) (oe pp : Int) (pv : Option Addr) (qn qj : Nat) (pd n7 : Int), qt = .returned (.tuple #[.agg #[.int .i64 n6, .int .i64 eg, .int .i64 il, .int .u64 lf, .int .i64 oj, .int .i64 o5, .int .i64 j7, .slice k0 ib ip, .int .u64 mv, .int .i64 dd, .int .i64 j9, .int .u64 lz, .int .i64 m7, .int .i64 na, .int .i64 jy, .slice j6 ii gl, .int .u64 oe, .int .i64 pp, .slice pv qn qj, .int .u64 pd], .int .i64 n7]) ∧
 thenW (oa.alloc (.cells #[.int .i64 0, .int .i64 0, .int .i64 0, .int .u64 0, .int .i64 0, .int .i64 0, .int .i64 0, .slice none 0 0, .int .u64 0, .int .i64 0, .int .i64 0, .int .u64 0, .int .i64 0, .int .i64 0, .int .i64 0, .slice none 0 0, .int .u64 0, .int .i64 0, .slice none 0 0, .int .u64 0] 30)) fun sh =>
 putsK sh (blk oa.heap.size) [.int .i64 n6, .int .i64 eg, .int .i64 il, .int .u64 lf, .int .i64 oj, .int .i64 o5, .int .i64 j7, .slice k0 ib ip, .int .u64 mv, .int .i64 dd, .int .i64 j9, .int .u64 lz, .int .i64 m7, .int .i64 na, .int .i64 jy, .slice j6 ii gl, .int .u64 oe, .int .i64 pp, .slice pv qn qj, .int .u64 pd] 0 fun qr =>
 thenW (qr.drew) fun oz =>
 ∃ (lh d3 dk ia ll l2 ej : Int) (dn : Option Addr) (e7 dq : Nat) (lr d2 ec iw kz kn e8 : Int) (fe : Option Addr) (f2 fs : Nat) (ks nh : Int) (p2 : Option Addr) (po p7 : Nat) (mk : Int), cellsAt oz ce [.int .i64 lh, .int .i64 d3, .int .i64 dk, .int .u64 ia, .int .i64 ll, .int .i64 l2, .int .i64 ej, .slice dn e7 dq, .int .u64 lr, .int .i64 d2, .int .i64 ec, .int .u64 iw, .int .i64 kz, .int .i64 kn, .int .i64 e8, .slice fe f2 fs, .int .u64 ks, .int .i64 nh, .slice p2 po p7, .int .u64 mk] 0 ∧
 ∃ (ci ap b5 bv ct cq b2 : Int) (b3 : Option Addr) (b4 aw : Nat) (cl ao ax bq cp cr b1 : Int) (az : Option Addr) (ay b0 : Nat) (cn d8 : Int) (k7 : Option Addr) (k9 kb : Nat) (dc : Int), cellsAt oz ce [.int .i64 ci, .int .i64 ap, .int .i64 b5, .int .u64 bv, .int .i64 ct, .int .i64 cq, .int .i64 b2, .slice b3 b4 aw, .int .u64 cl, .int .i64 ao, .int .i64 ax, .int .u64 bq, .int .i64 cp, .int .i64 cr, .int .i64 b1, .slice az ay b0, .int .u64 cn, .int .i64 d8, .slice k7 k9 kb, .int .u64 dc] 0 ∧
 Calls Try.prog 10 #[.agg #[.int .i64 lh, .int .i64 d3, .int .i64 dk, .int .u64 ia, .int .i64 ll, .int .i64 l2, .int .i64 ej, .slice dn e7 dq, .int .u64 lr, .int .i64 d2, .int .i64 ec, .int .u64 iw, .int .i64 kz, .int .i64 kn, .int .i64 e8, .slice fe f2 fs, .int .u64 ks, .int .i64 nh, .slice p2 po p7, .int .u64 mk]] oz fun si qd => ∃ (nf e2 gx lb nk my gt : Int) (ih : Option Addr) (g8 gq : Nat) (nl dj i0 lk ol mt js : Int) (jg : Option Addr) (gd g9 : Nat) (ok p9 : Int) (qe : Option Addr) (pw ql : Nat) (oy : Int), si = .returned (.agg #[.int .i64 nf, .int .i64 e2, .int .i64 gx, .int .u64 lb, .int .i64 nk, .int .i64 my, .int .i64 gt, .slice ih g8 gq, .int .u64 nl, .int .i64 dj, .int .i64 i0, .int .u64 lk, .int .i64 ol, .int .i64 mt, .int .i64 js, .slice jg gd g9, .int .u64 ok, .int .i64 p9, .slice qe pw ql, .int .u64 oy]) ∧
 cellsAt qd ce [.int .i64 ci, .int .i64 ap, .int .i64 b5, .int .u64 bv, .int .i64 ct, .int .i64 cq, .int .i64 b2, .slice b3 b4 aw, .int .u64 cl, .int .i64 ao, .int .i64 ax, .int .u64 bq, .int .i64 cp, .int .i64 cr, .int .i64 b1, .slice az ay b0, .int .u64 cn, .int .i64 d8, .slice k7 k9 kb, .int .u64 dc] 0 ∧
 Calls Try.prog 16 #[.agg #[.int .i64 nf, .int .i64 e2, .int .i64 gx, .int .u64 lb, .int .i64 nk, .int .i64 my, .int .i64 gt, .slice ih g8 gq, .int .u64 nl, .int .i64 dj, .int .i64 i0, .int .u64 lk, .int .i64 ol, .int .i64 mt, .int .i64 js, .slice jg gd g9, .int .u64 ok, .int .i64 p9, .slice qe pw ql, .int .u64 oy]] qd fun qy q8 => ∃ (lp : Bool), qy = .returned (.bool lp) ∧
 cellsAt q8 ce [.int .i64 ci, .int .i64 ap, .int .i64 b5, .int .u64 bv, .int .i64 ct, .int .i64 cq, .int .i64 b2, .slice b3 b4 aw, .int .u64 cl, .int .i64 ao, .int .i64 ax, .int .u64 bq, .int .i64 cp, .int .i64 cr, .int .i64 b1, .slice az ay b0, .int .u64 cn, .int .i64 d8, .slice k7 k9 kb, .int .u64 dc] 0 ∧
 Calls Try.prog 19 #[.agg #[.int .i64 ci, .int .i64 ap, .int .i64 b5, .int .u64 bv, .int .i64 ct, .int .i64 cq, .int .i64 b2, .slice b3 b4 aw, .int .u64 cl, .int .i64 ao, .int .i64 ax, .int .u64 bq, .int .i64 cp, .int .i64 cr, .int .i64 b1, .slice az ay b0, .int .u64 cn, .int .i64 d8, .slice k7 k9 kb, .int .u64 dc]] q8 fun qv qa => ∃ (lj : Bool), qv = .returned (.bool lj) ∧
 bif lp == lj then (
 Calls Try.prog 11 #[.slice jp i5 k4, .slice i1 gs ig] qa fun s5 kk => ∃ (n5 : Bool), s5 = .returned (.bool n5) ∧
 bif n5 then (
 bif lu == l4 then (
 ∃ (kx cy dp ja ls lm f0 : Int) (fd : Option Addr) (fp em : Nat) (kg d1 e4 ix l9 lc ee : Int) (fv : Option Addr) (dm es : Nat) (kj mg : Int) (os : Option Addr) (p4 pe : Nat) (mw : Int), cellsAt kk (blk pc.heap.size) [.int .i64 kx, .int .i64 cy, .int .i64 dp, .int .u64 ja, .int .i64 ls, .int .i64 lm, .int .i64 f0, .slice fd fp em, .int .u64 kg, .int .i64 d1, .int .i64 e4, .int .u64 ix, .int .i64 l9, .int .i64 lc, .int .i64 ee, .slice fv dm es, .int .u64 kj, .int .i64 mg, .slice os p4 pe, .int .u64 mw] 0 ∧
 ∃ (fw bf cf cw fc fb cb : Int) (c3 : Option Addr) (ca cg : Nat) (eb bj c9 cx ds e5 c1 : Int) (c5 : Option Addr) (ch c0 : Nat) (ev ka : Int) (m0 : Option Addr) (m3 m5 : Nat) (k6 : Int), cellsAt kk (blk oa.heap.size) [.int .i64 fw, .int .i64 bf, .int .i64 cf, .int .u64 cw, .int .i64 fc, .int .i64 fb, .int .i64 cb, .slice c3 ca cg, .int .u64 eb, .int .i64 bj, .int .i64 c9, .int .u64 cx, .int .i64 ds, .int .i64 e5, .int .i64 c1, .slice c5 ch c0, .int .u64 ev, .int .i64 ka, .slice m0 m3 m5, .int .u64 k6] 0 ∧
 Calls Try.prog 15 #[.agg #[.int .i64 kx, .int .i64 cy, .int .i64 dp, .int .u64 ja, .int .i64 ls, .int .i64 lm, .int .i64 f0, .slice fd fp em, .int .u64 kg, .int .i64 d1, .int .i64 e4, .int .u64 ix, .int .i64 l9, .int .i64 lc, .int .i64 ee, .slice fv dm es, .int .u64 kj, .int .i64 mg, .slice os p4 pe, .int .u64 mw]] kk fun qw qg => ∃ (ml er jj lx mq og fz : Int) (g6 : Option Addr) (ji gp : Nat) (ni f3 gr l0 m6 mb gf : Int) (i7 : Option Addr) (i2 g7 : Nat) (oh ox : Int) (qc : Option Addr) (q0 pz : Nat) (pk : Int), qw = .returned (.agg #[.int .i64 ml, .int .i64 er, .int .i64 jj, .int .u64 lx, .int .i64 mq, .int .i64 og, .int .i64 fz, .slice g6 ji gp, .int .u64 ni, .int .i64 f3, .int .i64 gr, .int .u64 l0, .int .i64 m6, .int .i64 mb, .int .i64 gf, .slice i7 i2 g7, .int .u64 oh, .int .i64 ox, .slice qc q0 pz, .int .u64 pk]) ∧
 cellsAt qg (blk oa.heap.size) [.int .i64 fw, .int .i64 bf, .int .i64 cf, .int .u64 cw, .int .i64 fc, .int .i64 fb, .int .i64 cb, .slice c3 ca cg, .int .u64 eb, .int .i64 bj, .int .i64 c9, .int .u64 cx, .int .i64 ds, .int .i64 e5, .int .i64 c1, .slice c5 ch c0, .int .u64 ev, .int .i64 ka, .slice m0 m3 m5, .int .u64 k6] 0 ∧
 Calls Try.prog 14 #[.agg #[.int .i64 ml, .int .i64 er, .int .i64 jj, .int .u64 lx, .int .i64 mq, .int .i64 og, .int .i64 fz, .slice g6 ji gp, .int .u64 ni, .int .i64 f3, .int .i64 gr, .int .u64 l0, .int .i64 m6, .int .i64 mb, .int .i64 gf, .slice i7 i2 g7, .int .u64 oh, .int .i64 ox, .slice qc q0 pz, .int .u64 pk], .agg #[.int .i64 fw, .int .i64 bf, .int .i64 cf, .int .u64 cw, .int .i64 fc, .int .i64 fb, .int .i64 cb, .slice c3 ca cg, .int .u64 eb, .int .i64 bj, .int .i64 c9, .int .u64 cx, .int .i64 ds, .int .i64 e5, .int .i64 c1, .slice c5 ch c0, .int .u64 ev, .int .i64 ka, .slice m0 m3 m5, .int .u64 k6]] qg fun s1 ep => ∃ (mj : Bool), s1 = .returned (.bool mj) ∧
 bif mj then (
 bif n1 == n7 then (
 ∃ (ku d0 ez ij kr lt e9 : Int) (de : Option Addr) (ed ft : Nat) (kc cz fq jk ky l5 f7 : Int) (dx : Option Addr) (di dw : Nat) (l6 n8 : Int) (pi : Option Addr) (op p5 : Nat) (mm : Int), cellsAt ep ce [.int .i64 ku, .int .i64 d0, .int .i64 ez, .int .u64 ij, .int .i64 kr, .int .i64 lt, .int .i64 e9, .slice de ed ft, .int .u64 kc, .int .i64 cz, .int .i64 fq, .int .u64 jk, .int .i64 ky, .int .i64 l5, .int .i64 f7, .slice dx di dw, .int .u64 l6, .int .i64 n8, .slice pi op p5, .int .u64 mm] 0 ∧
 ∃ (fa bh c6 cu dl dv c8 : Int) (cd : Option Addr) (bw c4 : Nat) (ff b7 c2 cv dy f6 cc : Int) (bx : Option Addr) (c7 bz : Nat) (fu k8 : Int) (m4 : Option Addr) (m2 m1 : Nat) (k5 : Int), cellsAt ep om [.int .i64 fa, .int .i64 bh, .int .i64 c6, .int .u64 cu, .int .i64 dl, .int .i64 dv, .int .i64 c8, .slice cd bw c4, .int .u64 ff, .int .i64 b7, .int .i64 c2, .int .u64 cv, .int .i64 dy, .int .i64 f6, .int .i64 cc, .slice bx c7 bz, .int .u64 fu, .int .i64 k8, .slice m4 m2 m1, .int .u64 k5] 0 ∧
 ∃ (bd a2 aj aq bl bb ad : Int) (ac : Option Addr) (ab al : Nat) (bk a1 a5 av bn b9 ag : Int) (af : Option Addr) (aa a6 : Nat) (ba ck : Int) (eh : Option Addr) (fi dt : Nat) (cs : Int), cellsAt ep ce [.int .i64 bd, .int .i64 a2, .int .i64 aj, .int .u64 aq, .int .i64 bl, .int .i64 bb, .int .i64 ad, .slice ac ab al, .int .u64 bk, .int .i64 a1, .int .i64 a5, .int .u64 av, .int .i64 bn, .int .i64 b9, .int .i64 ag, .slice af aa a6, .int .u64 ba, .int .i64 ck, .slice eh fi dt, .int .u64 cs] 0 ∧
 ∃ (bi a3 ak ar bc bm ai : Int) (ah : Option Addr) (a4 a9 : Nat) (bg a0 a8 au be bo am : Int) (ae : Option Addr) (a7 an : Nat) (b8 cm : Int) (eo : Option Addr) (ek dz : Nat) (co : Int), cellsAt ep om [.int .i64 bi, .int .i64 a3, .int .i64 ak, .int .u64 ar, .int .i64 bc, .int .i64 bm, .int .i64 ai, .slice ah a4 a9, .int .u64 bg, .int .i64 a0, .int .i64 a8, .int .u64 au, .int .i64 be, .int .i64 bo, .int .i64 am, .slice ae a7 an, .int .u64 b8, .int .i64 cm, .slice eo ek dz, .int .u64 co] 0 ∧
 Calls Try.prog 10 #[.agg #[.int .i64 ku, .int .i64 d0, .int .i64 ez, .int .u64 ij, .int .i64 kr, .int .i64 lt, .int .i64 e9, .slice de ed ft, .int .u64 kc, .int .i64 cz, .int .i64 fq, .int .u64 jk, .int .i64 ky, .int .i64 l5, .int .i64 f7, .slice dx di dw, .int .u64 l6, .int .i64 n8, .slice pi op p5, .int .u64 mm]] ep fun s8 oi => ∃ (ng ef jt lv o6 ns ie : Int) (j0 : Option Addr) (i3 j4 : Nat) (ob fl jx kw od nu k3 : Int) (gm : Option Addr) (g3 ir : Nat) (o1 oo : Int) (qh : Option Addr) (q9 qf : Nat) (pb : Int), s8 = .returned (.agg #[.int .i64 ng, .int .i64 ef, .int .i64 jt, .int .u64 lv, .int .i64 o6, .int .i64 ns, .int .i64 ie, .slice j0 i3 j4, .int .u64 ob, .int .i64 fl, .int .i64 jx, .int .u64 kw, .int .i64 od, .int .i64 nu, .int .i64 k3, .slice gm g3 ir, .int .u64 o1, .int .i64 oo, .slice qh q9 qf, .int .u64 pb]) ∧
 cellsAt oi om [.int .i64 bi, .int .i64 a3, .int .i64 ak, .int .u64 ar, .int .i64 bc, .int .i64 bm, .int .i64 ai, .slice ah a4 a9, .int .u64 bg, .int .i64 a0, .int .i64 a8, .int .u64 au, .int .i64 be, .int .i64 bo, .int .i64 am, .slice ae a7 an, .int .u64 b8, .int .i64 cm, .slice eo ek dz, .int .u64 co] 0 ∧
 cellsAt oi ce [.int .i64 bd, .int .i64 a2, .int .i64 aj, .int .u64 aq, .int .i64 bl, .int .i64 bb, .int .i64 ad, .slice ac ab al, .int .u64 bk, .int .i64 a1, .int .i64 a5, .int .u64 av, .int .i64 bn, .int .i64 b9, .int .i64 ag, .slice af aa a6, .int .u64 ba, .int .i64 ck, .slice eh fi dt, .int .u64 cs] 0 ∧
 cellsAt oi om [.int .i64 fa, .int .i64 bh, .int .i64 c6, .int .u64 cu, .int .i64 dl, .int .i64 dv, .int .i64 c8, .slice cd bw c4, .int .u64 ff, .int .i64 b7, .int .i64 c2, .int .u64 cv, .int .i64 dy, .int .i64 f6, .int .i64 cc, .slice bx c7 bz, .int .u64 fu, .int .i64 k8, .slice m4 m2 m1, .int .u64 k5] 0 ∧
 Calls Try.prog 10 #[.agg #[.int .i64 fa, .int .i64 bh, .int .i64 c6, .int .u64 cu, .int .i64 dl, .int .i64 dv, .int .i64 c8, .slice cd bw c4, .int .u64 ff, .int .i64 b7, .int .i64 c2, .int .u64 cv, .int .i64 dy, .int .i64 f6, .int .i64 cc, .slice bx c7 bz, .int .u64 fu, .int .i64 k8, .slice m4 m2 m1, .int .u64 k5]] oi fun qu p6 => ∃ (n0 eu g4 kd n2 oc g5 : Int) (i8 : Option Addr) (gu iz : Nat) (ny f9 gz lq o4 nj g1 : Int) (j3 : Option Addr) (ik iq : Nat) (nm pa : Int) (pq : Option Addr) (q5 px : Nat) (p8 : Int), qu = .returned (.agg #[.int .i64 n0, .int .i64 eu, .int .i64 g4, .int .u64 kd, .int .i64 n2, .int .i64 oc, .int .i64 g5, .slice i8 gu iz, .int .u64 ny, .int .i64 f9, .int .i64 gz, .int .u64 lq, .int .i64 o4, .int .i64 nj, .int .i64 g1, .slice j3 ik iq, .int .u64 nm, .int .i64 pa, .slice pq q5 px, .int .u64 p8]) ∧
 cellsAt p6 om [.int .i64 bi, .int .i64 a3, .int .i64 ak, .int .u64 ar, .int .i64 bc, .int .i64 bm, .int .i64 ai, .slice ah a4 a9, .int .u64 bg, .int .i64 a0, .int .i64 a8, .int .u64 au, .int .i64 be, .int .i64 bo, .int .i64 am, .slice ae a7 an, .int .u64 b8, .int .i64 cm, .slice eo ek dz, .int .u64 co] 0 ∧
 cellsAt p6 ce [.int .i64 bd, .int .i64 a2, .int .i64 aj, .int .u64 aq, .int .i64 bl, .int .i64 bb, .int .i64 ad, .slice ac ab al, .int .u64 bk, .int .i64 a1, .int .i64 a5, .int .u64 av, .int .i64 bn, .int .i64 b9, .int .i64 ag, .slice af aa a6, .int .u64 ba, .int .i64 ck, .slice eh fi dt, .int .u64 cs] 0 ∧
 Calls Try.prog 12 #[.agg #[.int .i64 ng, .int .i64 ef, .int .i64 jt, .int .u64 lv, .int .i64 o6, .int .i64 ns, .int .i64 ie, .slice j0 i3 j4, .int .u64 ob, .int .i64 fl, .int .i64 jx, .int .u64 kw, .int .i64 od, .int .i64 nu, .int .i64 k3, .slice gm g3 ir, .int .u64 o1, .int .i64 oo, .slice qh q9 qf, .int .u64 pb], .agg #[.int .i64 n0, .int .i64 eu, .int .i64 g4, .int .u64 kd, .int .i64 n2, .int .i64 oc, .int .i64 g5, .slice i8 gu iz, .int .u64 ny, .int .i64 f9, .int .i64 gz, .int .u64 lq, .int .i64 o4, .int .i64 nj, .int .i64 g1, .slice j3 ik iq, .int .u64 nm, .int .i64 pa, .slice pq q5 px, .int .u64 p8]] p6 fun s9 ow => ∃ (mx : Bool), s9 = .returned (.bool mx) ∧
 cellsAt ow om [.int .i64 bi, .int .i64 a3, .int .i64 ak, .int .u64 ar, .int .i64 bc, .int .i64 bm, .int .i64 ai, .slice ah a4 a9, .int .u64 bg, .int .i64 a0, .int .i64 a8, .int .u64 au, .int .i64 be, .int .i64 bo, .int .i64 am, .slice ae a7 an, .int .u64 b8, .int .i64 cm, .slice eo ek dz, .int .u64 co] 0 ∧
 cellsAt ow ce [.int .i64 bd, .int .i64 a2, .int .i64 aj, .int .u64 aq, .int .i64 bl, .int .i64 bb, .int .i64 ad, .slice ac ab al, .int .u64 bk, .int .i64 a1, .int .i64 a5, .int .u64 av, .int .i64 bn, .int .i64 b9, .int .i64 ag, .slice af aa a6, .int .u64 ba, .int .i64 ck, .slice eh fi dt, .int .u64 cs] 0 ∧
 Calls Try.prog 14 #[.agg #[.int .i64 bd, .int .i64 a2, .int .i64 aj, .int .u64 aq, .int .i64 bl, .int .i64 bb, .int .i64 ad, .slice ac ab al, .int .u64 bk, .int .i64 a1, .int .i64 a5, .int .u64 av, .int .i64 bn, .int .i64 b9, .int .i64 ag, .slice af aa a6, .int .u64 ba, .int .i64 ck, .slice eh fi dt, .int .u64 cs], .agg #[.int .i64 bi, .int .i64 a3, .int .i64 ak, .int .u64 ar, .int .i64 bc, .int .i64 bm, .int .i64 ai, .slice ah a4 a9, .int .u64 bg, .int .i64 a0, .int .i64 a8, .int .u64 au, .int .i64 be, .int .i64 bo, .int .i64 am, .slice ae a7 an, .int .u64 b8, .int .i64 cm, .slice eo ek dz, .int .u64 co]] ow fun qs mc => ∃ (n3 : Bool), qs = .returned (.bool n3) ∧
 bif mx == n3 then (
 ∃ (fr im kh n9 m9 jl : Int) (jf : Option Addr) (k1 i4 : Nat) (mp : Int), cellsAt mc (ce.add 1) [.int .i64 fr, .int .i64 im, .int .u64 kh, .int .i64 n9, .int .i64 m9, .int .i64 jl, .slice jf k1 i4, .int .u64 mp] 0 ∧
 ∃ (b6 br cj da db bp : Int) (bu : Option Addr) (bs bt : Nat) (d9 : Int), cellsAt mc (ce.add 1) [.int .i64 b6, .int .i64 br, .int .u64 cj, .int .i64 da, .int .i64 db, .int .i64 bp, .slice bu bs bt, .int .u64 d9] 0 ∧
 Calls Try.prog 20 #[.agg #[.int .i64 fr, .int .i64 im, .int .u64 kh, .int .i64 n9, .int .i64 m9, .int .i64 jl, .slice jf k1 i4, .int .u64 mp]] mc fun qx pu => ∃ (me fj ju km o9 o7 j1 : Int) (fy : Option Addr) (ge jw : Nat) (nt f5 gv ko mz nw jr : Int) (gk : Option Addr) (gy gb : Nat) (mr ov : Int) (q6 : Option Addr) (qm qp : Nat) (p0 : Int), qx = .returned (.agg #[.int .i64 me, .int .i64 fj, .int .i64 ju, .int .u64 km, .int .i64 o9, .int .i64 o7, .int .i64 j1, .slice fy ge jw, .int .u64 nt, .int .i64 f5, .int .i64 gv, .int .u64 ko, .int .i64 mz, .int .i64 nw, .int .i64 jr, .slice gk gy gb, .int .u64 mr, .int .i64 ov, .slice q6 qm qp, .int .u64 p0]) ∧
 cellsAt pu (ce.add 1) [.int .i64 b6, .int .i64 br, .int .u64 cj, .int .i64 da, .int .i64 db, .int .i64 bp, .slice bu bs bt, .int .u64 d9] 0 ∧
 Calls Try.prog 15 #[.agg #[.int .i64 me, .int .i64 fj, .int .i64 ju, .int .u64 km, .int .i64 o9, .int .i64 o7, .int .i64 j1, .slice fy ge jw, .int .u64 nt, .int .i64 f5, .int .i64 gv, .int .u64 ko, .int .i64 mz, .int .i64 nw, .int .i64 jr, .slice gk gy gb, .int .u64 mr, .int .i64 ov, .slice q6 qm qp, .int .u64 p0]] pu fun sa q4 => ∃ (md f1 io kp nd ne gn : Int) (jv : Option Addr) (jc jz : Nat) (o2 f4 jd le n4 mn it : Int) (j5 : Option Addr) (jb iu : Nat) (nv pm : Int) (q3 : Option Addr) (q2 pt : Nat) (pf : Int), sa = .returned (.agg #[.int .i64 md, .int .i64 f1, .int .i64 io, .int .u64 kp, .int .i64 nd, .int .i64 ne, .int .i64 gn, .slice jv jc jz, .int .u64 o2, .int .i64 f4, .int .i64 jd, .int .u64 le, .int .i64 n4, .int .i64 mn, .int .i64 it, .slice j5 jb iu, .int .u64 nv, .int .i64 pm, .slice q3 q2 pt, .int .u64 pf]) ∧
 cellsAt q4 (ce.add 1) [.int .i64 b6, .int .i64 br, .int .u64 cj, .int .i64 da, .int .i64 db, .int .i64 bp, .slice bu bs bt, .int .u64 d9] 0 ∧
 Calls Try.prog 14 #[.agg #[.int .i64 md, .int .i64 f1, .int .i64 io, .int .u64 kp, .int .i64 nd, .int .i64 ne, .int .i64 gn, .slice jv jc jz, .int .u64 o2, .int .i64 f4, .int .i64 jd, .int .u64 le, .int .i64 n4, .int .i64 mn, .int .i64 it, .slice j5 jb iu, .int .u64 nv, .int .i64 pm, .slice q3 q2 pt, .int .u64 pf], .agg #[.int .i64 1, .int .i64 b6, .int .i64 br, .int .u64 cj, .int .i64 da, .int .i64 db, .int .i64 bp, .slice bu bs bt, .int .u64 d9, .int .i64 0, .int .i64 0, .int .u64 0, .int .i64 0, .int .i64 0, .int .i64 0, .slice none 0 0, .int .u64 0, .int .i64 0, .slice none 0 0, .int .u64 0]] q4 fun qq qb => ∃ (nr : Bool), qq = .returned (.bool nr) ∧
 bif nr then (
 Calls Try.prog 8 #[] qb fun sd s4 => ∃ (lo : Bool), sd = .returned (.bool lo) ∧
 R (.bool lo) s4) else (
 R (.bool false) qb)) else (
 R (.bool false) mc)) else (
 R (.bool false) ep)) else (
 R (.bool false) ep)) else (
 R (.bool false) kk)) else (
 R (.bool false) kk)) else (
 R (.bool false) qa)

def Q09.M (d0 bv c7 ce ct cz bx : Int) (c0 : Option Addr) (c6 c2 : Nat) (cw av bl c5 cc ca bq : Int) (bo : Option Addr) (bt bk : Nat) (cb cs : Int) (d6 : Option Addr) (d7 d3 : Nat) (cy c9 au bm c1 cj cg bs : Int) (br : Option Addr) (bg bj : Nat) (cd aw bu bw ci ch bp : Int) (bh : Option Addr) (bn bi : Nat) (cf cv : Int) (d4 : Option Addr) (d2 d8 : Nat) (cu : Int) (df : Option Addr) (d5 d9 : Nat) (R : RW) (w : World) : Prop :=
 thenW (w.alloc (.cells #[.int .i64 d0, .int .i64 bv, .int .i64 c7, .int .u64 ce, .int .i64 ct, .int .i64 cz, .int .i64 bx, .slice c0 c6 c2, .int .u64 cw, .int .i64 av, .int .i64 bl, .int .u64 c5, .int .i64 cc, .int .i64 ca, .int .i64 bq, .slice bo bt bk, .int .u64 cb, .int .i64 cs, .slice d6 d7 d3, .int .u64 cy] 30)) fun cq =>
 thenW (cq.alloc (.cells #[.int .i64 c9, .int .i64 au, .int .i64 bm, .int .u64 c1, .int .i64 cj, .int .i64 cg, .int .i64 bs, .slice br bg bj, .int .u64 cd, .int .i64 aw, .int .i64 bu, .int .u64 bw, .int .i64 ci, .int .i64 ch, .int .i64 bp, .slice bh bn bi, .int .u64 cf, .int .i64 cv, .slice d4 d2 d8, .int .u64 cu] 30)) fun d1 =>
 ∃ (bd a3 a8 aq bc ay an : Int) (ae : Option Addr) (a5 a4 : Nat) (b5 a1 ac ar b1 b2 aj : Int) (af : Option Addr) (ah al : Nat) (az bz : Int) (cp : Option Addr) (cl cn : Nat) (c4 : Int), cellsAt d1 (blk w.heap.size) [.int .i64 bd, .int .i64 a3, .int .i64 a8, .int .u64 aq, .int .i64 bc, .int .i64 ay, .int .i64 an, .slice ae a5 a4, .int .u64 b5, .int .i64 a1, .int .i64 ac, .int .u64 ar, .int .i64 b1, .int .i64 b2, .int .i64 aj, .slice af ah al, .int .u64 az, .int .i64 bz, .slice cp cl cn, .int .u64 c4] 0 ∧
 Calls Try.prog 7 #[.agg #[.int .i64 bd, .int .i64 a3, .int .i64 a8, .int .u64 aq, .int .i64 bc, .int .i64 ay, .int .i64 an, .slice ae a5 a4, .int .u64 b5, .int .i64 a1, .int .i64 ac, .int .u64 ar, .int .i64 b1, .int .i64 b2, .int .i64 aj, .slice af ah al, .int .u64 az, .int .i64 bz, .slice cp cl cn, .int .u64 c4]] d1 fun db cr => ∃ (b0 : Bool), db = .returned (.bool b0) ∧
 bif !b0 then (
 Calls Try.prog 8 #[] cr fun dc dg => ∃ (b6 : Bool), dc = .returned (.bool b6) ∧
 R (.bool b6) dg) else (
 ∃ (b3 a0 ag ao b8 b4 ak : Int) (am : Option Addr) (ab ad : Nat) (b9 a2 a6 ap b7 bf a7 : Int) (aa : Option Addr) (ai a9 : Nat) (be c3 : Int) (ck : Option Addr) (co cm : Nat) (c8 : Int), cellsAt cr (blk cq.heap.size) [.int .i64 b3, .int .i64 a0, .int .i64 ag, .int .u64 ao, .int .i64 b8, .int .i64 b4, .int .i64 ak, .slice am ab ad, .int .u64 b9, .int .i64 a2, .int .i64 a6, .int .u64 ap, .int .i64 b7, .int .i64 bf, .int .i64 a7, .slice aa ai a9, .int .u64 be, .int .i64 c3, .slice ck co cm, .int .u64 c8] 0 ∧
 Calls Try.prog 7 #[.agg #[.int .i64 b3, .int .i64 a0, .int .i64 ag, .int .u64 ao, .int .i64 b8, .int .i64 b4, .int .i64 ak, .slice am ab ad, .int .u64 b9, .int .i64 a2, .int .i64 a6, .int .u64 ap, .int .i64 b7, .int .i64 bf, .int .i64 a7, .slice aa ai a9, .int .u64 be, .int .i64 c3, .slice ck co cm, .int .u64 c8]] cr fun dd cx => ∃ (ba : Bool), dd = .returned (.bool ba) ∧
 bif !ba then (
 Calls Try.prog 8 #[] cx fun da dh => ∃ (bb : Bool), da = .returned (.bool bb) ∧
 R (.bool bb) dh) else (
 bif decide ((d5 : Int) > 4100) then (
 Calls Try.prog 8 #[] cx fun di de => ∃ (ax : Bool), di = .returned (.bool ax) ∧
 R (.bool ax) de) else (
 Q09.J1 (blk cq.heap.size) (blk w.heap.size) df d5 d9 R cx)))

theorem Q09.ok (ba ai ap ar b5 b7 ao : Int) (aq : Option Addr) (al an : Nat) (b9 a2 ag am b3 av af : Int) (a7 : Option Addr) (ac a9 : Nat) (az b4 : Int) (bc : Option Addr) (bd bh : Nat) (b6 au a1 a4 aj b2 ay a5 : Int) (ah : Option Addr) (a3 a8 : Nat) (b1 a0 ae ak aw b0 aa : Int) (ab : Option Addr) (a6 ad : Nat) (ax b8 : Int) (bg : Option Addr) (be bf : Nat) (bb : Int) (bj : Option Addr) (bi bk : Nat) {R : RW} {w : World} (h : Q09.M ba ai ap ar b5 b7 ao aq al an b9 a2 ag am b3 av af a7 ac a9 az b4 bc bd bh b6 au a1 a4 aj b2 ay a5 ah a3 a8 b1 a0 ae ak aw b0 aa ab a6 ad ax b8 bg be bf bb bj bi bk R w) : Calls Try.prog 5 #[.agg #[.int .i64 ba, .int .i64 ai, .int .i64 ap, .int .u64 ar, .int .i64 b5, .int .i64 b7, .int .i64 ao, .slice aq al an, .int .u64 b9, .int .i64 a2, .int .i64 ag, .int .u64 am, .int .i64 b3, .int .i64 av, .int .i64 af, .slice a7 ac a9, .int .u64 az, .int .i64 b4, .slice bc bd bh, .int .u64 b6], .agg #[.int .i64 au, .int .i64 a1, .int .i64 a4, .int .u64 aj, .int .i64 b2, .int .i64 ay, .int .i64 a5, .slice ah a3 a8, .int .u64 b1, .int .i64 a0, .int .i64 ae, .int .u64 ak, .int .i64 aw, .int .i64 b0, .int .i64 aa, .slice ab a6 ad, .int .u64 ax, .int .i64 b8, .slice bg be bf, .int .u64 bb], .slice bj bi bk] w fun e w' => ∃ v, e = .returned v ∧ R v w' :=
  Q08 follows (H := []) (args := [.agg #[.int .i64 ba, .int .i64 ai, .int .i64 ap, .int .u64 ar, .int .i64 b5, .int .i64 b7, .int .i64 ao, .slice aq al an, .int .u64 b9, .int .i64 a2, .int .i64 ag, .int .u64 am, .int .i64 b3, .int .i64 av, .int .i64 af, .slice a7 ac a9, .int .u64 az, .int .i64 b4, .slice bc bd bh, .int .u64 b6], .agg #[.int .i64 au, .int .i64 a1, .int .i64 a4, .int .u64 aj, .int .i64 b2, .int .i64 ay, .int .i64 a5, .slice ah a3 a8, .int .u64 b1, .int .i64 a0, .int .i64 ae, .int .u64 ak, .int .i64 aw, .int .i64 b0, .int .i64 aa, .slice ab a6 ad, .int .u64 ax, .int .i64 b8, .slice bg be bf, .int .u64 bb], .slice bj bi bk]) (cast (by kernel_rfl) h)

def Q09.N (ao a0 a4 ac ae af a5 : Int) (a2 : Option Addr) (a3 a6 : Nat) (aj a1 a8 ad ai ag aa : Int) (a9 : Option Addr) (ab a7 : Nat) (ah ak : Int) (b4 : Option Addr) (b6 b2 : Nat) (an ee al az bc e5 e7 av : Int) (aq : Option Addr) (aw ay : Nat) (eb am b0 b9 e3 e8 ar : Int) (ax : Option Addr) (au ap : Nat) (e6 fj : Int) (ji : Option Addr) (iu it : Nat) (fi : Int) (l4 : Option Addr) (jo kv : Nat) (R : RW) (w : World) : Prop :=
 ∀ (jm : World) (cs er : Nat), Ext no w jm → Priv w jm [cs, er] →
 Calls Try.prog 7 #[.agg #[.int .i64 ao, .int .i64 a0, .int .i64 a4, .int .u64 ac, .int .i64 ae, .int .i64 af, .int .i64 a5, .slice a2 a3 a6, .int .u64 aj, .int .i64 a1, .int .i64 a8, .int .u64 ad, .int .i64 ai, .int .i64 ag, .int .i64 aa, .slice a9 ab a7, .int .u64 ah, .int .i64 ak, .slice b4 b6 b2, .int .u64 an]] jm fun l7 jn => ∃ (e2 : Bool), l7 = .returned (.bool e2) ∧
 Keep [cs, er] jm jn ∧
 (e2 = false →
 Calls Try.prog 8 #[] jn fun l6 lb => ∃ (i9 : Bool), l6 = .returned (.bool i9) ∧
 R (.bool i9) lb) ∧
 (e2 = true →
 Calls Try.prog 7 #[.agg #[.int .i64 ee, .int .i64 al, .int .i64 az, .int .u64 bc, .int .i64 e5, .int .i64 e7, .int .i64 av, .slice aq aw ay, .int .u64 eb, .int .i64 am, .int .i64 b0, .int .u64 b9, .int .i64 e3, .int .i64 e8, .int .i64 ar, .slice ax au ap, .int .u64 e6, .int .i64 fj, .slice ji iu it, .int .u64 fi]] jn fun lf jg => ∃ (ef : Bool), lf = .returned (.bool ef) ∧
 Keep [cs, er] jn jg ∧
 (ef = false →
 Calls Try.prog 8 #[] jg fun ld lg => ∃ (g0 : Bool), ld = .returned (.bool g0) ∧
 R (.bool g0) lg) ∧
 (ef = true →
 ((jo : Int) > 4100 →
 Calls Try.prog 8 #[] jg fun la l9 => ∃ (fq : Bool), la = .returned (.bool fq) ∧
 R (.bool fq) l9) ∧
 ((jo : Int) ≤ 4100 →
 Calls Try.prog 10 #[.agg #[.int .i64 ao, .int .i64 a0, .int .i64 a4, .int .u64 ac, .int .i64 ae, .int .i64 af, .int .i64 a5, .slice a2 a3 a6, .int .u64 aj, .int .i64 a1, .int .i64 a8, .int .u64 ad, .int .i64 ai, .int .i64 ag, .int .i64 aa, .slice a9 ab a7, .int .u64 ah, .int .i64 ak, .slice b4 b6 b2, .int .u64 an]] jg fun l8 ki => ∃ (j0 dl f1 gm jl jk ey : Int) (fd : Option Addr) (ev ff : Nat) (jc c3 eq gw ja iy ez : Int) (f0 : Option Addr) (fb fe : Nat) (j5 k7 : Int) (kk : Option Addr) (kx kp : Nat) (jp : Int), l8 = .returned (.agg #[.int .i64 j0, .int .i64 dl, .int .i64 f1, .int .u64 gm, .int .i64 jl, .int .i64 jk, .int .i64 ey, .slice fd ev ff, .int .u64 jc, .int .i64 c3, .int .i64 eq, .int .u64 gw, .int .i64 ja, .int .i64 iy, .int .i64 ez, .slice f0 fb fe, .int .u64 j5, .int .i64 k7, .slice kk kx kp, .int .u64 jp]) ∧
 Keep [cs, er] jg ki ∧
 Calls Try.prog 9 #[.agg #[.int .i64 j0, .int .i64 dl, .int .i64 f1, .int .u64 gm, .int .i64 jl, .int .i64 jk, .int .i64 ey, .slice fd ev ff, .int .u64 jc, .int .i64 c3, .int .i64 eq, .int .u64 gw, .int .i64 ja, .int .i64 iy, .int .i64 ez, .slice f0 fb fe, .int .u64 j5, .int .i64 k7, .slice kk kx kp, .int .u64 jp]] ki fun lc kj => ∃ (fh : Option Addr) (ep f6 : Nat) (e1 : Int), lc = .returned (.tuple #[.slice fh ep f6, .int .i64 e1]) ∧
 Keep [cs, er] ki kj ∧
 Calls Try.prog 17 #[.agg #[.int .i64 ao, .int .i64 a0, .int .i64 a4, .int .u64 ac, .int .i64 ae, .int .i64 af, .int .i64 a5, .slice a2 a3 a6, .int .u64 aj, .int .i64 a1, .int .i64 a8, .int .u64 ad, .int .i64 ai, .int .i64 ag, .int .i64 aa, .slice a9 ab a7, .int .u64 ah, .int .i64 ak, .slice b4 b6 b2, .int .u64 an]] kj fun le kh => ∃ (ei : Option Addr) (fc f7 : Nat) (e4 : Int), le = .returned (.tuple #[.slice ei fc f7, .int .i64 e4]) ∧
 Keep [cs, er] kj kh ∧
 Calls Try.prog 13 #[.slice l4 jo kv] kh fun ky j4 => ∃ (iw ci f2 fk jj j3 bz : Int) (cg : Option Addr) (cj d9 : Nat) (gt bh cn f3 g8 ge c6 : Int) (cx : Option Addr) (d0 cz : Nat) (i3 ik : Int) (kf : Option Addr) (k9 kc : Nat) (j8 eg : Int), ky = .returned (.tuple #[.agg #[.int .i64 iw, .int .i64 ci, .int .i64 f2, .int .u64 fk, .int .i64 jj, .int .i64 j3, .int .i64 bz, .slice cg cj d9, .int .u64 gt, .int .i64 bh, .int .i64 cn, .int .u64 f3, .int .i64 g8, .int .i64 ge, .int .i64 c6, .slice cx d0 cz, .int .u64 i3, .int .i64 ik, .slice kf k9 kc, .int .u64 j8], .int .i64 eg]) ∧
 Keep [cs, er] kh j4 ∧
 ∀ (i6 : World) (ie : Nat), Ext no j4 i6 → Priv j4 i6 [ie] →
 Calls Try.prog 18 #[.slice l4 jo kv] i6 fun ku ix => ∃ (fx bg co ek i8 ib cc : Int) (dq : Option Addr) (cv d5 : Nat) (fv ba dt ew gs fw db : Int) (c4 : Option Addr) (c0 bu : Nat) (gn iq : Int) (jv : Option Addr) (k8 jq : Nat) (ih ec : Int), ku = .returned (.tuple #[.agg #[.int .i64 fx, .int .i64 bg, .int .i64 co, .int .u64 ek, .int .i64 i8, .int .i64 ib, .int .i64 cc, .slice dq cv d5, .int .u64 fv, .int .i64 ba, .int .i64 dt, .int .u64 ew, .int .i64 gs, .int .i64 fw, .int .i64 db, .slice c4 c0 bu, .int .u64 gn, .int .i64 iq, .slice jv k8 jq, .int .u64 ih], .int .i64 ec]) ∧
 Keep [cs, er, ie] i6 ix ∧
 ∀ (g3 : World) (ig : Nat), Ext no ix g3 → Priv ix g3 [ig] →
 Calls Try.prog 10 #[.agg #[.int .i64 ao, .int .i64 a0, .int .i64 a4, .int .u64 ac, .int .i64 ae, .int .i64 af, .int .i64 a5, .slice a2 a3 a6, .int .u64 aj, .int .i64 a1, .int .i64 a8, .int .u64 ad, .int .i64 ai, .int .i64 ag, .int .i64 aa, .slice a9 ab a7, .int .u64 ah, .int .i64 ak, .slice b4 b6 b2, .int .u64 an]] g3 fun l5 jh => ∃ (fu bl du en fl ic ds : Int) (cq : Option Addr) (dn cb : Nat) (i2 bk d7 fa gu gz ca : Int) (c2 : Option Addr) (cf d8 : Nat) (i1 ir : Int) (jy : Option Addr) (k3 kg : Nat) (im : Int), l5 = .returned (.agg #[.int .i64 fu, .int .i64 bl, .int .i64 du, .int .u64 en, .int .i64 fl, .int .i64 ic, .int .i64 ds, .slice cq dn cb, .int .u64 i2, .int .i64 bk, .int .i64 d7, .int .u64 fa, .int .i64 gu, .int .i64 gz, .int .i64 ca, .slice c2 cf d8, .int .u64 i1, .int .i64 ir, .slice jy k3 kg, .int .u64 im]) ∧
 Keep [cs, er, ie, ig] g3 jh ∧
 Calls Try.prog 16 #[.agg #[.int .i64 fu, .int .i64 bl, .int .i64 du, .int .u64 en, .int .i64 fl, .int .i64 ic, .int .i64 ds, .slice cq dn cb, .int .u64 i2, .int .i64 bk, .int .i64 d7, .int .u64 fa, .int .i64 gu, .int .i64 gz, .int .i64 ca, .slice c2 cf d8, .int .u64 i1, .int .i64 ir, .slice jy k3 kg, .int .u64 im]] jh fun km je => ∃ (b5 : Bool), km = .returned (.bool b5) ∧
 Keep [cs, er, ie, ig] jh je ∧
 Calls Try.prog 19 #[.agg #[.int .i64 ao, .int .i64 a0, .int .i64 a4, .int .u64 ac, .int .i64 ae, .int .i64 af, .int .i64 a5, .slice a2 a3 a6, .int .u64 aj, .int .i64 a1, .int .i64 a8, .int .u64 ad, .int .i64 ai, .int .i64 ag, .int .i64 aa, .slice a9 ab a7, .int .u64 ah, .int .i64 ak, .slice b4 b6 b2, .int .u64 an]] je fun l0 gh => ∃ (bm : Bool), l0 = .returned (.bool bm) ∧
 Keep [cs, er, ie, ig] je gh ∧
 (b5 = bm →
 Calls Try.prog 11 #[.slice fh ep f6, .slice ei fc f7] gh fun l2 eo => ∃ (ed : Bool), l2 = .returned (.bool ed) ∧
 Keep [cs, er, ie, ig] gh eo ∧
 (ed = true →
 (e1 = e4 →
 Calls Try.prog 15 #[.agg #[.int .i64 iw, .int .i64 ci, .int .i64 f2, .int .u64 fk, .int .i64 jj, .int .i64 j3, .int .i64 bz, .slice cg cj d9, .int .u64 gt, .int .i64 bh, .int .i64 cn, .int .u64 f3, .int .i64 g8, .int .i64 ge, .int .i64 c6, .slice cx d0 cz, .int .u64 i3, .int .i64 ik, .slice kf k9 kc, .int .u64 j8]] eo fun kz jb => ∃ (ft bj bv f9 g7 gp bq : Int) (cw : Option Addr) (d1 dj : Nat) (fp bb dv em fr g4 cl : Int) (dk : Option Addr) (ch d6 : Nat) (gx io : Int) (ka : Option Addr) (k2 k6 : Nat) (ip : Int), kz = .returned (.agg #[.int .i64 ft, .int .i64 bj, .int .i64 bv, .int .u64 f9, .int .i64 g7, .int .i64 gp, .int .i64 bq, .slice cw d1 dj, .int .u64 fp, .int .i64 bb, .int .i64 dv, .int .u64 em, .int .i64 fr, .int .i64 g4, .int .i64 cl, .slice dk ch d6, .int .u64 gx, .int .i64 io, .slice ka k2 k6, .int .u64 ip]) ∧
 Keep [cs, er, ig] eo jb ∧
 Calls Try.prog 14 #[.agg #[.int .i64 ft, .int .i64 bj, .int .i64 bv, .int .u64 f9, .int .i64 g7, .int .i64 gp, .int .i64 bq, .slice cw d1 dj, .int .u64 fp, .int .i64 bb, .int .i64 dv, .int .u64 em, .int .i64 fr, .int .i64 g4, .int .i64 cl, .slice dk ch d6, .int .u64 gx, .int .i64 io, .slice ka k2 k6, .int .u64 ip], .agg #[.int .i64 fx, .int .i64 bg, .int .i64 co, .int .u64 ek, .int .i64 i8, .int .i64 ib, .int .i64 cc, .slice dq cv d5, .int .u64 fv, .int .i64 ba, .int .i64 dt, .int .u64 ew, .int .i64 gs, .int .i64 fw, .int .i64 db, .slice c4 c0 bu, .int .u64 gn, .int .i64 iq, .slice jv k8 jq, .int .u64 ih]] jb fun ko ej => ∃ (ea : Bool), ko = .returned (.bool ea) ∧
 Keep [cs, er] jb ej ∧
 (ea = true →
 (eg = ec →
 Calls Try.prog 10 #[.agg #[.int .i64 ao, .int .i64 a0, .int .i64 a4, .int .u64 ac, .int .i64 ae, .int .i64 af, .int .i64 a5, .slice a2 a3 a6, .int .u64 aj, .int .i64 a1, .int .i64 a8, .int .u64 ad, .int .i64 ai, .int .i64 ag, .int .i64 aa, .slice a9 ab a7, .int .u64 ah, .int .i64 ak, .slice b4 b6 b2, .int .u64 an]] ej fun ks j7 => ∃ (fm bd dw et i7 gr cp : Int) (ct : Option Addr) (bw cd : Nat) (gv be c1 f5 gb g9 d4 : Int) (dh : Option Addr) (ck dm : Nat) (g5 j2 : Int) (k4 : Option Addr) (k0 kd : Nat) (il : Int), ks = .returned (.agg #[.int .i64 fm, .int .i64 bd, .int .i64 dw, .int .u64 et, .int .i64 i7, .int .i64 gr, .int .i64 cp, .slice ct bw cd, .int .u64 gv, .int .i64 be, .int .i64 c1, .int .u64 f5, .int .i64 gb, .int .i64 g9, .int .i64 d4, .slice dh ck dm, .int .u64 g5, .int .i64 j2, .slice k4 k0 kd, .int .u64 il]) ∧
 Keep [cs, er] ej j7 ∧
 Calls Try.prog 10 #[.agg #[.int .i64 ee, .int .i64 al, .int .i64 az, .int .u64 bc, .int .i64 e5, .int .i64 e7, .int .i64 av, .slice aq aw ay, .int .u64 eb, .int .i64 am, .int .i64 b0, .int .u64 b9, .int .i64 e3, .int .i64 e8, .int .i64 ar, .slice ax au ap, .int .u64 e6, .int .i64 fj, .slice ji iu it, .int .u64 fi]] j7 fun kr j6 => ∃ (gg bf dr f8 i0 gd bx : Int) (de : Option Addr) (bt c5 : Nat) (ga b1 di ex gk g1 c7 : Int) (dg : Option Addr) (cm dy : Nat) (gq ij : Int) (js : Option Addr) (jz k5 : Nat) (jf : Int), kr = .returned (.agg #[.int .i64 gg, .int .i64 bf, .int .i64 dr, .int .u64 f8, .int .i64 i0, .int .i64 gd, .int .i64 bx, .slice de bt c5, .int .u64 ga, .int .i64 b1, .int .i64 di, .int .u64 ex, .int .i64 gk, .int .i64 g1, .int .i64 c7, .slice dg cm dy, .int .u64 gq, .int .i64 ij, .slice js jz k5, .int .u64 jf]) ∧
 Keep [cs, er] j7 j6 ∧
 Calls Try.prog 12 #[.agg #[.int .i64 fm, .int .i64 bd, .int .i64 dw, .int .u64 et, .int .i64 i7, .int .i64 gr, .int .i64 cp, .slice ct bw cd, .int .u64 gv, .int .i64 be, .int .i64 c1, .int .u64 f5, .int .i64 gb, .int .i64 g9, .int .i64 d4, .slice dh ck dm, .int .u64 g5, .int .i64 j2, .slice k4 k0 kd, .int .u64 il], .agg #[.int .i64 gg, .int .i64 bf, .int .i64 dr, .int .u64 f8, .int .i64 i0, .int .i64 gd, .int .i64 bx, .slice de bt c5, .int .u64 ga, .int .i64 b1, .int .i64 di, .int .u64 ex, .int .i64 gk, .int .i64 g1, .int .i64 c7, .slice dg cm dy, .int .u64 gq, .int .i64 ij, .slice js jz k5, .int .u64 jf]] j6 fun kl jd => ∃ (eh : Bool), kl = .returned (.bool eh) ∧
 Keep [cs, er] j6 jd ∧
 Calls Try.prog 14 #[.agg #[.int .i64 ao, .int .i64 a0, .int .i64 a4, .int .u64 ac, .int .i64 ae, .int .i64 af, .int .i64 a5, .slice a2 a3 a6, .int .u64 aj, .int .i64 a1, .int .i64 a8, .int .u64 ad, .int .i64 ai, .int .i64 ag, .int .i64 aa, .slice a9 ab a7, .int .u64 ah, .int .i64 ak, .slice b4 b6 b2, .int .u64 an], .agg #[.int .i64 ee, .int .i64 al, .int .i64 az, .int .u64 bc, .int .i64 e5, .int .i64 e7, .int .i64 av, .slice aq aw ay, .int .u64 eb, .int .i64 am, .int .i64 b0, .int .u64 b9, .int .i64 e3, .int .i64 e8, .int .i64 ar, .slice ax au ap, .int .u64 e6, .int .i64 fj, .slice ji iu it, .int .u64 fi]] jd fun kw gl => ∃ (e9 : Bool), kw = .returned (.bool e9) ∧
 Keep [cs] jd gl ∧
 (eh = e9 →
 Calls Try.prog 20 #[.agg #[.int .i64 a0, .int .i64 a4, .int .u64 ac, .int .i64 ae, .int .i64 af, .int .i64 a5, .slice a2 a3 a6, .int .u64 aj]] gl fun kq j9 => ∃ (fo bi df fg gj i5 dx : Int) (bn : Option Addr) (bp dz : Nat) (g2 b8 dd eu fy i4 da : Int) (ce : Option Addr) (cy dc : Nat) (gi j1 : Int) (jt : Option Addr) (ju jx : Nat) (ii : Int), kq = .returned (.agg #[.int .i64 fo, .int .i64 bi, .int .i64 df, .int .u64 fg, .int .i64 gj, .int .i64 i5, .int .i64 dx, .slice bn bp dz, .int .u64 g2, .int .i64 b8, .int .i64 dd, .int .u64 eu, .int .i64 fy, .int .i64 i4, .int .i64 da, .slice ce cy dc, .int .u64 gi, .int .i64 j1, .slice jt ju jx, .int .u64 ii]) ∧
 Keep [cs] gl j9 ∧
 Calls Try.prog 15 #[.agg #[.int .i64 fo, .int .i64 bi, .int .i64 df, .int .u64 fg, .int .i64 gj, .int .i64 i5, .int .i64 dx, .slice bn bp dz, .int .u64 g2, .int .i64 b8, .int .i64 dd, .int .u64 eu, .int .i64 fy, .int .i64 i4, .int .i64 da, .slice ce cy dc, .int .u64 gi, .int .i64 j1, .slice jt ju jx, .int .u64 ii]] j9 fun kn jr => ∃ (ia b3 dp el g6 gc br : Int) (cr : Option Addr) (cu d2 : Nat) (fz b7 bs f4 gy gf d3 : Int) (bo : Option Addr) (c8 c9 : Nat) (fs iz : Int) (jw : Option Addr) (kb k1 : Nat) (iv : Int), kn = .returned (.agg #[.int .i64 ia, .int .i64 b3, .int .i64 dp, .int .u64 el, .int .i64 g6, .int .i64 gc, .int .i64 br, .slice cr cu d2, .int .u64 fz, .int .i64 b7, .int .i64 bs, .int .u64 f4, .int .i64 gy, .int .i64 gf, .int .i64 d3, .slice bo c8 c9, .int .u64 fs, .int .i64 iz, .slice jw kb k1, .int .u64 iv]) ∧
 Keep [cs] j9 jr ∧
 Calls Try.prog 14 #[.agg #[.int .i64 ia, .int .i64 b3, .int .i64 dp, .int .u64 el, .int .i64 g6, .int .i64 gc, .int .i64 br, .slice cr cu d2, .int .u64 fz, .int .i64 b7, .int .i64 bs, .int .u64 f4, .int .i64 gy, .int .i64 gf, .int .i64 d3, .slice bo c8 c9, .int .u64 fs, .int .i64 iz, .slice jw kb k1, .int .u64 iv], .agg #[.int .i64 1, .int .i64 a0, .int .i64 a4, .int .u64 ac, .int .i64 ae, .int .i64 af, .int .i64 a5, .slice a2 a3 a6, .int .u64 aj, .int .i64 0, .int .i64 0, .int .u64 0, .int .i64 0, .int .i64 0, .int .i64 0, .slice none 0 0, .int .u64 0, .int .i64 0, .slice none 0 0, .int .u64 0]] jr fun kt ke => ∃ (e0 : Bool), kt = .returned (.bool e0) ∧
 (e0 = true →
 Calls Try.prog 8 #[] ke fun l1 l3 => ∃ (es : Bool), l1 = .returned (.bool es) ∧
 R (.bool es) l3) ∧
 (e0 = false →
 R (.bool false) ke)) ∧
 (eh ≠ e9 →
 R (.bool false) gl)) ∧
 (eg ≠ ec →
 R (.bool false) ej)) ∧
 (ea = false →
 R (.bool false) ej)) ∧
 (e1 ≠ e4 →
 R (.bool false) eo)) ∧
 (ed = false →
 R (.bool false) eo)) ∧
 (b5 ≠ bm →
 R (.bool false) gh))))

theorem Q09.up (b4 a2 a6 ae ak al a7 : Int) (a4 : Option Addr) (a5 a8 : Nat) (ao a3 aa af aj ah ac : Int) (ab : Option Addr) (ad a9 : Nat) (ai b2 : Int) (bd : Option Addr) (be ba : Nat) (b3 bj am az b6 bc bg av : Int) (aq : Option Addr) (aw ay : Nat) (bi an b0 b5 bb bh ar : Int) (ax : Option Addr) (au ap : Nat) (bf ca : Int) (cp : Option Addr) (co cn : Nat) (c9 : Int) (ko : Option Addr) (kp ka : Nat) {R : RW} {w : World} (h : Q09.N b4 a2 a6 ae ak al a7 a4 a5 a8 ao a3 aa af aj ah ac ab ad a9 ai b2 bd be ba b3 bj am az b6 bc bg av aq aw ay bi an b0 b5 bb bh ar ax au ap bf ca cp co cn c9 ko kp ka R w) : Q09.M b4 a2 a6 ae ak al a7 a4 a5 a8 ao a3 aa af aj ah ac ab ad a9 ai b2 bd be ba b3 bj am az b6 bc bg av aq aw ay bi an b0 b5 bb bh ar ax au ap bf ca cp co cn c9 ko kp ka R w := by
  unfold Q09.M
  unfold Q09.N at h
  refine Q02 fun ks lk => ?_
  have a0 := Blk.of_new lk
  have ml := ((Ext.refl no w)).size
  have jt := (Ext.refl no w).x_alloc lk
  refine Q02 fun l0 ku => ?_
  have a1 := Blk.of_new ku
  have mh := (jt).size
  have l9 := Nat.ne_of_lt a0.lt
  have a0 := a0.x_alloc ku
  have kz := jt.x_alloc ku
  refine ⟨b4, a2, a6, ae, ak, al, a7, a4, a5, a8, ao, a3, aa, af, aj, ah, ac, ab, ad, a9, ai, b2, bd, be, ba, b3, ⟨a0.celli 0 rfl rfl, a0.celli 1 rfl rfl, a0.celli 2 rfl rfl, a0.celli 3 rfl rfl, a0.celli 4 rfl rfl, a0.celli 5 rfl rfl, a0.celli 6 rfl rfl, a0.celli 7 rfl rfl, a0.celli 8 rfl rfl, a0.celli 9 rfl rfl, a0.celli 10 rfl rfl, a0.celli 11 rfl rfl, a0.celli 12 rfl rfl, a0.celli 13 rfl rfl, a0.celli 14 rfl rfl, a0.celli 15 rfl rfl, a0.celli 16 rfl rfl, a0.celli 17 rfl rfl, a0.celli 18 rfl rfl, a0.celli 19 rfl rfl, trivial⟩, ?_⟩
  have h := h l0 (w.heap.size) (ks.heap.size) kz (Priv.cons ml a0.lt (Priv.cons mh a1.lt Priv.nil))
  refine h.mono fun m7 mc h => ?_
  obtain ⟨gf, he, hk, h⟩ := h
  refine ⟨gf, he, ?_⟩
  have a0 := hk.blk a0 (by simp)
  have a1 := hk.blk a1 (by simp)
  refine bif_of (fun kx => ?_) (fun kx => ?_)
  ·have h := h.1 (not_t kx)
   refine h.mono fun m6 md h => ?_
   obtain ⟨iw, he, h⟩ := h
   refine ⟨iw, he, ?_⟩
   exact h
  have h := h.2 (not_f kx)
  refine ⟨bj, am, az, b6, bc, bg, av, aq, aw, ay, bi, an, b0, b5, bb, bh, ar, ax, au, ap, bf, ca, cp, co, cn, c9, ⟨a1.celli 0 rfl rfl, a1.celli 1 rfl rfl, a1.celli 2 rfl rfl, a1.celli 3 rfl rfl, a1.celli 4 rfl rfl, a1.celli 5 rfl rfl, a1.celli 6 rfl rfl, a1.celli 7 rfl rfl, a1.celli 8 rfl rfl, a1.celli 9 rfl rfl, a1.celli 10 rfl rfl, a1.celli 11 rfl rfl, a1.celli 12 rfl rfl, a1.celli 13 rfl rfl, a1.celli 14 rfl rfl, a1.celli 15 rfl rfl, a1.celli 16 rfl rfl, a1.celli 17 rfl rfl, a1.celli 18 rfl rfl, a1.celli 19 rfl rfl, trivial⟩, ?_⟩
  refine h.mono fun mi mk h => ?_
  obtain ⟨io, he, hk, h⟩ := h
  refine ⟨io, he, ?_⟩
  have a0 := hk.blk a0 (by simp)
  have a1 := hk.blk a1 (by simp)
  refine bif_of (fun kt => ?_) (fun kt => ?_)
  ·have h := h.1 (not_t kt)
   refine h.mono fun mf mj h => ?_
   obtain ⟨gl, he, h⟩ := h
   refine ⟨gl, he, ?_⟩
   exact h
  have h := h.2 (not_f kt)
  refine bif_of (fun ky => ?_) (fun ky => ?_)
  ·have h := h.1 (of_decide_eq_true ky)
   refine h.mono fun mb ma h => ?_
   obtain ⟨gc, he, h⟩ := h
   refine ⟨gc, he, ?_⟩
   exact h
  have h := h.2 (Int.not_lt.1 (of_decide_eq_false ky))
  first | unfold Q09.J1 | skip
  refine ⟨b4, a2, a6, ae, ak, al, a7, a4, a5, a8, ao, a3, aa, af, aj, ah, ac, ab, ad, a9, ai, b2, bd, be, ba, b3, ⟨a0.celli 0 rfl rfl, a0.celli 1 rfl rfl, a0.celli 2 rfl rfl, a0.celli 3 rfl rfl, a0.celli 4 rfl rfl, a0.celli 5 rfl rfl, a0.celli 6 rfl rfl, a0.celli 7 rfl rfl, a0.celli 8 rfl rfl, a0.celli 9 rfl rfl, a0.celli 10 rfl rfl, a0.celli 11 rfl rfl, a0.celli 12 rfl rfl, a0.celli 13 rfl rfl, a0.celli 14 rfl rfl, a0.celli 15 rfl rfl, a0.celli 16 rfl rfl, a0.celli 17 rfl rfl, a0.celli 18 rfl rfl, a0.celli 19 rfl rfl, trivial⟩, ?_⟩
  refine h.mono fun m8 m5 h => ?_
  obtain ⟨jc, eq, fl, i5, jp, jq, fh, fy, ff, g0, jk, dn, fb, ic, jj, ja, fi, fj, fv, fz, jg, kf, kr, l2, kw, js, he, hk, h⟩ := h
  refine ⟨jc, eq, fl, i5, jp, jq, fh, fy, ff, g0, jk, dn, fb, ic, jj, ja, fi, fj, fv, fz, jg, kf, kr, l2, kw, js, he, ?_⟩
  have a0 := hk.blk a0 (by simp)
  have a1 := hk.blk a1 (by simp)
  refine h.mono fun me m9 h => ?_
  obtain ⟨g5, fa, fp, gb, he, hk, h⟩ := h
  refine ⟨g5, fa, fp, gb, he, ?_⟩
  have a0 := hk.blk a0 (by simp)
  have a1 := hk.blk a1 (by simp)
  refine ⟨b4, a2, a6, ae, ak, al, a7, a4, a5, a8, ao, a3, aa, af, aj, ah, ac, ab, ad, a9, ai, b2, bd, be, ba, b3, ⟨a0.celli 0 rfl rfl, a0.celli 1 rfl rfl, a0.celli 2 rfl rfl, a0.celli 3 rfl rfl, a0.celli 4 rfl rfl, a0.celli 5 rfl rfl, a0.celli 6 rfl rfl, a0.celli 7 rfl rfl, a0.celli 8 rfl rfl, a0.celli 9 rfl rfl, a0.celli 10 rfl rfl, a0.celli 11 rfl rfl, a0.celli 12 rfl rfl, a0.celli 13 rfl rfl, a0.celli 14 rfl rfl, a0.celli 15 rfl rfl, a0.celli 16 rfl rfl, a0.celli 17 rfl rfl, a0.celli 18 rfl rfl, a0.celli 19 rfl rfl, trivial⟩, ?_⟩
  refine h.mono fun mg m4 h => ?_
  obtain ⟨f2, fx, fq, gh, he, hk, h⟩ := h
  refine ⟨f2, fx, fq, gh, he, ?_⟩
  have a0 := hk.blk a0 (by simp)
  have a1 := hk.blk a1 (by simp)
  refine h.mono fun lo da h => ?_
  obtain ⟨cz, br, c7, cb, d8, d2, bl, bq, bs, c1, cj, b9, bt, c8, cf, cg, bo, bw, bz, bx, ck, cs, g4, fw, g1, d3, iq, he, hk, h⟩ := h
  refine ⟨cz, br, c7, cb, d8, d2, bl, bq, bs, c1, cj, b9, bt, c8, cf, cg, bo, bw, bz, bx, ck, cs, g4, fw, g1, d3, iq, he, ?_⟩
  have a0 := hk.blk a0 (by simp)
  have a1 := hk.blk a1 (by simp)
  refine Q02 fun l7 iu => ?_
  have b1 := Blk.of_new iu
  have lc := ((Ext.refl no da)).size
  have kg := Nat.ne_of_lt a0.lt
  have a0 := a0.x_alloc iu
  have kj := Nat.ne_of_lt a1.lt
  have a1 := a1.x_alloc iu
  have jv := (Ext.refl no da).x_alloc iu
  refine Q0a (k := 0) (j := 0) b1 (by exact Nat.le_of_ble_eq_true rfl) fun iz ji l1 => ?_
  have kh := jv.x_puts ji (.inr lc)
  have a0 := a0.x_puts ji kg
  have a1 := a1.x_puts ji kj
  have b1 : Blk iz da.heap.size 38 [.int .i64 cz, .int .i64 br, .int .i64 c7, .int .u64 cb, .int .i64 d8, .int .i64 d2, .int .i64 bl, .slice bq bs c1, .int .u64 cj, .int .i64 b9, .int .i64 bt, .int .u64 c8, .int .i64 cf, .int .i64 cg, .int .i64 bo, .slice bw bz bx, .int .u64 ck, .int .i64 cs, .slice g4 fw g1, .int .u64 d3] := by simpa only [setAll, Nat.zero_add, Nat.add_zero, List.set_cons_zero, List.set_cons_succ] using l1
  have h := h iz (da.heap.size) kh (Priv.cons lc b1.lt Priv.nil)
  refine h.mono fun lj d9 h => ?_
  obtain ⟨ce, b8, bu, c5, cl, cm, bp, c3, bv, c0, cc, b7, c4, c6, ci, cd, c2, bn, bm, bk, ch, cu, f9, fr, f5, cq, ib, he, hk, h⟩ := h
  refine ⟨ce, b8, bu, c5, cl, cm, bp, c3, bv, c0, cc, b7, c4, c6, ci, cd, c2, bn, bm, bk, ch, cu, f9, fr, f5, cq, ib, he, ?_⟩
  have a0 := hk.blk a0 (by simp)
  have a1 := hk.blk a1 (by simp)
  have b1 := hk.blk b1 (by simp)
  refine Q02 fun lw f4 => ?_
  have ag := Blk.of_new f4
  have m0 := ((Ext.refl no d9)).size
  have k9 := Nat.ne_of_lt a0.lt
  have a0 := a0.x_alloc f4
  have jy := Nat.ne_of_lt a1.lt
  have a1 := a1.x_alloc f4
  have jr := Nat.ne_of_lt b1.lt
  have b1 := b1.x_alloc f4
  have kk := (Ext.refl no d9).x_alloc f4
  refine Q0a (k := 0) (j := 0) ag (by exact Nat.le_of_ble_eq_true rfl) fun jz im kv => ?_
  have ki := kk.x_puts im (.inr m0)
  have a0 := a0.x_puts im k9
  have a1 := a1.x_puts im jy
  have b1 := b1.x_puts im jr
  have ag : Blk jz d9.heap.size 30 [.int .i64 ce, .int .i64 b8, .int .i64 bu, .int .u64 c5, .int .i64 cl, .int .i64 cm, .int .i64 bp, .slice c3 bv c0, .int .u64 cc, .int .i64 b7, .int .i64 c4, .int .u64 c6, .int .i64 ci, .int .i64 cd, .int .i64 c2, .slice bn bm bk, .int .u64 ch, .int .i64 cu, .slice f9 fr f5, .int .u64 cq] := by simpa only [setAll, Nat.zero_add, Nat.add_zero, List.set_cons_zero, List.set_cons_succ] using kv
  refine Q02 fun k0 fk => ?_
  have kb := ki.x_drew fk
  have a0 := a0.x_drew fk
  have a1 := a1.x_drew fk
  have b1 := b1.x_drew fk
  have ag := ag.x_drew fk
  refine ⟨b4, a2, a6, ae, ak, al, a7, a4, a5, a8, ao, a3, aa, af, aj, ah, ac, ab, ad, a9, ai, b2, bd, be, ba, b3, ⟨a0.celli 0 rfl rfl, a0.celli 1 rfl rfl, a0.celli 2 rfl rfl, a0.celli 3 rfl rfl, a0.celli 4 rfl rfl, a0.celli 5 rfl rfl, a0.celli 6 rfl rfl, a0.celli 7 rfl rfl, a0.celli 8 rfl rfl, a0.celli 9 rfl rfl, a0.celli 10 rfl rfl, a0.celli 11 rfl rfl, a0.celli 12 rfl rfl, a0.celli 13 rfl rfl, a0.celli 14 rfl rfl, a0.celli 15 rfl rfl, a0.celli 16 rfl rfl, a0.celli 17 rfl rfl, a0.celli 18 rfl rfl, a0.celli 19 rfl rfl, trivial⟩, ?_⟩
  refine ⟨b4, a2, a6, ae, ak, al, a7, a4, a5, a8, ao, a3, aa, af, aj, ah, ac, ab, ad, a9, ai, b2, bd, be, ba, b3, ⟨a0.celli 0 rfl rfl, a0.celli 1 rfl rfl, a0.celli 2 rfl rfl, a0.celli 3 rfl rfl, a0.celli 4 rfl rfl, a0.celli 5 rfl rfl, a0.celli 6 rfl rfl, a0.celli 7 rfl rfl, a0.celli 8 rfl rfl, a0.celli 9 rfl rfl, a0.celli 10 rfl rfl, a0.celli 11 rfl rfl, a0.celli 12 rfl rfl, a0.celli 13 rfl rfl, a0.celli 14 rfl rfl, a0.celli 15 rfl rfl, a0.celli 16 rfl rfl, a0.celli 17 rfl rfl, a0.celli 18 rfl rfl, a0.celli 19 rfl rfl, trivial⟩, ?_⟩
  have h := h k0 (d9.heap.size) kb (Priv.cons m0 ag.lt Priv.nil)
  refine h.mono fun m3 m2 h => ?_
  obtain ⟨gi, d7, ew, f7, g6, iy, ev, e3, es, du, il, d6, ee, fu, i9, ii, dt, dm, dx, ef, ik, j7, k3, k8, kq, j3, he, hk, h⟩ := h
  refine ⟨gi, d7, ew, f7, g6, iy, ev, e3, es, du, il, d6, ee, fu, i9, ii, dt, dm, dx, ef, ik, j7, k3, k8, kq, j3, he, ?_⟩
  have a0 := hk.blk a0 (by simp)
  have a1 := hk.blk a1 (by simp)
  have b1 := hk.blk b1 (by simp)
  have ag := hk.blk ag (by simp)
  refine ⟨⟨a0.celli 0 rfl rfl, a0.celli 1 rfl rfl, a0.celli 2 rfl rfl, a0.celli 3 rfl rfl, a0.celli 4 rfl rfl, a0.celli 5 rfl rfl, a0.celli 6 rfl rfl, a0.celli 7 rfl rfl, a0.celli 8 rfl rfl, a0.celli 9 rfl rfl, a0.celli 10 rfl rfl, a0.celli 11 rfl rfl, a0.celli 12 rfl rfl, a0.celli 13 rfl rfl, a0.celli 14 rfl rfl, a0.celli 15 rfl rfl, a0.celli 16 rfl rfl, a0.celli 17 rfl rfl, a0.celli 18 rfl rfl, a0.celli 19 rfl rfl, trivial⟩, ?_⟩
  refine h.mono fun l5 ly h => ?_
  obtain ⟨f8, he, hk, h⟩ := h
  refine ⟨f8, he, ?_⟩
  have a0 := hk.blk a0 (by simp)
  have a1 := hk.blk a1 (by simp)
  have b1 := hk.blk b1 (by simp)
  have ag := hk.blk ag (by simp)
  refine ⟨⟨a0.celli 0 rfl rfl, a0.celli 1 rfl rfl, a0.celli 2 rfl rfl, a0.celli 3 rfl rfl, a0.celli 4 rfl rfl, a0.celli 5 rfl rfl, a0.celli 6 rfl rfl, a0.celli 7 rfl rfl, a0.celli 8 rfl rfl, a0.celli 9 rfl rfl, a0.celli 10 rfl rfl, a0.celli 11 rfl rfl, a0.celli 12 rfl rfl, a0.celli 13 rfl rfl, a0.celli 14 rfl rfl, a0.celli 15 rfl rfl, a0.celli 16 rfl rfl, a0.celli 17 rfl rfl, a0.celli 18 rfl rfl, a0.celli 19 rfl rfl, trivial⟩, ?_⟩
  refine h.mono fun lq lf h => ?_
  obtain ⟨g3, he, hk, h⟩ := h
  refine ⟨g3, he, ?_⟩
  have a0 := hk.blk a0 (by simp)
  have a1 := hk.blk a1 (by simp)
  have b1 := hk.blk b1 (by simp)
  have ag := hk.blk ag (by simp)
  refine bif_fo (fun jl => ?_) (fun jl => ?_)
  ·have h := h.2 (bbeq_f jl)
   exact h
  have h := h.1 (bbeq_t jl)
  refine h.mono fun lv l8 h => ?_
  obtain ⟨ig, he, hk, h⟩ := h
  refine ⟨ig, he, ?_⟩
  have a0 := hk.blk a0 (by simp)
  have a1 := hk.blk a1 (by simp)
  have b1 := hk.blk b1 (by simp)
  have ag := hk.blk ag (by simp)
  refine bif_fo (fun jo => ?_) (fun jo => ?_)
  ·have h := h.2 jo
   exact h
  have h := h.1 jo
  refine bif_fo (fun j8 => ?_) (fun j8 => ?_)
  ·have h := h.2 (beq_f j8)
   exact h
  have h := h.1 (beq_t j8)
  refine ⟨cz, br, c7, cb, d8, d2, bl, bq, bs, c1, cj, b9, bt, c8, cf, cg, bo, bw, bz, bx, ck, cs, g4, fw, g1, d3, ⟨b1.celli 0 rfl rfl, b1.celli 1 rfl rfl, b1.celli 2 rfl rfl, b1.celli 3 rfl rfl, b1.celli 4 rfl rfl, b1.celli 5 rfl rfl, b1.celli 6 rfl rfl, b1.celli 7 rfl rfl, b1.celli 8 rfl rfl, b1.celli 9 rfl rfl, b1.celli 10 rfl rfl, b1.celli 11 rfl rfl, b1.celli 12 rfl rfl, b1.celli 13 rfl rfl, b1.celli 14 rfl rfl, b1.celli 15 rfl rfl, b1.celli 16 rfl rfl, b1.celli 17 rfl rfl, b1.celli 18 rfl rfl, b1.celli 19 rfl rfl, trivial⟩, ?_⟩
  refine ⟨ce, b8, bu, c5, cl, cm, bp, c3, bv, c0, cc, b7, c4, c6, ci, cd, c2, bn, bm, bk, ch, cu, f9, fr, f5, cq, ⟨ag.celli 0 rfl rfl, ag.celli 1 rfl rfl, ag.celli 2 rfl rfl, ag.celli 3 rfl rfl, ag.celli 4 rfl rfl, ag.celli 5 rfl rfl, ag.celli 6 rfl rfl, ag.celli 7 rfl rfl, ag.celli 8 rfl rfl, ag.celli 9 rfl rfl, ag.celli 10 rfl rfl, ag.celli 11 rfl rfl, ag.celli 12 rfl rfl, ag.celli 13 rfl rfl, ag.celli 14 rfl rfl, ag.celli 15 rfl rfl, ag.celli 16 rfl rfl, ag.celli 17 rfl rfl, ag.celli 18 rfl rfl, ag.celli 19 rfl rfl, trivial⟩, ?_⟩
  refine h.mono fun lp lu h => ?_
  obtain ⟨gg, d5, di, ft, gs, i6, de, e7, e9, eo, ga, cx, ex, f6, gd, gp, e0, ep, dy, ed, ie, j4, kl, k7, ke, j5, he, hk, h⟩ := h
  refine ⟨gg, d5, di, ft, gs, i6, de, e7, e9, eo, ga, cx, ex, f6, gd, gp, e0, ep, dy, ed, ie, j4, kl, k7, ke, j5, he, ?_⟩
  have a0 := hk.blk a0 (by simp)
  have a1 := hk.blk a1 (by simp)
  have ag := hk.blk ag (by simp)
  refine ⟨⟨ag.celli 0 rfl rfl, ag.celli 1 rfl rfl, ag.celli 2 rfl rfl, ag.celli 3 rfl rfl, ag.celli 4 rfl rfl, ag.celli 5 rfl rfl, ag.celli 6 rfl rfl, ag.celli 7 rfl rfl, ag.celli 8 rfl rfl, ag.celli 9 rfl rfl, ag.celli 10 rfl rfl, ag.celli 11 rfl rfl, ag.celli 12 rfl rfl, ag.celli 13 rfl rfl, ag.celli 14 rfl rfl, ag.celli 15 rfl rfl, ag.celli 16 rfl rfl, ag.celli 17 rfl rfl, ag.celli 18 rfl rfl, ag.celli 19 rfl rfl, trivial⟩, ?_⟩
  refine h.mono fun lb l3 h => ?_
  obtain ⟨i3, he, hk, h⟩ := h
  refine ⟨i3, he, ?_⟩
  have a0 := hk.blk a0 (by simp)
  have a1 := hk.blk a1 (by simp)
  refine bif_fo (fun jh => ?_) (fun jh => ?_)
  ·have h := h.2 jh
   exact h
  have h := h.1 jh
  refine bif_fo (fun j6 => ?_) (fun j6 => ?_)
  ·have h := h.2 (beq_f j6)
   exact h
  have h := h.1 (beq_t j6)
  refine ⟨b4, a2, a6, ae, ak, al, a7, a4, a5, a8, ao, a3, aa, af, aj, ah, ac, ab, ad, a9, ai, b2, bd, be, ba, b3, ⟨a0.celli 0 rfl rfl, a0.celli 1 rfl rfl, a0.celli 2 rfl rfl, a0.celli 3 rfl rfl, a0.celli 4 rfl rfl, a0.celli 5 rfl rfl, a0.celli 6 rfl rfl, a0.celli 7 rfl rfl, a0.celli 8 rfl rfl, a0.celli 9 rfl rfl, a0.celli 10 rfl rfl, a0.celli 11 rfl rfl, a0.celli 12 rfl rfl, a0.celli 13 rfl rfl, a0.celli 14 rfl rfl, a0.celli 15 rfl rfl, a0.celli 16 rfl rfl, a0.celli 17 rfl rfl, a0.celli 18 rfl rfl, a0.celli 19 rfl rfl, trivial⟩, ?_⟩
  refine ⟨bj, am, az, b6, bc, bg, av, aq, aw, ay, bi, an, b0, b5, bb, bh, ar, ax, au, ap, bf, ca, cp, co, cn, c9, ⟨a1.celli 0 rfl rfl, a1.celli 1 rfl rfl, a1.celli 2 rfl rfl, a1.celli 3 rfl rfl, a1.celli 4 rfl rfl, a1.celli 5 rfl rfl, a1.celli 6 rfl rfl, a1.celli 7 rfl rfl, a1.celli 8 rfl rfl, a1.celli 9 rfl rfl, a1.celli 10 rfl rfl, a1.celli 11 rfl rfl, a1.celli 12 rfl rfl, a1.celli 13 rfl rfl, a1.celli 14 rfl rfl, a1.celli 15 rfl rfl, a1.celli 16 rfl rfl, a1.celli 17 rfl rfl, a1.celli 18 rfl rfl, a1.celli 19 rfl rfl, trivial⟩, ?_⟩
  refine ⟨b4, a2, a6, ae, ak, al, a7, a4, a5, a8, ao, a3, aa, af, aj, ah, ac, ab, ad, a9, ai, b2, bd, be, ba, b3, ⟨a0.celli 0 rfl rfl, a0.celli 1 rfl rfl, a0.celli 2 rfl rfl, a0.celli 3 rfl rfl, a0.celli 4 rfl rfl, a0.celli 5 rfl rfl, a0.celli 6 rfl rfl, a0.celli 7 rfl rfl, a0.celli 8 rfl rfl, a0.celli 9 rfl rfl, a0.celli 10 rfl rfl, a0.celli 11 rfl rfl, a0.celli 12 rfl rfl, a0.celli 13 rfl rfl, a0.celli 14 rfl rfl, a0.celli 15 rfl rfl, a0.celli 16 rfl rfl, a0.celli 17 rfl rfl, a0.celli 18 rfl rfl, a0.celli 19 rfl rfl, trivial⟩, ?_⟩
  refine ⟨bj, am, az, b6, bc, bg, av, aq, aw, ay, bi, an, b0, b5, bb, bh, ar, ax, au, ap, bf, ca, cp, co, cn, c9, ⟨a1.celli 0 rfl rfl, a1.celli 1 rfl rfl, a1.celli 2 rfl rfl, a1.celli 3 rfl rfl, a1.celli 4 rfl rfl, a1.celli 5 rfl rfl, a1.celli 6 rfl rfl, a1.celli 7 rfl rfl, a1.celli 8 rfl rfl, a1.celli 9 rfl rfl, a1.celli 10 rfl rfl, a1.celli 11 rfl rfl, a1.celli 12 rfl rfl, a1.celli 13 rfl rfl, a1.celli 14 rfl rfl, a1.celli 15 rfl rfl, a1.celli 16 rfl rfl, a1.celli 17 rfl rfl, a1.celli 18 rfl rfl, a1.celli 19 rfl rfl, trivial⟩, ?_⟩
  refine h.mono fun lg ln h => ?_
  obtain ⟨g7, cy, ey, fd, it, i8, e2, e5, dj, dw, ia, d0, dl, fo, gv, gt, ec, em, dz, er, gq, jf, kc, k5, kn, j2, he, hk, h⟩ := h
  refine ⟨g7, cy, ey, fd, it, i8, e2, e5, dj, dw, ia, d0, dl, fo, gv, gt, ec, em, dz, er, gq, jf, kc, k5, kn, j2, he, ?_⟩
  have a0 := hk.blk a0 (by simp)
  have a1 := hk.blk a1 (by simp)
  refine ⟨⟨a1.celli 0 rfl rfl, a1.celli 1 rfl rfl, a1.celli 2 rfl rfl, a1.celli 3 rfl rfl, a1.celli 4 rfl rfl, a1.celli 5 rfl rfl, a1.celli 6 rfl rfl, a1.celli 7 rfl rfl, a1.celli 8 rfl rfl, a1.celli 9 rfl rfl, a1.celli 10 rfl rfl, a1.celli 11 rfl rfl, a1.celli 12 rfl rfl, a1.celli 13 rfl rfl, a1.celli 14 rfl rfl, a1.celli 15 rfl rfl, a1.celli 16 rfl rfl, a1.celli 17 rfl rfl, a1.celli 18 rfl rfl, a1.celli 19 rfl rfl, trivial⟩, ⟨a0.celli 0 rfl rfl, a0.celli 1 rfl rfl, a0.celli 2 rfl rfl, a0.celli 3 rfl rfl, a0.celli 4 rfl rfl, a0.celli 5 rfl rfl, a0.celli 6 rfl rfl, a0.celli 7 rfl rfl, a0.celli 8 rfl rfl, a0.celli 9 rfl rfl, a0.celli 10 rfl rfl, a0.celli 11 rfl rfl, a0.celli 12 rfl rfl, a0.celli 13 rfl rfl, a0.celli 14 rfl rfl, a0.celli 15 rfl rfl, a0.celli 16 rfl rfl, a0.celli 17 rfl rfl, a0.celli 18 rfl rfl, a0.celli 19 rfl rfl, trivial⟩, ⟨a1.celli 0 rfl rfl, a1.celli 1 rfl rfl, a1.celli 2 rfl rfl, a1.celli 3 rfl rfl, a1.celli 4 rfl rfl, a1.celli 5 rfl rfl, a1.celli 6 rfl rfl, a1.celli 7 rfl rfl, a1.celli 8 rfl rfl, a1.celli 9 rfl rfl, a1.celli 10 rfl rfl, a1.celli 11 rfl rfl, a1.celli 12 rfl rfl, a1.celli 13 rfl rfl, a1.celli 14 rfl rfl, a1.celli 15 rfl rfl, a1.celli 16 rfl rfl, a1.celli 17 rfl rfl, a1.celli 18 rfl rfl, a1.celli 19 rfl rfl, trivial⟩, ?_⟩
  refine h.mono fun le lm h => ?_
  obtain ⟨gz, d1, eu, fs, ij, gx, dk, ej, dh, dp, gu, cr, en, fg, i4, gm, dq, el, e1, f0, i7, j1, ju, k4, kd, jm, he, hk, h⟩ := h
  refine ⟨gz, d1, eu, fs, ij, gx, dk, ej, dh, dp, gu, cr, en, fg, i4, gm, dq, el, e1, f0, i7, j1, ju, k4, kd, jm, he, ?_⟩
  have a0 := hk.blk a0 (by simp)
  have a1 := hk.blk a1 (by simp)
  refine ⟨⟨a1.celli 0 rfl rfl, a1.celli 1 rfl rfl, a1.celli 2 rfl rfl, a1.celli 3 rfl rfl, a1.celli 4 rfl rfl, a1.celli 5 rfl rfl, a1.celli 6 rfl rfl, a1.celli 7 rfl rfl, a1.celli 8 rfl rfl, a1.celli 9 rfl rfl, a1.celli 10 rfl rfl, a1.celli 11 rfl rfl, a1.celli 12 rfl rfl, a1.celli 13 rfl rfl, a1.celli 14 rfl rfl, a1.celli 15 rfl rfl, a1.celli 16 rfl rfl, a1.celli 17 rfl rfl, a1.celli 18 rfl rfl, a1.celli 19 rfl rfl, trivial⟩, ⟨a0.celli 0 rfl rfl, a0.celli 1 rfl rfl, a0.celli 2 rfl rfl, a0.celli 3 rfl rfl, a0.celli 4 rfl rfl, a0.celli 5 rfl rfl, a0.celli 6 rfl rfl, a0.celli 7 rfl rfl, a0.celli 8 rfl rfl, a0.celli 9 rfl rfl, a0.celli 10 rfl rfl, a0.celli 11 rfl rfl, a0.celli 12 rfl rfl, a0.celli 13 rfl rfl, a0.celli 14 rfl rfl, a0.celli 15 rfl rfl, a0.celli 16 rfl rfl, a0.celli 17 rfl rfl, a0.celli 18 rfl rfl, a0.celli 19 rfl rfl, trivial⟩, ?_⟩
  refine h.mono fun l4 lx h => ?_
  obtain ⟨iv, he, hk, h⟩ := h
  refine ⟨iv, he, ?_⟩
  have a0 := hk.blk a0 (by simp)
  have a1 := hk.blk a1 (by simp)
  refine ⟨⟨a1.celli 0 rfl rfl, a1.celli 1 rfl rfl, a1.celli 2 rfl rfl, a1.celli 3 rfl rfl, a1.celli 4 rfl rfl, a1.celli 5 rfl rfl, a1.celli 6 rfl rfl, a1.celli 7 rfl rfl, a1.celli 8 rfl rfl, a1.celli 9 rfl rfl, a1.celli 10 rfl rfl, a1.celli 11 rfl rfl, a1.celli 12 rfl rfl, a1.celli 13 rfl rfl, a1.celli 14 rfl rfl, a1.celli 15 rfl rfl, a1.celli 16 rfl rfl, a1.celli 17 rfl rfl, a1.celli 18 rfl rfl, a1.celli 19 rfl rfl, trivial⟩, ⟨a0.celli 0 rfl rfl, a0.celli 1 rfl rfl, a0.celli 2 rfl rfl, a0.celli 3 rfl rfl, a0.celli 4 rfl rfl, a0.celli 5 rfl rfl, a0.celli 6 rfl rfl, a0.celli 7 rfl rfl, a0.celli 8 rfl rfl, a0.celli 9 rfl rfl, a0.celli 10 rfl rfl, a0.celli 11 rfl rfl, a0.celli 12 rfl rfl, a0.celli 13 rfl rfl, a0.celli 14 rfl rfl, a0.celli 15 rfl rfl, a0.celli 16 rfl rfl, a0.celli 17 rfl rfl, a0.celli 18 rfl rfl, a0.celli 19 rfl rfl, trivial⟩, ?_⟩
  refine h.mono fun ll li h => ?_
  obtain ⟨i0, he, hk, h⟩ := h
  refine ⟨i0, he, ?_⟩
  have a0 := hk.blk a0 (by simp)
  refine bif_fo (fun jd => ?_) (fun jd => ?_)
  ·have h := h.2 (bbeq_f jd)
   exact h
  have h := h.1 (bbeq_t jd)
  refine ⟨a2, a6, ae, ak, al, a7, a4, a5, a8, ao, ⟨a0.celli 1 rfl rfl, a0.celli 2 rfl rfl, a0.celli 3 rfl rfl, a0.celli 4 rfl rfl, a0.celli 5 rfl rfl, a0.celli 6 rfl rfl, a0.celli 7 rfl rfl, a0.celli 8 rfl rfl, trivial⟩, ?_⟩
  refine ⟨a2, a6, ae, ak, al, a7, a4, a5, a8, ao, ⟨a0.celli 1 rfl rfl, a0.celli 2 rfl rfl, a0.celli 3 rfl rfl, a0.celli 4 rfl rfl, a0.celli 5 rfl rfl, a0.celli 6 rfl rfl, a0.celli 7 rfl rfl, a0.celli 8 rfl rfl, trivial⟩, ?_⟩
  refine h.mono fun ld lr h => ?_
  obtain ⟨g9, d4, ek, g2, i2, ir, ez, db, dd, f1, gn, cw, ei, fe, gj, ip, eg, dv, e8, eh, i1, je, jw, jx, k2, j0, he, hk, h⟩ := h
  refine ⟨g9, d4, ek, g2, i2, ir, ez, db, dd, f1, gn, cw, ei, fe, gj, ip, eg, dv, e8, eh, i1, je, jw, jx, k2, j0, he, ?_⟩
  have a0 := hk.blk a0 (by simp)
  refine ⟨⟨a0.celli 1 rfl rfl, a0.celli 2 rfl rfl, a0.celli 3 rfl rfl, a0.celli 4 rfl rfl, a0.celli 5 rfl rfl, a0.celli 6 rfl rfl, a0.celli 7 rfl rfl, a0.celli 8 rfl rfl, trivial⟩, ?_⟩
  refine h.mono fun la l6 h => ?_
  obtain ⟨ix, ct, et, f3, gr, gw, df, e4, e6, ea, gk, cv, dg, fm, ih, gy, eb, dc, dr, ds, ge, jb, k1, km, k6, j9, he, hk, h⟩ := h
  refine ⟨ix, ct, et, f3, gr, gw, df, e4, e6, ea, gk, cv, dg, fm, ih, gy, eb, dc, dr, ds, ge, jb, k1, km, k6, j9, he, ?_⟩
  have a0 := hk.blk a0 (by simp)
  refine ⟨⟨a0.celli 1 rfl rfl, a0.celli 2 rfl rfl, a0.celli 3 rfl rfl, a0.celli 4 rfl rfl, a0.celli 5 rfl rfl, a0.celli 6 rfl rfl, a0.celli 7 rfl rfl, a0.celli 8 rfl rfl, trivial⟩, ?_⟩
  refine h.mono fun lh m1 h => ?_
  obtain ⟨g8, he, h⟩ := h
  refine ⟨g8, he, ?_⟩
  refine bif_fo (fun jn => ?_) (fun jn => ?_)
  ·have h := h.2 jn
   exact h
  have h := h.1 jn
  refine h.mono fun ls lz h => ?_
  obtain ⟨fc, he, h⟩ := h
  refine ⟨fc, he, ?_⟩
  exact h

theorem Q09.go (ba ai ap ar b5 b7 ao : Int) (aq : Option Addr) (al an : Nat) (b9 a2 ag am b3 av af : Int) (a7 : Option Addr) (ac a9 : Nat) (az b4 : Int) (bc : Option Addr) (bd bh : Nat) (b6 au a1 a4 aj b2 ay a5 : Int) (ah : Option Addr) (a3 a8 : Nat) (b1 a0 ae ak aw b0 aa : Int) (ab : Option Addr) (a6 ad : Nat) (ax b8 : Int) (bg : Option Addr) (be bf : Nat) (bb : Int) (bj : Option Addr) (bi bk : Nat) {R : RW} {w : World} (h : Q09.N ba ai ap ar b5 b7 ao aq al an b9 a2 ag am b3 av af a7 ac a9 az b4 bc bd bh b6 au a1 a4 aj b2 ay a5 ah a3 a8 b1 a0 ae ak aw b0 aa ab a6 ad ax b8 bg be bf bb bj bi bk R w) : Calls Try.prog 5 #[.agg #[.int .i64 ba, .int .i64 ai, .int .i64 ap, .int .u64 ar, .int .i64 b5, .int .i64 b7, .int .i64 ao, .slice aq al an, .int .u64 b9, .int .i64 a2, .int .i64 ag, .int .u64 am, .int .i64 b3, .int .i64 av, .int .i64 af, .slice a7 ac a9, .int .u64 az, .int .i64 b4, .slice bc bd bh, .int .u64 b6], .agg #[.int .i64 au, .int .i64 a1, .int .i64 a4, .int .u64 aj, .int .i64 b2, .int .i64 ay, .int .i64 a5, .slice ah a3 a8, .int .u64 b1, .int .i64 a0, .int .i64 ae, .int .u64 ak, .int .i64 aw, .int .i64 b0, .int .i64 aa, .slice ab a6 ad, .int .u64 ax, .int .i64 b8, .slice bg be bf, .int .u64 bb], .slice bj bi bk] w fun e w' => ∃ v, e = .returned v ∧ R v w' := Q09.ok ba ai ap ar b5 b7 ao aq al an b9 a2 ag am b3 av af a7 ac a9 az b4 bc bd bh b6 au a1 a4 aj b2 ay a5 ah a3 a8 b1 a0 ae ak aw b0 aa ab a6 ad ax b8 bg be bf bb bj bi bk (Q09.up ba ai ap ar b5 b7 ao aq al an b9 a2 ag am b3 av af a7 ac a9 az b4 bc bd bh b6 au a1 a4 aj b2 ay a5 ah a3 a8 b1 a0 ae ak aw b0 aa ab a6 ad ax b8 bg be bf bb bj bi bk h)
theorem Q09.run (ba ai ap ar b5 b7 ao : Int) (aq : Option Addr) (al an : Nat) (b9 a2 ag am b3 av af : Int) (a7 : Option Addr) (ac a9 : Nat) (az b4 : Int) (bc : Option Addr) (bd bh : Nat) (b6 au a1 a4 aj b2 ay a5 : Int) (ah : Option Addr) (a3 a8 : Nat) (b1 a0 ae ak aw b0 aa : Int) (ab : Option Addr) (a6 ad : Nat) (ax b8 : Int) (bg : Option Addr) (be bf : Nat) (bb : Int) (bj : Option Addr) (bi bk : Nat) {V : Value} {Q : World → Prop} {w : World} (h : Q09.N ba ai ap ar b5 b7 ao aq al an b9 a2 ag am b3 av af a7 ac a9 az b4 bc bd bh b6 au a1 a4 aj b2 ay a5 ah a3 a8 b1 a0 ae ak aw b0 aa ab a6 ad ax b8 bg be bf bb bj bi bk (fun v w' => v = V ∧ Q w') w) : Calls Try.prog 5 #[.agg #[.int .i64 ba, .int .i64 ai, .int .i64 ap, .int .u64 ar, .int .i64 b5, .int .i64 b7, .int .i64 ao, .slice aq al an, .int .u64 b9, .int .i64 a2, .int .i64 ag, .int .u64 am, .int .i64 b3, .int .i64 av, .int .i64 af, .slice a7 ac a9, .int .u64 az, .int .i64 b4, .slice bc bd bh, .int .u64 b6], .agg #[.int .i64 au, .int .i64 a1, .int .i64 a4, .int .u64 aj, .int .i64 b2, .int .i64 ay, .int .i64 a5, .slice ah a3 a8, .int .u64 b1, .int .i64 a0, .int .i64 ae, .int .u64 ak, .int .i64 aw, .int .i64 b0, .int .i64 aa, .slice ab a6 ad, .int .u64 ax, .int .i64 b8, .slice bg be bf, .int .u64 bb], .slice bj bi bk] w (Ret V Q) := (Q09.go ba ai ap ar b5 b7 ao aq al an b9 a2 ag am b3 av af a7 ac a9 az b4 bc bd bh b6 au a1 a4 aj b2 ay a5 ah a3 a8 b1 a0 ae ak aw b0 aa ab a6 ad ax b8 bg be bf bb bj bi bk h).mono fun e w' ⟨v, he, hv, hq⟩ => ⟨by rw [he, hv], hq⟩
set_option maxRecDepth 20000
set_option maxHeartbeats 8000000
theorem Q3O (b : List UInt8) : (readFr b).1.e.body.length < 1000000 ∧ (readFr b).1.f.body.length < 1000000 ∧ (readFr b).1.v.length < 1000000 := by
  by_cases h : (readFr b).2 = 0
  · obtain ⟨_, hk, _⟩ := Q44 h
    generalize (readFr b).1 = x at *
    have ent : ∀ e : Ent, Q0t e = true → e.body.length < 1000000 := fun e he => by have := ((Q18 e).1 he).2.2.2.2.2.2.2.2.2.1; omega
    rcases frOK_kd hk with k | k | k | k
    · obtain ⟨h1, h2, h3, h4, h5⟩ := frOK_1 hk k
      exact ⟨ent _ h1, by rw [h2]; decide, by rw [h4]; decide⟩
    · obtain ⟨h1, h2, h3, h4, h5, h6⟩ := frOK_2 hk k
      exact ⟨by rw [h1]; decide, by rw [h2]; decide, by have := Q1Q h5; omega⟩
    · obtain ⟨h1, h2, h3, h4, h5⟩ := frOK_3 hk k
      exact ⟨by rw [h1]; decide, by rw [h2]; decide, by have := Q1Q h5; omega⟩
    · obtain ⟨h1, h2, h3, h4, h5⟩ := frOK_4 hk k
      exact ⟨ent _ h1, ent _ h2, by rw [h4]; decide⟩
  · rw [Q49 h]; exact ⟨by decide, by decide, by decide⟩
theorem Q2Q (W : World) {x y : FP} (hx : x.inn W) (hy : y.inn W) {ba : Option Addr} {bc : Nat} {b : List UInt8} (hb : RowAt W ba (bytesV b)) (hbc : b.length ≤ bc) :
    Calls Try.prog 5 #[x.V, y.V, .slice ba b.length bc] W (Ret (.bool true) fun w' => Ext no W w') := by
  refine Q09.run x.r.kd x.r.e.w x.r.e.i x.r.e.pv x.r.e.t x.r.e.tw x.r.e.ep x.ea x.r.e.body.length x.ec x.r.e.sg x.r.f.w x.r.f.i x.r.f.pv x.r.f.t x.r.f.tw x.r.f.ep x.fa x.r.f.body.length x.fc x.r.f.sg x.r.who x.va x.r.v.length x.vc x.r.sg y.r.kd y.r.e.w y.r.e.i y.r.e.pv y.r.e.t y.r.e.tw y.r.e.ep y.ea y.r.e.body.length y.ec y.r.e.sg y.r.f.w y.r.f.i y.r.f.pv y.r.f.t y.r.f.tw y.r.f.ep y.fa y.r.f.body.length y.fc y.r.f.sg y.r.who y.va y.r.v.length y.vc y.r.sg ba b.length bc ?_
  unfold Q09.N
  have hal : ∀ w1, Ext no W w1 → Calls Try.prog 8 #[] w1 fun ee w2 => ∃ b : Bool, ee = .returned (.bool b) ∧ Value.bool b = Value.bool true ∧ Ext no W w2 := fun w1 X =>
    (Q3J w1).mono fun v w2 ⟨hx, X2⟩ => ⟨_, hx, rfl, X.trans X2⟩
  intro w43 p44 p45 X43 hp
  refine (Q2D (w := w43) x).mono fun u w48 ⟨he, X48⟩ => ⟨_, he, X48.kept, fun _ => hal _ (X43.trans X48), fun hlx => ?_⟩
  have Y48 := X43.trans X48
  refine (Q2D (w := w48) y).mono fun u w55 ⟨he, X55⟩ => ⟨_, he, X55.kept, fun _ => hal _ (Y48.trans X55), fun hly => ⟨fun _ => hal _ (Y48.trans X55), fun hbl => ?_⟩⟩
  have Y55 := Y48.trans X55
  obtain ⟨lx1, lx2, lx3⟩ := light_v hlx
  obtain ⟨ly1, ly2, ly3⟩ := light_v hly
  refine (Q1Z (w := w55) x).mono fun u w85 ⟨he, X85⟩ => ⟨_, _, _, _, _, _, _, _, _, _, _, _, _, _, _, _, _, _, _, _, _, _, _, _, _, _, he, X85.kept, ?_⟩
  have Y85 := Y55.trans X85
  refine (Q2z (hx.at_.no Y85) hx.fit (by omega)).mono fun u w89 ⟨a1, c1, he, hO1, X89⟩ => ⟨a1, _, c1, _, he, X89.kept, ?_⟩
  have Y89 := Y85.trans X89
  refine (Q3C (hx.at_.no Y89) hx.fit (by omega) (by omega) (by omega)).mono fun u w93 ⟨a2, c2, he, hO2, X93⟩ => ⟨a2, _, c2, _, he, X93.kept, ?_⟩
  have Y93 := Y89.trans X93
  refine (Q2N (hb.no Y93) hbc).mono fun u w116 ⟨z, he, hz, hza, X116⟩ => ⟨_, _, _, _, _, _, _, _, _, _, _, _, _, _, _, _, _, _, _, _, _, _, _, _, _, _, _, he, X116.kept, fun w137 p138 X137 hp138 => ?_⟩
  have Y137 := (Y93.trans X116).trans X137
  refine (Q43 (hb.no Y137) hbc).mono fun u w161 ⟨z2, he, hz2, hza2, X161⟩ => ⟨_, _, _, _, _, _, _, _, _, _, _, _, _, _, _, _, _, _, _, _, _, _, _, _, _, _, _, he, X161.kept, fun w183 p184 X183 hp184 => ?_⟩
  have Y183 := (Y137.trans X161).trans X183
  refine (Q1Z (w := w183) x).mono fun u w206 ⟨he, X206⟩ => ⟨_, _, _, _, _, _, _, _, _, _, _, _, _, _, _, _, _, _, _, _, _, _, _, _, _, _, he, X206.kept, ?_⟩
  have Y206 := Y183.trans X206
  refine (Q2c (hx.at_.no Y206) (by omega)).mono fun u w209 ⟨he, X209⟩ => ⟨_, he, X209.kept, ?_⟩
  have Y209 := Y206.trans X209
  refine (Q1b (hx.at_.no Y209) (by omega) (by omega) (by omega)).mono fun u w212 ⟨he, X212⟩ => ⟨_, he, X212.kept, fun _ => ?_, fun h => absurd rfl h⟩
  have Y212 := Y209.trans X212
  have l1 := frK_len x.r
  have Z := ((((((X116.trans X137).trans X161).trans X183).trans X206).trans X209).trans X212)
  refine (sameB_spec (hO1.row.no (X93.trans Z)) (hO2.row.no Z) (by omega)).mono fun u w216 ⟨he, X216⟩ => ⟨_, he, X216.kept, fun _ => ⟨fun _ => ?_, fun h => absurd rfl h⟩, fun h => absurd h (by simp)⟩
  have Y216 := Y212.trans X216
  refine (Q2L (w := w216) z).mono fun u w240 ⟨he, X240⟩ => ⟨_, _, _, _, _, _, _, _, _, _, _, _, _, _, _, _, _, _, _, _, _, _, _, _, _, _, he, X240.kept, ?_⟩
  have Y240 := Y216.trans X240
  obtain ⟨s1, s2, s3⟩ := Q3O b
  have Z2 := ((((X183.trans X206).trans X209).trans X212).trans X216).trans X240
  refine (Q2d (x := z) (y := z2) (hza.no ((X137.trans X161).trans Z2)) (hza2.no Z2) (by rw [hz]; exact s1) (by rw [hz]; exact s2) (by rw [hz]; exact s3)).mono fun u w243 ⟨he, X243⟩ => ⟨_, he, X243.kept, fun _ => ⟨fun _ => ?_, fun h => absurd rfl h⟩, fun h => absurd h (by rw [hz, hz2]; simp [frSame])⟩
  have Y243 := Y240.trans X243
  refine (Q1Z (w := w243) x).mono fun u w267 ⟨he, X267⟩ => ⟨_, _, _, _, _, _, _, _, _, _, _, _, _, _, _, _, _, _, _, _, _, _, _, _, _, _, he, X267.kept, ?_⟩
  have Y267 := Y243.trans X267
  refine (Q1Z (w := w267) y).mono fun u w289 ⟨he, X289⟩ => ⟨_, _, _, _, _, _, _, _, _, _, _, _, _, _, _, _, _, _, _, _, _, _, _, _, _, _, he, X289.kept, ?_⟩
  have Y289 := Y267.trans X289
  refine (Q4D (hx.at_.no Y289) (hy.at_.no Y289) (by omega)).mono fun u w292 ⟨he, X292⟩ => ⟨_, he, X292.kept, ?_⟩
  have Y292 := Y289.trans X292
  refine (Q2d (hx.at_.no Y292) (hy.at_.no Y292) (by omega) (by omega) (by omega)).mono fun u w295 ⟨he, X295⟩ => ⟨_, he, X295.kept, fun _ => ?_, fun h => absurd rfl h⟩
  have Y295 := Y292.trans X295
  refine (Q2Y (w := w295) x.r.e x.ea x.ec).mono fun u w318 ⟨he, X318⟩ => ⟨_, _, _, _, _, _, _, _, _, _, _, _, _, _, _, _, _, _, _, _, _, _, _, _, _, _, he, X318.kept, ?_⟩
  have Y318 := Y295.trans X318
  refine (Q2L (w := w318) (FP.ofE x.r.e x.ea x.ec)).mono fun u w340 ⟨he, X340⟩ => ⟨_, _, _, _, _, _, _, _, _, _, _, _, _, _, _, _, _, _, _, _, _, _, _, _, _, _, he, X340.kept, ?_⟩
  have Y340 := Y318.trans X340
  have hat : (FP.ofE x.r.e x.ea x.ec).at w340 := ⟨hx.at_.e.no Y340, RowAt.nil _ _, RowAt.nil _ _⟩
  exact (Q2d (x := FP.ofE x.r.e x.ea x.ec) (y := FP.ofE x.r.e x.ea x.ec) hat hat (by show x.r.e.body.length < 1000000; omega) (show (0 : Nat) < 1000000 by decide) (show (0 : Nat) < 1000000 by decide)).mono fun u w343 ⟨he, X343⟩ => ⟨_, he, fun _ => hal _ (Y340.trans X343), fun h => absurd h (by simp [frSame])⟩
theorem FrameForms_walk (W : World) (cs0 cs1 : Array Value) (a2 : Option Addr) (len2 cap2 : Nat) (o0 : FrQ W cs0.toList) (o1 : FrQ W cs1.toList) (o2 : BytesQ W [.slice a2 len2 cap2]) :
    Calls Try.prog 5 #[.agg cs0, .agg cs1, .slice a2 len2 cap2] W (Ret (.bool true) fun w' => Ext no W w') := by
  obtain ⟨x, hx, hi⟩ := o0
  obtain ⟨y, hy, hj⟩ := o1
  obtain ⟨_, _, b, e1, l1, _, r1⟩ := o2
  cases e1
  obtain rfl : cs0 = x.C.toArray := Array.ext' hx
  obtain rfl : cs1 = y.C.toArray := Array.ext' hy
  exact Q2Q W hi hj r1 l1
end Go.Proofs.Ytoempemllkebkaa