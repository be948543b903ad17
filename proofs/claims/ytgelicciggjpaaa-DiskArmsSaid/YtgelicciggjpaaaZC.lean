/- DiskArms. -/
import Derived.Test.YtgelicciggjpaaaZB
set_option linter.unusedVariables false
set_option linter.unusedSimpArgs false
set_option maxRecDepth 20000
set_option maxHeartbeats 4000000
namespace Go.Proofs.Ytgelicciggjpaaa
open Go Go.Mx Go.Proofs
open W (OwnB)
section
variable {K : Nat → Prop} {w w' w1 : World} {o o' o1 : Own} {g g2 m : Nat} {d : DS} {i : Int} {a : Option Addr} {c : Nat}
theorem secB_len (x : Int) (short : Bool) : (secB x short).length = if short then 63 else 64 := by unfold secB; simp
def ArmsP (d : DS) (n N : Int) (short : Bool) (r : DS × Int) : Prop :=
    r.1.armed = true ∧ r.1.good.length = 6 ∧ r.1.count + r.1.left = n ∧ 0 ≤ r.1.left ∧ (r.1.down = true → r.1.left = 0) ∧ (r.2 = 0 → r.1.count = d.count + 1) ∧ (r.2 ≠ 0 → r.1.count = d.count) ∧
      (d.down = true → r.2 = 19) ∧ (d.down = false → 0 ≤ N → N < 6 → short = false → ((r.2 == 0) = decide (d.count < n))) ∧ (d.down = false → ¬ (0 ≤ N ∧ N < 6 ∧ short = false) → r.2 ≠ 0)
theorem arms_law {n x : Int} {N : Int} {short : Bool} {r : DS × Int} (hr : writeD d N (secB x short) = r) (h6 : d.good.length = 6) (ha : d.armed = true) (hn : d.count + d.left = n) (hl : 0 ≤ d.left) (hdl : d.down = true → d.left = 0) : ArmsP d n N short r := by
  have bad : ∀ k : Int, k ≠ 0 → r = (d, k) → (d.down = true → k = 19) → (d.down = false → ¬ (0 ≤ N ∧ N < 6 ∧ short = false)) → ArmsP d n N short r := fun k hk hr2 hk1 hk2 => by
    subst hr2
    exact ⟨ha, h6, hn, hl, hdl, fun h => absurd h hk, fun _ => rfl, hk1, fun h0 h1 h2 h3 => absurd ⟨h1, h2, h3⟩ (hk2 h0), fun _ _ => hk⟩
  by_cases h0 : hasD d N = 0
  · obtain ⟨hd, hN0, hN6⟩ := hasD_0 h0
    rw [h6] at hN6
    cases short
    · have hl64 : (secB x false).length = 64 := by rw [secB_len]; rfl
      by_cases hz : d.left = 0
      · have e : r = ({ d with pend := d.pend ++ [⟨N, ⟨secB x false, true, hl64⟩⟩], down := true }, 19) := by rw [← hr]; unfold writeD; rw [if_pos h0, dif_pos hl64, if_pos ha, if_pos hz]
        subst e
        refine ⟨ha, h6, hn, hl, fun _ => hz, fun h => (by cases h), fun _ => rfl, fun _ => rfl, fun _ _ _ _ => ?_, fun _ _ => by show (19 : Int) ≠ 0; decide⟩
        rw [decide_eq_false (by omega)]; rfl
      · have e : r = ({ d with pend := d.pend ++ [⟨N, ⟨secB x false, false, hl64⟩⟩], left := d.left - 1, count := d.count + 1 }, 0) := by rw [← hr]; unfold writeD; rw [if_pos h0, dif_pos hl64, if_pos ha, if_neg hz]
        subst e
        refine ⟨ha, h6, by show d.count + 1 + (d.left - 1) = n; omega, by show 0 ≤ d.left - 1; omega, fun h => ?_, fun _ => rfl, fun h => absurd rfl h, fun h => ?_, fun _ _ _ _ => ?_, fun _ h => absurd ⟨hN0, hN6, rfl⟩ h⟩
        · exact absurd (hd.symm.trans h) (by decide)
        · exact absurd (hd.symm.trans h) (by decide)
        · rw [decide_eq_true (by omega)]; rfl
    · have hl63 : ¬ (secB x true).length = 64 := by rw [secB_len]; decide
      exact bad 1 (by decide) (by rw [← hr]; unfold writeD; rw [if_pos h0, dif_neg hl63]) (fun h => absurd (hd.symm.trans h) (by decide)) (fun _ h => absurd h.2.2 (by decide))
  · refine bad (hasD d N) h0 (by rw [← hr]; unfold writeD; rw [if_neg h0]) (fun h => by unfold hasD; rw [if_pos h]) (fun hd h => h0 ?_)
    unfold hasD
    rw [if_neg (by rw [hd]; decide), if_neg (by rw [h6]; omega)]
theorem DiskArms_spec (W : World) {n : Int} {la : Option Addr} {lc : Nat} {l : List DOp} (hl : RowAt W la (l.flatMap DOp.C)) (hlg : ∀ p ∈ l, p.good W) :
    Calls Try.prog 6 #[.int .i64 n, .slice la l.length lc] W (Ret (.bool true) fun w' => Ext no W w') := by
  refine cachettelaw09_DiskArms.run _ _ _ _ ?_
  unfold cachettelaw09_DiskArms.N
  have ok0 : Tags W (fun _ => none) := fun b j _ h => by cases h
  have fin : ∀ {w1 w' : World} {o1 : Own}, Step no W (fun _ => none) w1 o1 → Ext no w1 w' → Ext no W w' := fun s X => (s.ext.mono fun b ⟨_, _, h⟩ _ => h).trans X
  refine ⟨fun _ => (alive9_spec _).mono fun e w9 ⟨he, X⟩ => ⟨_, he, rfl, X⟩, fun hn0 => ⟨fun _ => (alive9_spec _).mono fun e w9 ⟨he, X⟩ => ⟨_, he, rfl, X⟩, fun hn50 => ?_⟩⟩
  refine (light9_spec hl).mono fun e w13 ⟨he, hw⟩ => ⟨_, he, fun _ => ?_, fun hL => ?_⟩
  · subst hw
    exact (alive9_spec _).mono fun e w9 ⟨he, X⟩ => ⟨_, he, rfl, X⟩
  subst hw
  obtain ⟨hl1, hl2⟩ := light9_of hL
  have hlr : Row w13 (fun _ => none) la (l.flatMap DOp.C) := ⟨hl, fun _ _ _ => rfl⟩
  have k0 := newDS_ok (n := 6) (by decide) (by decide)
  refine (dNew_spec (n := 6) ok0 (by decide) (by decide)).mono fun e w21 ⟨q, o21, he, hq, s21, D21⟩ => ⟨_, _, he, fun h => absurd rfl h, fun _ => ?_⟩
  refine (Arm_spec D21 s21.ok n).mono fun e w25 ⟨he, o25, s25', D25⟩ => ⟨_, he, ?_⟩
  have s25 : Step no w13 (fun _ => none) w25 o25 := s21.trans' s25' fun j hj => .inr (by omega)
  have k1 := armD_ok k0 (n := n) (by omega)
  have hA : armD (newDS 6) n = ({ newDS 6 with left := n, armed := true }, 0) := by
    unfold armD
    rw [if_neg (by decide), if_neg (by omega)]
  rw [hA] at he D25 k1 ⊢
  refine ⟨fun h => absurd rfl h, fun _ => ?_⟩
  refine ⟨fun m vs w1 => ∃ (t : Nat) (d : DS) (o1 : Own), vs = [.int .i64 d.count, .int .i64 t] ∧ m + t = l.length ∧ Step no w13 (fun _ => none) w1 o1 ∧ DG w1 o1 q d ∧ d.ok t ∧ d.good.length = 6 ∧ d.armed = true ∧ d.count + d.left = n ∧ (d.down = true → d.left = 0), l.length, ⟨0, _, o25, rfl, rfl, s25, D25, k1, rfl, rfl, by show 0 + n = n; omega, fun h => by cases h⟩, ?_⟩
  rintro m w31 good0 i0 ⟨t, d, o31, hi, hm, s31, D31, k31, h6, har, hcl, hdl⟩
  simp only [List.cons.injEq, Value.int.injEq, true_and, and_true] at hi
  obtain ⟨rfl, rfl⟩ := hi
  have hleft := k31.left
  have hcnt := k31.cl
  refine ⟨fun ht => ?_, fun ht => ?_⟩
  · have htl : t < l.length := by omega
    have hg : l[t]? = some l[t] := List.getElem?_eq_getElem htl
    have hxg := hlg _ (List.getElem_mem htl)
    generalize l[t] = x at *
    obtain ⟨ad, rfl⟩ := hl.faddr DOp.len (by decide) htl
    have cell : ∀ {w1 : World} {o1 : Own} (j : Nat) {v : Value}, Step no w13 (fun _ => none) w1 o1 → x.C[j]? = some v → w1.cell? ((ad.add (Int.toNat (t : Int) * 5)).add j) = some v := fun j _ s hv => by rw [Int.toNat_natCast]; exact (hlr.step s).1.fcell DOp.len hg j hv
    refine ⟨ad, rfl, by omega, by omega, x.kd, cell 0 s31 rfl, fun hkd => ⟨by omega, by omega, m - 1, by omega, t + 1, d, o31, rfl, by omega, s31, D31, k31.up (by omega), h6, har, hcl, hdl⟩, fun hkd => ?_⟩
    refine (Down_spec D31).mono fun e w40 ⟨he, hw⟩ => ⟨_, he, by omega, by omega, x.n, ?_⟩
    subst hw
    refine ⟨cell 1 s31 rfl, by omega, by omega, x.by_, cell 2 s31 rfl, by omega, by omega, x.short, cell 3 s31 rfl, fun w41 X41 => ?_⟩
    have s41' := Step.of_no X41 s31.ok
    refine (Sector_spec s41'.ok hxg.bw x.short).mono fun e w50 ⟨ba, bc, o50, he, s50', rb, _⟩ => ⟨_, _, _, he, ?_⟩
    have s50 := (s31.trans s41').trans s50'
    have D50 := (D31.step s41' id).step s50' id
    refine ⟨cell 1 s50 rfl, (dWrite_spec D50 s50.ok k31 (by omega) x.n rb.1).mono fun e w54 ⟨he, o54, s54', D54⟩ => ⟨_, he, by omega, by omega, x.n, ?_⟩⟩
    have s54 : Step no w13 (fun _ => none) w54 o54 := s50.trans' s54' fun j hj => .inr (by omega)
    have k54 := writeD_ok k31 x.n (secB x.by_ x.short)
    obtain ⟨f1, f2, f3, f4, f5, f6, f7, f8, f9, f10⟩ := arms_law (x := x.by_) (N := x.n) (short := x.short) rfl h6 har hcl hleft.1 hdl
    generalize (writeD d x.n (secB x.by_ x.short)).1 = d2 at *
    generalize (writeD d x.n (secB x.by_ x.short)).2 = j at *
    have next0 : j = 0 → ∃ m72, m72 < m ∧ ∃ (t' : Nat) (d' : DS) (o1 : Own), [Value.int .i64 (d.count + 1), .int .i64 ((t : Int) + 1)] = [.int .i64 d'.count, .int .i64 t'] ∧ m72 + t' = l.length ∧ Step no w13 (fun _ => none) w54 o1 ∧ DG w54 o1 q d' ∧ d'.ok t' ∧ d'.good.length = 6 ∧ d'.armed = true ∧ d'.count + d'.left = n ∧ (d'.down = true → d'.left = 0) :=
      fun h => ⟨m - 1, by omega, t + 1, d2, o54, by rw [f6 h]; rfl, by omega, s54, D54, k54, f2, f1, f3, f5⟩
    have next1 : j ≠ 0 → ∃ m72, m72 < m ∧ ∃ (t' : Nat) (d' : DS) (o1 : Own), [Value.int .i64 d.count, .int .i64 ((t : Int) + 1)] = [.int .i64 d'.count, .int .i64 t'] ∧ m72 + t' = l.length ∧ Step no w13 (fun _ => none) w54 o1 ∧ DG w54 o1 q d' ∧ d'.ok t' ∧ d'.good.length = 6 ∧ d'.armed = true ∧ d'.count + d'.left = n ∧ (d'.down = true → d'.left = 0) :=
      fun h => ⟨m - 1, by omega, t + 1, d2, o54, by rw [f7 h]; rfl, by omega, s54, D54, k54, f2, f1, f3, f5⟩
    have r1 : (-9223372036854775808 : Int) ≤ (t : Int) + 1 := by omega
    have r2 : (t : Int) + 1 < 9223372036854775808 := by omega
    have r3 : (-9223372036854775808 : Int) ≤ d.count + 1 := by omega
    have r4 : d.count + 1 < 9223372036854775808 := by omega
    refine ⟨cell 1 s54 rfl, fun hN0 => ⟨by omega, by omega, x.n, cell 1 s54 rfl, fun hN6 => ⟨by omega, by omega, x.short, cell 3 s54 rfl, ?_⟩, fun hN6 => ?_⟩, fun hN0 => ?_⟩
    all_goals repeat' (first | (intro _) | (with_reducible refine And.intro ?_ ?_))
    all_goals first
      | with_reducible assumption
      | exact next0 (by with_reducible assumption)
      | exact next1 (by with_reducible assumption)
      | (exfalso; with_reducible contradiction)
      | (exfalso; exact absurd (f8 (by with_reducible assumption)) (by with_reducible assumption))
      | (exfalso; have hj := f8 (by with_reducible assumption); omega)
      | (exfalso; exact absurd (f9 (by with_reducible assumption) hN0 hN6 (by with_reducible assumption)) (by with_reducible assumption))
      | (exfalso; exact f10 (by with_reducible assumption) (fun hh => by omega) (by with_reducible assumption))
      | (exfalso; exact f10 (by with_reducible assumption) (fun hh => absurd (hh.2.2.symm.trans (by with_reducible assumption)) (by decide)) (by with_reducible assumption))
      | (exfalso; exact absurd ((‹d.down = true›).symm.trans (by with_reducible assumption)) (by decide))
      | (exfalso; exact absurd ((‹x.short = true›).symm.trans (by with_reducible assumption)) (by decide))
  · refine (dRead_nil 0).mono fun e w132 ⟨he, hw⟩ => ⟨_, _, _, _, he, ?_⟩
    subst hw
    refine (Writes_spec D31).mono fun e w135 ⟨he, hw⟩ => ⟨_, he, fun _ => ⟨fun _ => ?_, fun h => absurd rfl h⟩, fun h => absurd rfl h⟩
    subst hw
    refine (dWrite_nil 0).mono fun e w140 ⟨he, hw⟩ => ⟨_, he, fun _ => ?_, fun h => absurd rfl h⟩
    subst hw
    refine dSync_nil.mono fun e w140 ⟨he, hw⟩ => ⟨_, he, fun _ => ?_, fun h => absurd rfl h⟩
    subst hw
    refine (dArm_nil 1).mono fun e w140 ⟨he, hw⟩ => ⟨_, he, fun _ => ?_, fun h => absurd rfl h⟩
    subst hw
    refine dRestart_nil.mono fun e w140 ⟨he, hw⟩ => ⟨_, he, fun _ => ?_, fun h => absurd rfl h⟩
    subst hw
    refine dDown_nil.mono fun e w140 ⟨he, hw⟩ => ⟨_, he, fun _ => ?_, fun h => (by cases h)⟩
    subst hw
    refine dPending_nil.mono fun e w140 ⟨he, hw⟩ => ⟨_, he, ?_⟩
    subst hw
    refine dWrites_nil.mono fun e w140 ⟨he, hw⟩ => ⟨_, he, by decide, by decide, ?_⟩
    subst hw
    refine dSectors_nil.mono fun e w140 ⟨he, hw⟩ => ⟨_, he, by decide, by decide, fun _ => ?_, fun h => absurd rfl h⟩
    subst hw
    refine dCopy_nil.mono fun e w140 ⟨he, hw⟩ => ⟨_, he, fun _ => ?_, fun h => absurd rfl h⟩
    subst hw
    exact (alive9_spec _).mono fun e w149 ⟨he, X⟩ => ⟨_, he, rfl, fin s31 X⟩
theorem DiskArms_walk (W : World) (n0 : Int) (a1 : Option Addr) (len1 cap1 : Nat) (w0 : (Lit.int .i64 n0).wf = true) (o1 : DOpsQ W [.slice a1 len1 cap1]) :
    Calls Try.prog 6 #[.int .i64 n0, .slice a1 len1 cap1] W (Ret (.bool true) fun w' => Ext no W w') := by
  obtain ⟨_, c1, l, e1, q1, q2, r1, f1⟩ := o1
  cases e1
  exact DiskArms_spec W r1 f1
end
end Go.Proofs.Ytgelicciggjpaaa

