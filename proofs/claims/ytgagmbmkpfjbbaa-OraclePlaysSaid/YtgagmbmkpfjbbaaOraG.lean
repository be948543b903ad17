/- What wrapping and unwrapping do; what a nil oracle says. -/
import Derived.Test.YtgagmbmkpfjbbaaOraF
set_option linter.unusedVariables false
set_option linter.unusedSimpArgs false
namespace Go.Proofs.Ytgagmbmkpfjbbaa
open Go Go.Mx Go.Proofs
section
variable {w w' : World} {g : OG} {S : OS}
theorem Wrap_spec (h : Orc w g S) (hok : S.ok) (hlen : S.used.length < 1000000) (p k : Int) :
    Calls Try.prog 28 #[.pointer (some (blk g.p)), .int .u64 p, .int .u64 k] w (fun e w' => Out8 w w' (wrapOf S p k).1.1 (wrapOf S p k).1.2 e ∧ Orc w' g (wrapOf S p k).2 ∧ Ext g.m w w') := by
  refine (oWrap.ok _ _ _ (R := fun v w' => (∃ a c, v = .tuple #[.slice a (wrapOf S p k).1.1.length c, .int .i64 (wrapOf S p k).1.2] ∧ (wrapOf S p k).1.1.length ≤ c ∧ RowAt w' a (bytesV (wrapOf S p k).1.1) ∧ Fresh w w' a) ∧ Orc w' g (wrapOf S p k).2 ∧ Ext g.m w w') ?_).mono fun e w' ⟨v, he, ⟨a, c, hv, hv2⟩, hw⟩ => ⟨⟨a, c, by rw [he, hv], hv2⟩, hw⟩
  unfold oWrap.M
  rw [Option.isNone_some, cond_false]
  refine ⟨some g.publics, h.pCell fun _ _ => rfl, _, _, look_public h p, ?_⟩
  by_cases hp : (alook S.publics p).isSome
  · rw [hp, Bool.not_true, cond_false]
    refine ⟨some g.keys, h.pCell fun _ _ => rfl, _, look_key h k, ?_⟩
    by_cases hk' : ¬ k ∈ S.keys
    · have hk := hk'
      have : wrapOf S p k = (([], 11), S) := by unfold wrapOf; rw [if_pos hp, if_neg hk]
      rw [this, decide_eq_false hk]
      exact ⟨⟨none, 0, rfl, Nat.le_refl _, RowAt.nil _ _, Fresh.nil⟩, h, Ext.refl _ _⟩
    have hk := Decidable.not_not.1 hk'
    rw [decide_eq_true hk, Bool.not_true, cond_false]
    have hwr : wrapOf S p k = ((boxL (freshOf S).1.toNat 8, 0), { (freshOf S).2 with wrapped := aput S.wrapped (freshOf S).1 (p, k) }) := by unfold wrapOf; rw [if_pos hp, if_pos hk]
    rw [hwr]
    obtain ⟨f1, f2⟩ := freshOf_fit hok hlen
    refine (fresh_spec h hok hlen).mono fun e w13 ⟨he, hO13, hx13⟩ => ⟨(freshOf S).1, he, ?_⟩
    obtain ⟨w16, hu, hm, hext⟩ := hO13.wrapped.update keysU Try.underlying60 (freshOf S).1 (.agg #[.int .u64 p, .int .u64 k])
    have hmm := mput_map (fun q : Int × Int => Value.agg #[.int .u64 q.1, .int .u64 q.2]) (freshOf S).2.wrapped (freshOf S).1 (p, k)
    rw [hmm, (freshOf_frame S).2.2.2.2.2.2.2] at hm
    have hO16 := hO13.set_wrapped (hext _ rfl) hm
    refine ⟨some g.wrapped, hO13.pCell fun _ _ => rfl, w16, hu, ?_⟩
    have hfn : (freshOf S).1 = (((freshOf S).1.toNat : Nat) : Int) := by omega
    have hbx := box_spec (w := w16) (h := (freshOf S).1.toNat) (by omega) (more := 8) (by omega)
    rw [← hfn] at hbx
    refine hbx.mono fun e w29 ⟨a', he, hr, hx29, hf⟩ => ⟨a', _, _, he, ?_⟩
    have hxd := hx13.trans (hext g.m m_wrapped)
    exact ⟨⟨a', _, rfl, Nat.le_refl _, hr, fun ad ha => ⟨Nat.le_trans hxd.size (hf ad ha).1, (hf ad ha).2⟩⟩, hO16.none hx29, hxd.trans hx29.none⟩
  · have : wrapOf S p k = (([], 20), S) := by unfold wrapOf; rw [if_neg hp]
    rw [this, show (alook S.publics p).isSome = false by simpa using hp]
    exact ⟨⟨none, 0, rfl, Nat.le_refl _, RowAt.nil _ _, Fresh.nil⟩, h, Ext.refl _ _⟩

theorem look_public0 (h : Orc w g S) (k : Int) : (Instr.lookup 56 (.map (some g.publics)) (.int .u64 k) false).run Try.prog w = .ok (.int .u64 ((alook S.publics k).getD 0)) w := by
  obtain ⟨i, hi, hz, _⟩ := info_of inf27
  have hl := h.publics.lookup keysU Try.underlying56 hi hz k false
  rw [mlook_map] at hl
  refine hl.trans ?_
  cases alook S.publics k <;> rfl

theorem Unwrap_spec (h : Orc w g S) (k : Int) {xa : Option Addr} {xc : Nat} {x : List UInt8} (hx : RowAt w xa (bytesV x)) (hxl : x.length < 1000000) (hxc : x.length ≤ xc) :
    Calls Try.prog 33 #[.pointer (some (blk g.p)), .int .u64 k, .slice xa x.length xc] w (Gives (.tuple #[.int .u64 (unwrapOf S k x).1, .int .i64 (unwrapOf S k x).2]) fun w' => Ext no w w') := by
  refine (oUnwrap.ok _ _ _ _ _ (R := fun v w' => v = .tuple #[.int .u64 (unwrapOf S k x).1, .int .i64 (unwrapOf S k x).2] ∧ Ext no w w') ?_).mono fun e w' ⟨v, he, hv, hw⟩ => ⟨by rw [he, hv], hw⟩
  unfold oUnwrap.M
  rw [Option.isNone_some, cond_false]
  obtain ⟨i, hi, hz, _⟩ := info_of infWrapped
  have hval : ∀ w1, Ext no w w1 → (Instr.lookup 60 (.map (some g.wrapped)) (.int .u64 (handL x)) true).run Try.prog w1 = .ok (.tuple #[.agg #[.int .u64 ((alook S.wrapped (handL x)).getD (0, 0)).1, .int .u64 ((alook S.wrapped (handL x)).getD (0, 0)).2], .bool (alook S.wrapped (handL x)).isSome]) w1 := fun w1 e1 => by
    have hl := (h.none e1).wrapped.lookup keysU Try.underlying60 hi hz (handL x) true
    rw [mlook_map (fun q : Int × Int => Value.agg #[.int .u64 q.1, .int .u64 q.2])] at hl
    refine hl.trans ?_
    cases alook S.wrapped (handL x) <;> rfl
  refine thenW_in fun w5 h5 => ?_
  have hx5 : Ext no w w5 := by subst h5; exact (Ext.refl _ _).drew
  refine ⟨some g.wrapped, (h.none hx5).pCell fun _ _ => rfl, ?_, ?_⟩
  · refine (handle_spec (hx.no hx5) hxl hxc).mono fun e w10 ⟨he, hw⟩ => ⟨_, he, ?_⟩
    subst hw
    refine ⟨(h.none hx5).pCell fun _ _ => rfl, _, _, _, hval _ hx5, thenW_in fun w15 h15 => ?_⟩
    have hb0 : Blk w15 w10.heap.size 86 [.int .u64 0, .int .u64 0] := by subst h15; exact Blk.new _ _ _
    have hx15 : Ext no w w15 := by subst h15; exact hx5.alloc _
    refine ⟨hval _ hx15, (h.none hx15).pCell fun _ _ => rfl, hb0.cana (i := 0) rfl, thenW_in fun w16 h16 => ?_⟩
    have hb1 := hb0.seta 0 (.int .u64 ((alook S.wrapped (handL x)).getD (0, 0)).1)
    rw [← h16] at hb1
    have hx16 : Ext no w w16 := by subst h16; exact hx15.setCell (.inr (by rw [add_zero]; exact hx5.size)) _
    refine ⟨hb1.cana (i := 1) rfl, thenW_in fun w17 h17 => ?_⟩
    have hb2 := hb1.seta 1 (.int .u64 ((alook S.wrapped (handL x)).getD (0, 0)).2)
    rw [← h17] at hb2
    have hx17 : Ext no w w17 := by subst h17; exact hx16.setCell (.inr (by rw [add_blk]; exact hx5.size)) _
    clear hx15 hb0 hb1 hx16 h15 h16 h17
    have hx15 := hx17
    have hb15 := hb2
    clear hx17 hb2
    have hO15 := h.none hx15
    cases hlk : alook S.wrapped (handL x) with
    | none =>
      rw [hlk] at hb15
      rw [show unwrapOf S k x = (0, 4) by unfold unwrapOf; rw [hlk]]
      exact ⟨rfl, hx15⟩
    | some q =>
      rw [hlk] at hb15
      rw [show (some q : Option (Int × Int)).isSome = true from rfl, Bool.not_true, cond_false]
      by_cases hl : x.length ≠ 16
      · rw [show ((x.length : Int) != 16) = true by simp; omega]
        rw [show unwrapOf S k x = (0, 4) by unfold unwrapOf; rw [hlk]; simp only []; rw [if_pos hl]]
        exact ⟨rfl, hx15⟩
      rw [show ((x.length : Int) != 16) = false by simp; omega, cond_false]
      refine thenW_in fun w20 h20 => ?_
      have hx20 : Ext no w w20 := by subst h20; exact hx15.drew
      have hb20 := hb15.drew
      rw [← h20] at hb20
      refine ⟨some g.publics, (h.none hx20).pCell fun _ _ => rfl, _, hb20.cella (i := 0) rfl, _, look_public0 (h.none hx20) _, ?_⟩
      rw [show ((some q : Option (Int × Int)).getD (0, 0)) = q from rfl]
      by_cases hs : (alook S.publics q.1).getD 0 ≠ k
      · rw [show ((alook S.publics q.1).getD 0 != k) = true by simpa using hs]
        rw [show unwrapOf S k x = (0, 11) by unfold unwrapOf; rw [hlk]; simp only []; rw [if_neg hl, if_pos hs]]
        exact ⟨rfl, hx20⟩
      rw [show ((alook S.publics q.1).getD 0 != k) = false by simpa using hs, cond_false]
      rw [show unwrapOf S k x = (q.2, 0) by unfold unwrapOf; rw [hlk]; simp only []; rw [if_neg hl, if_neg hs]]
      exact ⟨q.2, hb20.cella (i := 1) rfl, rfl, hx20⟩
  · refine thenW_in fun w35 h35 => ?_
    have hb0 : Blk w35 w5.heap.size 86 [.int .u64 0, .int .u64 0] := by subst h35; exact Blk.new _ _ _
    have hx35 : Ext no w w35 := by subst h35; exact hx5.alloc _
    refine ⟨(h.none hx35).pCell fun _ _ => rfl, ?_⟩
    refine (handle_spec (hx.no hx35) hxl hxc).mono fun e w10 ⟨he, hw⟩ => ⟨_, he, ?_⟩
    subst hw
    refine ⟨(h.none hx35).pCell fun _ _ => rfl, _, _, _, hval _ hx35, hb0.cana (i := 0) rfl, thenW_in fun w16 h16 => ?_⟩
    have hb1 := hb0.seta 0 (.int .u64 ((alook S.wrapped (handL x)).getD (0, 0)).1)
    rw [← h16] at hb1
    have hx16 : Ext no w w16 := by subst h16; exact hx35.setCell (.inr (by rw [add_zero]; exact hx5.size)) _
    refine ⟨hb1.cana (i := 1) rfl, thenW_in fun w17 h17 => ?_⟩
    have hb2 := hb1.seta 1 (.int .u64 ((alook S.wrapped (handL x)).getD (0, 0)).2)
    rw [← h17] at hb2
    have hx17 : Ext no w w17 := by subst h17; exact hx16.setCell (.inr (by rw [add_blk]; exact hx5.size)) _
    clear hb0 hb1 hx16 h35 h16 h17 hx35
    have hx15 := hx17
    have hb15 := hb2
    clear hx17 hb2
    have hO15 := h.none hx15
    cases hlk : alook S.wrapped (handL x) with
    | none =>
      rw [hlk] at hb15
      rw [show unwrapOf S k x = (0, 4) by unfold unwrapOf; rw [hlk]]
      exact ⟨rfl, hx15⟩
    | some q =>
      rw [hlk] at hb15
      rw [show (some q : Option (Int × Int)).isSome = true from rfl, Bool.not_true, cond_false]
      by_cases hl : x.length ≠ 16
      · rw [show ((x.length : Int) != 16) = true by simp; omega]
        rw [show unwrapOf S k x = (0, 4) by unfold unwrapOf; rw [hlk]; simp only []; rw [if_pos hl]]
        exact ⟨rfl, hx15⟩
      rw [show ((x.length : Int) != 16) = false by simp; omega, cond_false]
      refine thenW_in fun w20 h20 => ?_
      have hx20 : Ext no w w20 := by subst h20; exact hx15.drew
      have hb20 := hb15.drew
      rw [← h20] at hb20
      refine ⟨some g.publics, (h.none hx20).pCell fun _ _ => rfl, _, hb20.cella (i := 0) rfl, _, look_public0 (h.none hx20) _, ?_⟩
      rw [show ((some q : Option (Int × Int)).getD (0, 0)) = q from rfl]
      by_cases hs : (alook S.publics q.1).getD 0 ≠ k
      · rw [show ((alook S.publics q.1).getD 0 != k) = true by simpa using hs]
        rw [show unwrapOf S k x = (0, 11) by unfold unwrapOf; rw [hlk]; simp only []; rw [if_neg hl, if_pos hs]]
        exact ⟨rfl, hx20⟩
      rw [show ((alook S.publics q.1).getD 0 != k) = false by simpa using hs, cond_false]
      rw [show unwrapOf S k x = (q.2, 0) by unfold unwrapOf; rw [hlk]; simp only []; rw [if_neg hl, if_neg hs]]
      exact ⟨q.2, hb20.cella (i := 1) rfl, rfl, hx20⟩

theorem nil_sign (k : Int) {a : Option Addr} {n c : Nat} : Calls Try.prog 11 #[.pointer none, .int .u64 k, .slice a n c] w (Gives (.tuple #[.int .u64 0, .int .i64 23]) fun w' => w' = w) := by
  refine (oSign.ok _ _ _ _ _ (R := fun v w' => v = .tuple #[.int .u64 0, .int .i64 23] ∧ w' = w) ?_).mono fun e w' ⟨v, he, hv, hw⟩ => ⟨by rw [he, hv], hw⟩
  exact ⟨rfl, rfl⟩
theorem nil_open (k : Int) {a b : Option Addr} {n c m d : Nat} : Calls Try.prog 30 #[.pointer none, .int .u64 k, .slice b m d, .slice a n c] w (Gives (.tuple #[.slice none 0 0, .int .i64 23]) fun w' => w' = w) := by
  refine (oOpen.ok _ _ _ _ _ _ _ _ (R := fun v w' => v = .tuple #[.slice none 0 0, .int .i64 23] ∧ w' = w) ?_).mono fun e w' ⟨v, he, hv, hw⟩ => ⟨by rw [he, hv], hw⟩
  exact ⟨rfl, rfl⟩
theorem nil_hash {a : Option Addr} {n c : Nat} : Calls Try.prog 8 #[.pointer none, .slice a n c] w (Gives (.int .u64 0) fun w' => w' = w) := by
  refine (oHash.ok _ _ _ _ (R := fun v w' => v = .int .u64 0 ∧ w' = w) ?_).mono fun e w' ⟨v, he, hv, hw⟩ => ⟨by rw [he, hv], hw⟩
  exact ⟨rfl, rfl⟩
theorem nil_used : Calls Try.prog 15 #[.pointer none] w (Gives (.int .i64 0) fun w' => w' = w) := by
  refine (oUsed.ok _ (R := fun v w' => v = .int .i64 0 ∧ w' = w) ?_).mono fun e w' ⟨v, he, hv, hw⟩ => ⟨by rw [he, hv], hw⟩
  exact ⟨rfl, rfl⟩
end
end Go.Proofs.Ytgagmbmkpfjbbaa
