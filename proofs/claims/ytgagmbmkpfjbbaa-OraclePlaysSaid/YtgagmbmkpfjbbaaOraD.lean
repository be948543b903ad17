/- What the oracle's pairs and signatures do. -/
import Derived.Test.YtgagmbmkpfjbbaaOraC
import Derived.Test.YtgagmbmkpfjbbaaMxK
set_option linter.unusedVariables false
set_option linter.unusedSimpArgs false
namespace Go.Proofs.Ytgagmbmkpfjbbaa
open Go Go.Mx Go.Proofs
theorem two_signed : Two Try.prog 65 (.int .u64) .string := Two.mk' Try.underlying65 (by kernel_rfl) Try.underlying27 Try.underlying9
theorem keysG : Keys Try.prog 65 signedV := keys_int_str two_signed
theorem infSigned : (Try.prog.info? 65).map (fun i => (i.zero, i.size, i.bytes)) = some (some (.agg #[.int .u64 0, .string ByteArray.empty]), 2, 24) := by kernel_rfl

section
variable {w w' : World} {g : OG} {S : OS}
theorem m_signs : g.m g.signs := by simp [OG.m, OG.list]
theorem m_signed : g.m g.signed := by simp [OG.m, OG.list]
theorem m_sealed : g.m g.sealed := by simp [OG.m, OG.list]
theorem m_wrapped : g.m g.wrapped := by simp [OG.m, OG.list]

theorem Pair_spec (h : Orc w g S) (hok : S.ok) (hlen : S.used.length + 1 < 1000000) :
    Calls Try.prog 10 #[.pointer (some (blk g.p))] w (Gives (.tuple #[u64V (pairOf S).1.1, u64V (pairOf S).1.2]) fun w' => Orc w' g (pairOf S).2 ∧ Ext g.m w w') := by
  refine (oPair.ok _ (R := fun v w' => v = .tuple #[u64V (pairOf S).1.1, u64V (pairOf S).1.2] ∧ Orc w' g (pairOf S).2 ∧ Ext g.m w w') ?_).mono fun e w' ⟨v, he, hv, hw⟩ => ⟨by rw [he, hv], hw⟩
  unfold oPair.M
  refine (fresh_spec h hok (by omega)).mono fun e w4 ⟨he, hO, hx⟩ => ⟨(freshOf S).1, he, ?_⟩
  obtain ⟨w7, hu, hm, hext⟩ := hO.secrets.update keysU Try.underlying54 (freshOf S).1 (.bool true)
  rw [(freshOf_frame S).2.2.1, mput_badd] at hm
  have hO7 := hO.set_secrets (hext _ rfl) hm
  obtain ⟨_, _, h3, h4⟩ := freshOf_spec hok
  refine ⟨some g.secrets, hO.pCell fun _ _ => rfl, w7, hu, ?_⟩
  refine (fresh_spec hO7 h4 (by show (freshOf S).2.used.length < _; rw [h3]; simp; omega)).mono fun e w10 ⟨he, hO10, hx10⟩ => ⟨_, he, ?_⟩
  obtain ⟨w13, hu13, hm13, hext13⟩ := hO10.publics.update keysU Try.underlying56 (pairOf S).1.2 (u64V (freshOf S).1)
  rw [mput_map, (freshOf_frame _).2.2.2.1] at hm13
  rw [show ({ (freshOf S).2 with secrets := badd S.secrets (freshOf S).1 } : OS).publics = S.publics from (freshOf_frame S).2.2.2.1] at hm13
  exact ⟨some g.publics, hO10.pCell fun _ _ => rfl, w13, hu13, rfl, hO10.set_publics (hext13 _ rfl) hm13, ((hx.trans (hext _ m_secrets)).trans hx10).trans (hext13 _ m_publics)⟩

theorem look_secret (h : Orc w g S) (k : Int) : (Instr.lookup 54 (.map (some g.secrets)) (.int .u64 k) false).run Try.prog w = .ok (.bool (decide (k ∈ S.secrets))) w := by
  obtain ⟨i, hi, hz, _⟩ := info_of inf4
  have hl := h.secrets.lookup keysU Try.underlying54 hi hz k false
  rw [mlook_bset] at hl
  refine hl.trans ?_
  by_cases hk : k ∈ S.secrets
  · simp [hk]
  · simp [hk]
theorem look_key (h : Orc w g S) (k : Int) : (Instr.lookup 54 (.map (some g.keys)) (.int .u64 k) false).run Try.prog w = .ok (.bool (decide (k ∈ S.keys))) w := by
  obtain ⟨i, hi, hz, _⟩ := info_of inf4
  have hl := h.keys.lookup keysU Try.underlying54 hi hz k false
  rw [mlook_bset] at hl
  refine hl.trans ?_
  by_cases hk : k ∈ S.keys
  · simp [hk]
  · simp [hk]
theorem look_public (h : Orc w g S) (k : Int) : (Instr.lookup 56 (.map (some g.publics)) (.int .u64 k) true).run Try.prog w = .ok (.tuple #[.int .u64 ((alook S.publics k).getD 0), .bool (alook S.publics k).isSome]) w := by
  obtain ⟨i, hi, hz, _⟩ := info_of inf27
  have hl := h.publics.lookup keysU Try.underlying56 hi hz k true
  rw [mlook_map] at hl
  refine hl.trans ?_
  cases alook S.publics k <;> rfl

theorem Sign_spec (h : Orc w g S) (hok : S.ok) (hlen : S.used.length < 1000000) (k : Int) {a : Option Addr} {c : Nat} {bs : List UInt8} (hr : RowAt w a (bytesV bs)) (ho : bytesV bs ≠ [] → Out g.m a) :
    Calls Try.prog 11 #[.pointer (some (blk g.p)), .int .u64 k, .slice a bs.length c] w (Gives (.tuple #[u64V (signOf S k bs).1.1, .int .i64 (if (signOf S k bs).1.2 then 0 else 11)]) fun w' => Orc w' g (signOf S k bs).2 ∧ Ext g.m w w') := by
  refine (oSign.ok _ _ _ _ _ (R := fun v w' => v = .tuple #[u64V (signOf S k bs).1.1, .int .i64 (if (signOf S k bs).1.2 then 0 else 11)] ∧ Orc w' g (signOf S k bs).2 ∧ Ext g.m w w') ?_).mono fun e w' ⟨v, he, hv, hw⟩ => ⟨by rw [he, hv], hw⟩
  unfold oSign.M
  rw [Option.isNone_some, cond_false]
  refine ⟨some g.secrets, h.pCell fun _ _ => rfl, _, look_secret h k, ?_⟩
  by_cases hk' : ¬ k ∈ S.secrets
  · have hk := hk'
    have : signOf S k bs = ((0, false), S) := by unfold signOf; rw [if_neg hk]
    rw [this, decide_eq_false hk]
    exact ⟨rfl, h, Ext.refl _ _⟩
  have hk := Decidable.not_not.1 hk'
  rw [decide_eq_true hk, Bool.not_true, cond_false]
  have hcv := conv_str (P := Try.prog) (c := c) Try.underlying23 Try.underlying5 Try.underlying9 hr
  refine ⟨_, hcv, thenW_in fun w8 h8 => ?_⟩
  have hb8 : Blk w8 w.heap.size 65 [.int .u64 0, .string ByteArray.empty] := by subst h8; exact Blk.new _ _ _
  have e8 : Ext no w w8 := by subst h8; exact (Ext.refl _ _).alloc _
  refine ⟨hb8.cana (i := 0) rfl, thenW_in fun w9 h9 => ?_⟩
  have hb9 : Blk w9 w.heap.size 65 [.int .u64 k, .string ByteArray.empty] := by subst h9; exact hb8.seta 0 _
  have e9 : Ext no w w9 := by subst h9; exact e8.setCell (.inr (by rw [add_zero]; exact Nat.le_refl _)) _
  refine ⟨hb9.cana (i := 1) rfl, thenW_in fun w10 h10 => ?_⟩
  have hb10 : Blk w10 w.heap.size 65 [.int .u64 k, strV bs] := by subst h10; exact hb9.seta 1 _
  have e10 : Ext no w w10 := by subst h10; exact e9.setCell (.inr (by rw [add_blk]; exact Nat.le_refl _)) _
  refine thenW_in fun w11 h11 => ?_
  have hb11 : Blk w11 w.heap.size 65 [.int .u64 k, strV bs] := by subst h11; exact hb10
  have e11 : Ext no w w11 := by subst h11; exact e10.drew
  have hO11 := h.none e11
  have cells : ∀ w', Blk w' w.heap.size 65 [.int .u64 k, strV bs] → cellsAt w' (blk w.heap.size) [.int .u64 k, strV bs] 0 := fun w' hb => ⟨hb.cella rfl, hb.cella rfl, trivial⟩
  obtain ⟨i, hi, hz, _⟩ := info_of inf27
  have hl := hO11.signs.lookup keysG Try.underlying57 hi hz (k, bs) true
  rw [mlook_map] at hl
  cases hs : alook S.signs (k, bs) with
  | some x =>
    rw [hs] at hl
    refine ⟨some g.signs, hO11.pCell fun _ _ => rfl, k, _, cells _ hb11, x, true, hl, ?_⟩
    have : signOf S k bs = ((x, true), S) := by unfold signOf; rw [if_pos hk, hs]
    rw [this]
    exact ⟨rfl, hO11, e11.none⟩
  | none =>
    rw [hs] at hl
    refine ⟨some g.signs, hO11.pCell fun _ _ => rfl, k, _, cells _ hb11, 0, false, hl, ?_⟩
    have hsg : signOf S k bs = (((freshOf S).1, true), { (freshOf S).2 with signs := aput S.signs (k, bs) (freshOf S).1, signed := aput S.signed (freshOf S).1 (k, bs) }) := by unfold signOf; rw [if_pos hk, hs]
    have hnm : ¬ g.m w.heap.size := fun hm => by
      have : ∀ b, g.m b → b < w.heap.size := fun b hb => by
        obtain ⟨da, dc, hp, _⟩ := h.st
        obtain ⟨lv, hse, _⟩ := h.sealed
        simp only [OG.m, OG.list, List.mem_cons, List.not_mem_nil, or_false] at hb
        rcases hb with rfl | rfl | rfl | rfl | rfl | rfl | rfl | rfl | rfl | rfl
        · exact hp.lt
        · exact h.used.lt
        · exact h.hashes.lt
        · exact h.keys.lt
        · exact h.secrets.lt
        · exact h.publics.lt
        · exact h.signs.lt
        · exact h.signed.lt
        · exact hse.lt
        · exact h.wrapped.lt
      exact absurd (this _ hm) (Nat.lt_irrefl _)
    refine (fresh_spec hO11 hok hlen).mono fun e w20 ⟨he, hO20, hx20⟩ => ⟨(freshOf S).1, he, thenW_in fun w21 h21 => ?_⟩
    have hx21 : Ext no w20 w21 := by subst h21; exact (Ext.refl _ _).drew
    have hO21 := hO20.none hx21
    have hb21 := (hb11.ext hx20 hnm).ext hx21 id
    obtain ⟨n, w32, hme, hpend, hext32⟩ := hO21.signs.entry keysG Try.underlying57 hi hz (k, bs)
    obtain ⟨w33, hst, hm33, hext33⟩ := hpend.store (t := 57) (u64V (freshOf S).1)
    have hmm : mput (mput ((freshOf S).2.signs.map fun p => (p.1, u64V p.2)) (k, bs) ((mlook ((freshOf S).2.signs.map fun p => (p.1, u64V p.2)) (k, bs)).getD (.int .u64 0))) (k, bs) (u64V (freshOf S).1) = (aput S.signs (k, bs) (freshOf S).1).map fun p => (p.1, u64V p.2) := by
      rw [mput_mput, mput_map, (freshOf_frame S).2.2.2.2.1]
    rw [hmm] at hm33
    have x33 : ∀ m : Nat → Prop, m g.signs → Ext m w21 w33 := fun m hm => (hext32 m hm).trans (hext33 m hm)
    have hO33 := hO21.set_signs (x33 _ rfl) hm33
    have hns : ¬ (w.heap.size = g.signs) := fun e => hnm (e ▸ m_signs)
    have hb32 := hb21.ext (hext32 (fun b => b = g.signs) rfl) hns
    have hb33 := hb21.ext (x33 (fun b => b = g.signs) rfl) hns
    obtain ⟨i2, hi2, hz2, _⟩ := info_of infSigned
    obtain ⟨n2, w37, hme2, hpend2, hext37⟩ := hO33.signed.entry keysU Try.underlying58 hi2 hz2 (freshOf S).1
    obtain ⟨w38, hst2, hm38, hext38⟩ := hpend2.store (t := 58) (signedV (k, bs))
    have hold : ∃ v t, (mlook ((freshOf S).2.signed.map fun p => (p.1, signedV p.2)) (freshOf S).1).getD (.agg #[.int .u64 0, .string ByteArray.empty]) = .agg #[.int .u64 v, .string t] := by
      rw [mlook_map]
      cases alook (freshOf S).2.signed (freshOf S).1 with
      | none => exact ⟨0, _, rfl⟩
      | some q => exact ⟨q.1, _, rfl⟩
    obtain ⟨ov, ot, hold⟩ := hold
    have hme2' := hme2
    rw [show ({ (freshOf S).2 with signs := aput S.signs (k, bs) (freshOf S).1 } : OS).signed = (freshOf S).2.signed from rfl, hold] at hme2'
    rw [mput_mput, mput_map, show ({ (freshOf S).2 with signs := aput S.signs (k, bs) (freshOf S).1 } : OS).signed = S.signed from (freshOf_frame S).2.2.2.2.2.1] at hm38
    have x38 : ∀ m : Nat → Prop, m g.signed → Ext m w33 w38 := fun m hm => (hext37 m hm).trans (hext38 m hm)
    have hb37 := hb33.ext (hext37 (fun b => b = g.signed) rfl) (fun e => hnm (e ▸ m_signed))
    have hold1 : ∃ v, (mlook ((freshOf S).2.signs.map fun p => (p.1, u64V p.2)) (k, bs)).getD (.int .u64 0) = .int .u64 v := by
      rw [mlook_map]
      cases alook (freshOf S).2.signs (k, bs) with
      | none => exact ⟨0, rfl⟩
      | some q => exact ⟨q, rfl⟩
    obtain ⟨ov1, hold1⟩ := hold1
    rw [hold1] at hme
    refine ⟨some g.signs, hO21.pCell fun _ _ => rfl, k, _, cells _ hb21, some g.signed, hO21.pCell fun _ _ => rfl, k, _, cells _ hb21, ov1, n, w32, hme, cells _ hb32, w33, hst, cells _ hb33, ov, ot, n2, w37, hme2', cells _ hb37, w38, hst2, ?_⟩
    rw [hsg]
    refine ⟨rfl, hO33.set_signed (x38 _ rfl) hm38, ?_⟩
    exact (((e11.none.trans hx20).trans hx21.none).trans (x33 _ m_signs)).trans (x38 _ m_signed)

theorem look_signed (h : Orc w g S) (k : Int) : (Instr.lookup 58 (.map (some g.signed)) (.int .u64 k) true).run Try.prog w =
    .ok (.tuple #[signedV ((alook S.signed k).getD (0, [])), .bool (alook S.signed k).isSome]) w := by
  obtain ⟨i, hi, hz, _⟩ := info_of infSigned
  have hl := h.signed.lookup keysU Try.underlying58 hi hz k true
  rw [mlook_map] at hl
  refine hl.trans ?_
  cases alook S.signed k <;> rfl

theorem Verify_spec (h : Orc w g S) (p x : Int) {a : Option Addr} {c : Nat} {bs : List UInt8} (hr : RowAt w a (bytesV bs)) :
    Calls Try.prog 12 #[.pointer (some (blk g.p)), .int .u64 p, .slice a bs.length c, .int .u64 x] w (Gives (.bool (verifyOf S p bs x)) fun w' => Ext no w w') := by
  refine (oVerify.ok _ _ _ _ _ _ (R := fun v w' => v = .bool (verifyOf S p bs x) ∧ Ext no w w') ?_).mono fun e w' ⟨v, he, hv, hw⟩ => ⟨by rw [he, hv], hw⟩
  unfold oVerify.M
  rw [Option.isNone_some, cond_false]
  refine ⟨some g.publics, h.pCell fun _ _ => rfl, _, _, look_public h p, some g.signed, h.pCell fun _ _ => rfl, _, _, _, look_signed h x, thenW_in fun w14 h14 => ?_⟩
  have hb14 : Blk w14 w.heap.size 65 [.int .u64 0, .string ByteArray.empty] := by subst h14; exact Blk.new _ _ _
  have e14 : Ext no w w14 := by subst h14; exact (Ext.refl _ _).alloc _
  refine ⟨hb14.cana (i := 0) rfl, thenW_in fun w15 h15 => ?_⟩
  have hb15 : Blk w15 w.heap.size 65 [.int .u64 ((alook S.signed x).getD (0, [])).1, .string ByteArray.empty] := by subst h15; exact hb14.seta 0 _
  have e15 : Ext no w w15 := by subst h15; exact e14.setCell (.inr (by rw [add_zero]; exact Nat.le_refl _)) _
  refine ⟨hb15.cana (i := 1) rfl, thenW_in fun w16 h16 => ?_⟩
  have hb16 : Blk w16 w.heap.size 65 [.int .u64 ((alook S.signed x).getD (0, [])).1, strV ((alook S.signed x).getD (0, [])).2] := by subst h16; exact hb15.seta 1 _
  have e16 : Ext no w w16 := by subst h16; exact e15.setCell (.inr (by rw [add_blk]; exact Nat.le_refl _)) _
  unfold verifyOf
  cases hp : alook S.publics p with
  | none => exact ⟨rfl, e16⟩
  | some s =>
    cases hq : alook S.signed x with
    | none => exact ⟨rfl, e16⟩
    | some q =>
      rw [hq] at hb16
      have hcv := conv_str (P := Try.prog) (c := c) Try.underlying23 Try.underlying5 Try.underlying9 (hr.no e16)
      refine ⟨_, _, ⟨hb16.cella rfl, hb16.cella rfl, trivial⟩, _, hcv, decide (q = (s, bs)), ?_, rfl, e16⟩
      rw [run_eql_struct]
      have := equal_two two_signed w16 (fun n t ht => equal_int' (a := q.1) (b := s) n t ht) (fun n t ht => equal_str' (a := q.2) (b := bs) n t ht) 9998
      simp only [Nat.reduceAdd] at this
      simp only [strV, Option.getD_some] at this ⊢
      rw [this]
      have hd : (q.1 == s && decide (q.2 = bs)) = decide (q = (s, bs)) := by
        rw [Bool.eq_iff_iff]
        simp [Prod.ext_iff]
      rw [hd]
      rfl
end
end Go.Proofs.Ytgagmbmkpfjbbaa
