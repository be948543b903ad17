/- What sealing, opening, wrapping and unwrapping do. -/
import Derived.Test.YtgagmbmkpfjbbaaOraE
set_option linter.unusedVariables false
set_option linter.unusedSimpArgs false
namespace Go.Proofs.Ytgagmbmkpfjbbaa
open Go Go.Mx Go.Proofs

/-- Seal: the bytes, and what is said. -/
def sealOf (S : OS) (k : Int) (b p : List UInt8) : (List UInt8 × Int) × OS :=
  if k ∈ S.keys then
    if classOf p.length < 0 then (([], 3), S)
    else ((boxL (freshOf S).1.toNat (sizeN (classOf p.length)), 0), { (freshOf S).2 with sealed := aput S.sealed (freshOf S).1 ⟨k, b, p⟩ })
  else (([], 11), S)
def openOf (S : OS) (k : Int) (b x : List UInt8) : List UInt8 × Int :=
  match alook S.sealed (handL x) with
  | none => ([], 4)
  | some s => if x.length ≠ 8 + sizeN (classOf s.plain.length) then ([], 4) else if s.key ≠ k then ([], 11) else if s.bound ≠ b then ([], 5) else (s.plain, 0)
def wrapOf (S : OS) (p k : Int) : (List UInt8 × Int) × OS :=
  if (alook S.publics p).isSome then
    if k ∈ S.keys then ((boxL (freshOf S).1.toNat 8, 0), { (freshOf S).2 with wrapped := aput S.wrapped (freshOf S).1 (p, k) })
    else (([], 11), S)
  else (([], 20), S)
def unwrapOf (S : OS) (s : Int) (x : List UInt8) : Int × Int :=
  match alook S.wrapped (handL x) with
  | none => (0, 4)
  | some q => if x.length ≠ 16 then (0, 4) else if (alook S.publics q.1).getD 0 ≠ s then (0, 11) else (q.2, 0)

/-- bytes that are handed out. -/
def Out8 (w w' : World) (bs : List UInt8) (k : Int) (e : Ending) : Prop := ∃ a c, e = .returned (.tuple #[.slice a bs.length c, .int .i64 k]) ∧ bs.length ≤ c ∧ RowAt w' a (bytesV bs) ∧ Fresh w w' a

theorem infSealed : (Try.prog.info? 82).map (fun i => (i.zero, i.size, i.bytes)) = some (some (.agg #[.int .u64 0, .slice none 0 0, .slice none 0 0]), 3, 56) := by kernel_rfl
theorem infWrapped : (Try.prog.info? 86).map (fun i => (i.zero, i.size, i.bytes)) = some (some (.agg #[.int .u64 0, .int .u64 0]), 2, 16) := by kernel_rfl

theorem sealOf_ok {S : OS} (h : S.ok) (k : Int) (b p : List UInt8) : (sealOf S k b p).2.ok ∧ (sealOf S k b p).2.used.length ≤ S.used.length + 1 := by
  unfold sealOf
  split
  · split
    · exact ⟨h, Nat.le_succ _⟩
    · obtain ⟨_, _, h3, h4⟩ := freshOf_spec h
      exact ⟨h4, by show (freshOf S).2.used.length ≤ _; rw [h3]; simp⟩
  · exact ⟨h, Nat.le_succ _⟩
theorem wrapOf_ok {S : OS} (h : S.ok) (p k : Int) : (wrapOf S p k).2.ok ∧ (wrapOf S p k).2.used.length ≤ S.used.length + 1 := by
  unfold wrapOf
  split
  · split
    · obtain ⟨_, _, h3, h4⟩ := freshOf_spec h
      exact ⟨h4, by show (freshOf S).2.used.length ≤ _; rw [h3]; simp⟩
    · exact ⟨h, Nat.le_succ _⟩
  · exact ⟨h, Nat.le_succ _⟩

section
variable {w w' : World} {g : OG} {S : OS}
theorem Fresh.nil {w w' : World} : Fresh w w' none := fun ad ha => by cases ha

theorem Seal_spec (h : Orc w g S) (hok : S.ok) (hlen : S.used.length < 1000000) (k : Int) {ba pa : Option Addr} {bc pc : Nat} {b p : List UInt8} (hb : RowAt w ba (bytesV b)) (hp : RowAt w pa (bytesV p)) (hbo : bytesV b ≠ [] → Out g.m ba) (hpo : bytesV p ≠ [] → Out g.m pa)
    (hbl : b.length ≤ 1000000) (hpl : p.length ≤ 1000000) :
    Calls Try.prog 26 #[.pointer (some (blk g.p)), .int .u64 k, .slice ba b.length bc, .slice pa p.length pc] w (fun e w' => Out8 w w' (sealOf S k b p).1.1 (sealOf S k b p).1.2 e ∧ Orc w' g (sealOf S k b p).2 ∧ Ext g.m w w') := by
  refine (oSeal.ok _ _ _ _ _ _ _ _ (R := fun v w' => (∃ a c, v = .tuple #[.slice a (sealOf S k b p).1.1.length c, .int .i64 (sealOf S k b p).1.2] ∧ (sealOf S k b p).1.1.length ≤ c ∧ RowAt w' a (bytesV (sealOf S k b p).1.1) ∧ Fresh w w' a) ∧ Orc w' g (sealOf S k b p).2 ∧ Ext g.m w w') ?_).mono fun e w' ⟨v, he, ⟨a, c, hv, hv2⟩, hw⟩ => ⟨⟨a, c, by rw [he, hv], hv2⟩, hw⟩
  unfold oSeal.M
  refine (Class_spec p.length).mono fun e w7 ⟨he, hw⟩ => ⟨_, he, ?_⟩
  subst hw
  rw [Option.isNone_some, cond_false]
  refine ⟨some g.keys, h.pCell fun _ _ => rfl, _, look_key h k, ?_⟩
  by_cases hk' : ¬ k ∈ S.keys
  · have hk := hk'
    have : sealOf S k b p = (([], 11), S) := by unfold sealOf; rw [if_neg hk]
    rw [this, decide_eq_false hk]
    exact ⟨⟨none, 0, rfl, Nat.le_refl _, RowAt.nil _ _, Fresh.nil⟩, h, Ext.refl _ _⟩
  have hk := Decidable.not_not.1 hk'
  rw [decide_eq_true hk, Bool.not_true, cond_false]
  by_cases hc : classOf p.length < 0
  · have : sealOf S k b p = (([], 3), S) := by unfold sealOf; rw [if_pos hk, if_pos hc]
    rw [this, decide_eq_true hc]
    exact ⟨⟨none, 0, rfl, Nat.le_refl _, RowAt.nil _ _, Fresh.nil⟩, h, Ext.refl _ _⟩
  rw [decide_eq_false hc, cond_false]
  have hse : sealOf S k b p = ((boxL (freshOf S).1.toNat (sizeN (classOf p.length)), 0), { (freshOf S).2 with sealed := aput S.sealed (freshOf S).1 ⟨k, b, p⟩ }) := by unfold sealOf; rw [if_pos hk, if_neg hc]
  rw [hse]
  obtain ⟨f1, f2⟩ := freshOf_fit hok hlen
  refine (fresh_spec h hok hlen).mono fun e w13 ⟨he, hO13, hx13⟩ => ⟨(freshOf S).1, he, thenW_in fun w14 h14 => ?_⟩
  have hx14 : Ext no w13 w14 := by subst h14; exact (Ext.refl _ _).drew
  have hO14 := hO13.none hx14
  have hxa := hx13.trans hx14.none
  refine ⟨some g.sealed, hO14.pCell fun _ _ => rfl, ?_⟩
  refine (cloneB_spec (c := bc) (hb.ext' hxa hbo) hbl).mono fun e w19 ⟨ca, cc, he, hcl, hcr, hx19, hcf⟩ => ⟨ca, b.length, cc, he, ?_⟩
  have hO19 := hO14.none hx19
  refine ⟨hO19.pCell fun _ _ => rfl, ?_⟩
  have hxb := hxa.trans hx19.none
  refine (cloneB_spec (c := pc) (hp.ext' hxb hpo) hpl).mono fun e w22 ⟨da, dc, he, hdl, hdr, hx22, hdf⟩ => ⟨da, p.length, dc, he, ?_⟩
  have hO22 := hO19.none hx22
  refine ⟨hO22.pCell fun _ _ => rfl, ?_⟩
  have hxc := hxb.trans hx22.none
  obtain ⟨lv, hm, hsl⟩ := hO22.sealed
  obtain ⟨w23, hu, hm23, hext⟩ := hm.update keysU Try.underlying59 (freshOf S).1 (.agg #[.int .u64 k, .slice ca b.length cc, .slice da p.length dc])
  have hgc : ∀ q, g.M q → q < w14.heap.size := hO14.ltM
  have hgd : ∀ q, g.M q → q < w19.heap.size := hO19.ltM
  have hoc : Out g.M ca := hcf.out fun q hq => .inl (hgc q hq)
  have hod : Out g.M da := hdf.out fun q hq => .inl (hgd q hq)
  have xu := hext (fun q => q = g.sealed) rfl
  have hsub : ∀ q, (fun q => q = g.sealed) q → g.M q := one_sub (by simp [OG.list])
  have hoc1 : Out (fun q => q = g.sealed) ca := fun ad ha hq => hoc ad ha (hsub _ hq)
  have hod1 : Out (fun q => q = g.sealed) da := fun ad ha hq => hod ad ha (hsub _ hq)
  have hnew : SealedV w23 g.M ⟨k, b, p⟩ (.agg #[.int .u64 k, .slice ca b.length cc, .slice da p.length dc]) :=
    ⟨ca, cc, da, dc, rfl, (hcr.no hx22).ext xu hoc1, fun _ => hoc, hdr.ext xu hod1, fun _ => hod⟩
  have hsl23 := hsl.ext xu hsub
  have hO23 := hO22.set_sealed xu hm23 (SealedL.put hnew hsl23)
  rw [show (freshOf S).2.sealed = S.sealed from (freshOf_frame S).2.2.2.2.2.2.1] at hO23
  refine ⟨w23, hu, ?_⟩
  refine (Size_spec _).mono fun e w26 ⟨he, hw⟩ => ⟨_, he, ?_⟩
  subst hw
  have hsz := sizeN_le (classOf p.length)
  have hfn : (freshOf S).1 = (((freshOf S).1.toNat : Nat) : Int) := by omega
  have hbx := box_spec (w := w26) (h := (freshOf S).1.toNat) (by omega) (more := sizeN (classOf p.length)) (by omega)
  rw [← hfn] at hbx
  refine hbx.mono fun e w29 ⟨a', he, hr, hx29, hf⟩ => ⟨a', _, _, he, ?_⟩
  have hxd := hxc.trans (hext g.m m_sealed)
  exact ⟨⟨a', _, rfl, Nat.le_refl _, hr, fun ad ha => ⟨Nat.le_trans hxd.size (hf ad ha).1, (hf ad ha).2⟩⟩, hO23.none hx29, hxd.trans hx29.none⟩

theorem Open_spec (h : Orc w g S) (k : Int) {ba xa : Option Addr} {bc xc : Nat} {b x : List UInt8} (hb : RowAt w ba (bytesV b)) (hx : RowAt w xa (bytesV x)) (hxl : x.length < 1000000) (hxc : x.length ≤ xc) (hpls : ∀ s, alook S.sealed (handL x) = some s → s.plain.length ≤ 1000000) :
    Calls Try.prog 30 #[.pointer (some (blk g.p)), .int .u64 k, .slice ba b.length bc, .slice xa x.length xc] w (fun e w' => Out8 w w' (openOf S k b x).1 (openOf S k b x).2 e ∧ Ext no w w') := by
  refine (oOpen.ok _ _ _ _ _ _ _ _ (R := fun v w' => (∃ a c, v = .tuple #[.slice a (openOf S k b x).1.length c, .int .i64 (openOf S k b x).2] ∧ (openOf S k b x).1.length ≤ c ∧ RowAt w' a (bytesV (openOf S k b x).1) ∧ Fresh w w' a) ∧ Ext no w w') ?_).mono fun e w' ⟨v, he, ⟨a, c, hv, hv2⟩, hw⟩ => ⟨⟨a, c, by rw [he, hv], hv2⟩, hw⟩
  unfold oOpen.M
  rw [Option.isNone_some, cond_false]
  -- what the table says
  obtain ⟨i, hi, hz, _⟩ := info_of infSealed
  obtain ⟨v, bba, bbc, ppa, ppc, hlk, hval, hrows⟩ : ∃ (v : Option Sealed) (bba : Option Addr) (bbc : Nat) (ppa : Option Addr) (ppc : Nat), alook S.sealed (handL x) = v ∧
      (∀ w1, Ext no w w1 → (Instr.lookup 59 (.map (some g.sealed)) (.int .u64 (handL x)) true).run Try.prog w1 = .ok (.tuple #[.agg #[.int .u64 ((v.map Sealed.key).getD 0), .slice bba ((v.map fun s => s.bound.length).getD 0) bbc, .slice ppa ((v.map fun s => s.plain.length).getD 0) ppc], .bool v.isSome]) w1) ∧
      (∀ s, v = some s → RowAt w bba (bytesV s.bound) ∧ RowAt w ppa (bytesV s.plain)) := by
    obtain ⟨lv, hm, hsl⟩ := h.sealed
    rcases hsl.look (handL x) with ⟨h1, h2⟩ | ⟨s, v, h1, h2, ba1, bc1, pa1, pc1, hv, h3, h4, h5, h6⟩
    · refine ⟨none, none, 0, none, 0, h1, fun w1 e1 => ?_, fun s hs => by cases hs⟩
      have hl := (hm.ext e1 id).lookup keysU Try.underlying59 hi hz (handL x) true
      rw [h2] at hl; exact hl
    · refine ⟨some s, ba1, bc1, pa1, pc1, h1, fun w1 e1 => ?_, fun s' hs => by cases hs; exact ⟨h3, h5⟩⟩
      have hl := (hm.ext e1 id).lookup keysU Try.underlying59 hi hz (handL x) true
      rw [h2] at hl; subst hv; exact hl
  refine thenW_in fun w5 h5 => ?_
  have hx5 : Ext no w w5 := by subst h5; exact (Ext.refl _ _).drew
  refine ⟨some g.sealed, (h.none hx5).pCell fun _ _ => rfl, ?_, ?_⟩
  · refine (handle_spec (hx.no hx5) hxl hxc).mono fun e w10 ⟨he, hw⟩ => ⟨_, he, ?_⟩
    subst hw
    refine ⟨(h.none hx5).pCell fun _ _ => rfl, _, bba, _, bbc, ppa, _, ppc, v.isSome, hval _ hx5, thenW_in fun w15 h15 => ?_⟩
    have hb0 : Blk w15 w10.heap.size 82 [.int .u64 0, .slice none 0 0, .slice none 0 0] := by subst h15; exact Blk.new _ _ _
    have hx15 : Ext no w w15 := by subst h15; exact hx5.alloc _
    refine ⟨hval _ hx15, (h.none hx15).pCell fun _ _ => rfl, hb0.cana (i := 0) rfl, thenW_in fun w16 h16 => ?_⟩
    have hb1 := hb0.seta 0 (.int .u64 ((v.map Sealed.key).getD 0))
    rw [← h16] at hb1
    have hx16 : Ext no w w16 := by subst h16; exact hx15.setCell (.inr (by rw [add_zero]; exact hx5.size)) _
    refine ⟨hb1.cana (i := 1) rfl, thenW_in fun w17 h17 => ?_⟩
    have hb2 := hb1.seta 1 (.slice bba ((v.map fun s => s.bound.length).getD 0) bbc)
    rw [← h17] at hb2
    have hx17 : Ext no w w17 := by subst h17; exact hx16.setCell (.inr (by rw [add_blk]; exact hx5.size)) _
    refine ⟨hb2.cana (i := 2) rfl, thenW_in fun w18 h18 => ?_⟩
    have hb3 := hb2.seta 2 (.slice ppa ((v.map fun s => s.plain.length).getD 0) ppc)
    rw [← h18] at hb3
    have hx18 : Ext no w w18 := by subst h18; exact hx17.setCell (.inr (by rw [add_blk]; exact hx5.size)) _
    clear hx15 hb0 hb1 hb2 hx16 hx17 h15 h16 h17 h18
    have hx15 := hx18
    have hb15 := hb3
    clear hx18 hb3
    have hO15 := h.none hx15
    by_cases hn : v = none
    · subst hn
      rw [show openOf S k b x = ([], 4) by unfold openOf; rw [hlk]]
      exact ⟨⟨none, 0, rfl, Nat.le_refl _, RowAt.nil _ _, Fresh.nil⟩, hx15⟩
    obtain ⟨s, rfl⟩ := Option.ne_none_iff_exists'.1 hn
    obtain ⟨hrb, hrp⟩ := hrows s rfl
    rw [show (some s : Option Sealed).isSome = true from rfl, Bool.not_true, cond_false]
    refine ⟨ppa, s.plain.length, ppc, hb15.cella rfl, ?_⟩
    refine (Class_spec s.plain.length).mono fun e w22 ⟨he, hw⟩ => ⟨_, he, ?_⟩
    subst hw
    refine (Size_spec _).mono fun e w25 ⟨he, hw⟩ => ⟨_, he, ?_⟩
    subst hw
    have hsz := sizeN_le (classOf s.plain.length)
    rw [w64 (n := (8 : Int) + (sizeN (classOf s.plain.length) : Int)) (by omega) (by omega)]
    by_cases hl : x.length ≠ 8 + sizeN (classOf s.plain.length)
    · rw [show ((x.length : Int) != 8 + (sizeN (classOf s.plain.length) : Int)) = true by simp; omega]
      rw [show openOf S k b x = ([], 4) by unfold openOf; rw [hlk]; simp only []; rw [if_pos hl]]
      exact ⟨⟨none, 0, rfl, Nat.le_refl _, RowAt.nil _ _, Fresh.nil⟩, hx15⟩
    rw [show ((x.length : Int) != 8 + (sizeN (classOf s.plain.length) : Int)) = false by simp; omega, cond_false]
    refine ⟨s.key, hb15.cella rfl, ?_⟩
    by_cases hky : s.key ≠ k
    · rw [show (s.key != k) = true by simpa using hky]
      rw [show openOf S k b x = ([], 11) by unfold openOf; rw [hlk]; simp only []; rw [if_neg hl, if_pos hky]]
      exact ⟨⟨none, 0, rfl, Nat.le_refl _, RowAt.nil _ _, Fresh.nil⟩, hx15⟩
    rw [show (s.key != k) = false by simpa using hky, cond_false]
    refine ⟨bba, s.bound.length, bbc, hb15.cella rfl, ?_⟩
    refine (equal_spec (hrb.no hx15) (hb.no hx15)).mono fun e w30 ⟨he, hw⟩ => ⟨_, he, ?_⟩
    subst hw
    by_cases hbd : s.bound ≠ b
    · rw [decide_eq_false hbd]
      rw [show openOf S k b x = ([], 5) by unfold openOf; rw [hlk]; simp only []; rw [if_neg hl, if_neg hky, if_pos hbd]]
      exact ⟨⟨none, 0, rfl, Nat.le_refl _, RowAt.nil _ _, Fresh.nil⟩, hx15⟩
    rw [decide_eq_true (Decidable.not_not.1 hbd), Bool.not_true, cond_false]
    rw [show openOf S k b x = (s.plain, 0) by unfold openOf; rw [hlk]; simp only []; rw [if_neg hl, if_neg hky, if_neg hbd]]
    refine ⟨ppa, s.plain.length, ppc, hb15.cella rfl, ?_⟩
    refine (cloneB_spec (c := ppc) (hrp.no hx15) (hpls s hlk)).mono fun e w34 ⟨a', c', he, hle, hr, hx34, hf⟩ => ⟨a', _, c', he, ?_⟩
    exact ⟨⟨a', c', rfl, hle, hr, fun ad ha => ⟨Nat.le_trans hx15.size (hf ad ha).1, (hf ad ha).2⟩⟩, hx15.trans hx34⟩
  · refine thenW_in fun w35 h35 => ?_
    have hb0 : Blk w35 w5.heap.size 82 [.int .u64 0, .slice none 0 0, .slice none 0 0] := by subst h35; exact Blk.new _ _ _
    have hx35 : Ext no w w35 := by subst h35; exact hx5.alloc _
    refine ⟨(h.none hx35).pCell fun _ _ => rfl, ?_⟩
    refine (handle_spec (hx.no hx35) hxl hxc).mono fun e w10 ⟨he, hw⟩ => ⟨_, he, ?_⟩
    subst hw
    refine ⟨(h.none hx35).pCell fun _ _ => rfl, _, bba, _, bbc, ppa, _, ppc, v.isSome, hval _ hx35, hb0.cana (i := 0) rfl, thenW_in fun w16 h16 => ?_⟩
    have hb1 := hb0.seta 0 (.int .u64 ((v.map Sealed.key).getD 0))
    rw [← h16] at hb1
    have hx16 : Ext no w w16 := by subst h16; exact hx35.setCell (.inr (by rw [add_zero]; exact hx5.size)) _
    refine ⟨hb1.cana (i := 1) rfl, thenW_in fun w17 h17 => ?_⟩
    have hb2 := hb1.seta 1 (.slice bba ((v.map fun s => s.bound.length).getD 0) bbc)
    rw [← h17] at hb2
    have hx17 : Ext no w w17 := by subst h17; exact hx16.setCell (.inr (by rw [add_blk]; exact hx5.size)) _
    refine ⟨hb2.cana (i := 2) rfl, thenW_in fun w18 h18 => ?_⟩
    have hb3 := hb2.seta 2 (.slice ppa ((v.map fun s => s.plain.length).getD 0) ppc)
    rw [← h18] at hb3
    have hx18 : Ext no w w18 := by subst h18; exact hx17.setCell (.inr (by rw [add_blk]; exact hx5.size)) _
    clear hb0 hb1 hb2 hx16 hx17 h35 h16 h17 h18 hx35
    have hx15 := hx18
    have hb15 := hb3
    clear hx18 hb3
    have hO15 := h.none hx15
    by_cases hn : v = none
    · subst hn
      rw [show openOf S k b x = ([], 4) by unfold openOf; rw [hlk]]
      exact ⟨⟨none, 0, rfl, Nat.le_refl _, RowAt.nil _ _, Fresh.nil⟩, hx15⟩
    obtain ⟨s, rfl⟩ := Option.ne_none_iff_exists'.1 hn
    obtain ⟨hrb, hrp⟩ := hrows s rfl
    rw [show (some s : Option Sealed).isSome = true from rfl, Bool.not_true, cond_false]
    refine ⟨ppa, s.plain.length, ppc, hb15.cella rfl, ?_⟩
    refine (Class_spec s.plain.length).mono fun e w22 ⟨he, hw⟩ => ⟨_, he, ?_⟩
    subst hw
    refine (Size_spec _).mono fun e w25 ⟨he, hw⟩ => ⟨_, he, ?_⟩
    subst hw
    have hsz := sizeN_le (classOf s.plain.length)
    rw [w64 (n := (8 : Int) + (sizeN (classOf s.plain.length) : Int)) (by omega) (by omega)]
    by_cases hl : x.length ≠ 8 + sizeN (classOf s.plain.length)
    · rw [show ((x.length : Int) != 8 + (sizeN (classOf s.plain.length) : Int)) = true by simp; omega]
      rw [show openOf S k b x = ([], 4) by unfold openOf; rw [hlk]; simp only []; rw [if_pos hl]]
      exact ⟨⟨none, 0, rfl, Nat.le_refl _, RowAt.nil _ _, Fresh.nil⟩, hx15⟩
    rw [show ((x.length : Int) != 8 + (sizeN (classOf s.plain.length) : Int)) = false by simp; omega, cond_false]
    refine ⟨s.key, hb15.cella rfl, ?_⟩
    by_cases hky : s.key ≠ k
    · rw [show (s.key != k) = true by simpa using hky]
      rw [show openOf S k b x = ([], 11) by unfold openOf; rw [hlk]; simp only []; rw [if_neg hl, if_pos hky]]
      exact ⟨⟨none, 0, rfl, Nat.le_refl _, RowAt.nil _ _, Fresh.nil⟩, hx15⟩
    rw [show (s.key != k) = false by simpa using hky, cond_false]
    refine ⟨bba, s.bound.length, bbc, hb15.cella rfl, ?_⟩
    refine (equal_spec (hrb.no hx15) (hb.no hx15)).mono fun e w30 ⟨he, hw⟩ => ⟨_, he, ?_⟩
    subst hw
    by_cases hbd : s.bound ≠ b
    · rw [decide_eq_false hbd]
      rw [show openOf S k b x = ([], 5) by unfold openOf; rw [hlk]; simp only []; rw [if_neg hl, if_neg hky, if_pos hbd]]
      exact ⟨⟨none, 0, rfl, Nat.le_refl _, RowAt.nil _ _, Fresh.nil⟩, hx15⟩
    rw [decide_eq_true (Decidable.not_not.1 hbd), Bool.not_true, cond_false]
    rw [show openOf S k b x = (s.plain, 0) by unfold openOf; rw [hlk]; simp only []; rw [if_neg hl, if_neg hky, if_neg hbd]]
    refine ⟨ppa, s.plain.length, ppc, hb15.cella rfl, ?_⟩
    refine (cloneB_spec (c := ppc) (hrp.no hx15) (hpls s hlk)).mono fun e w34 ⟨a', c', he, hle, hr, hx34, hf⟩ => ⟨a', _, c', he, ?_⟩
    exact ⟨⟨a', c', rfl, hle, hr, fun ad ha => ⟨Nat.le_trans hx15.size (hf ad ha).1, (hf ad ha).2⟩⟩, hx15.trans hx34⟩
end
end Go.Proofs.Ytgagmbmkpfjbbaa
