/- What the oracle's methods do. -/
import Derived.Test.YtgagmbmkpfjbbaaOraS
set_option linter.unusedVariables false
set_option linter.unusedSimpArgs false
namespace Go.Proofs.Ytgagmbmkpfjbbaa
open Go Go.Mx Go.Proofs

theorem keysU : Keys Try.prog 27 u64V := keys_int Try.underlying27
theorem keysS : Keys Try.prog 9 strV := keys_str Try.underlying9

/-- a step that hands back v. -/
def Gives (v : Value) (Q : World → Prop) (e : Ending) (w' : World) : Prop := e = .returned v ∧ Q w'

section
variable {w w' : World} {g : OG} {S : OS}
theorem Orc.pCell (h : Orc w g S) {i : Nat} {v : Value} (hv : ∀ da dc, ([.slice da S.draws.length dc, .map (some g.used), .int .u64 S.next, .map (some g.hashes), .map (some g.keys), .map (some g.secrets), .map (some g.publics), .map (some g.signs), .map (some g.signed), .map (some g.sealed), .map (some g.wrapped)] : List Value)[i]? = some v) :
    w.cell? ((blk g.p).add i) = some v := by
  obtain ⟨da, dc, hb, _⟩ := h.st
  exact hb.cella (hv da dc)

theorem m_used : g.m g.used := by simp [OG.m, OG.list]
theorem m_p : g.m g.p := by simp [OG.m, OG.list]
theorem m_hashes : g.m g.hashes := by simp [OG.m, OG.list]
theorem m_keys : g.m g.keys := by simp [OG.m, OG.list]
theorem m_secrets : g.m g.secrets := by simp [OG.m, OG.list]
theorem m_publics : g.m g.publics := by simp [OG.m, OG.list]

theorem take_no (h : Orc w g S) {x : Int} (hx : x = 0 ∨ x ∈ S.used) :
    Calls Try.prog 35 #[.pointer (some (blk g.p)), .int .u64 x] w (Gives (.bool false) fun w' => w' = w) := by
  refine (oTake.ok _ _ (R := fun v w' => v = .bool false ∧ w' = w) ?_).mono fun e w' ⟨v, he, hv, hw⟩ => ⟨by rw [he, hv], hw⟩
  unfold oTake.M
  by_cases h0 : x = 0
  · subst h0; exact ⟨rfl, rfl⟩
  · have hx' : x ∈ S.used := hx.resolve_left h0
    have : (x == 0) = false := by simpa using h0
    rw [this]
    obtain ⟨i, hi, hz, _⟩ := info_of inf4
    have hl := h.used.lookup keysU Try.underlying54 hi hz x false
    rw [mlook_bset, if_pos hx'] at hl
    exact ⟨some g.used, h.pCell fun _ _ => rfl, true, hl, rfl, rfl⟩
theorem take_yes (h : Orc w g S) {x : Int} (h0 : x ≠ 0) (hx : x ∉ S.used) :
    Calls Try.prog 35 #[.pointer (some (blk g.p)), .int .u64 x] w (Gives (.bool true) fun w' => Orc w' g { S with used := S.used ++ [x] } ∧ Ext g.m w w') := by
  refine (oTake.ok _ _ (R := fun v w' => v = .bool true ∧ Orc w' g { S with used := S.used ++ [x] } ∧ Ext g.m w w') ?_).mono fun e w' ⟨v, he, hv, hw⟩ => ⟨by rw [he, hv], hw⟩
  unfold oTake.M
  have : (x == 0) = false := by simpa using h0
  rw [this]
  obtain ⟨i, hi, hz, _⟩ := info_of inf4
  have hl := h.used.lookup keysU Try.underlying54 hi hz x false
  rw [mlook_bset, if_neg hx] at hl
  obtain ⟨w1, hr, hm, hext⟩ := h.used.update keysU Try.underlying54 x (.bool true)
  rw [mput_bset hx] at hm
  exact ⟨some g.used, h.pCell fun _ _ => rfl, false, hl, some g.used, h.pCell fun _ _ => rfl, w1, hr, rfl, h.set_used (hext _ rfl) hm, hext _ m_used⟩

theorem fresh_spec (h : Orc w g S) (hok : S.ok) (hlen : S.used.length < 1000000) :
    Calls Try.prog 18 #[.pointer (some (blk g.p))] w (Gives (u64V (freshOf S).1) fun w' => Orc w' g (freshOf S).2 ∧ Ext g.m w w') := by
  refine (oFresh.ok _ (R := fun v w' => v = u64V (freshOf S).1 ∧ Orc w' g (freshOf S).2 ∧ Ext g.m w w') ?_).mono fun e w' ⟨v, he, hv, hw⟩ => ⟨by rw [he, hv], hw⟩
  unfold oFresh.M
  refine ⟨fun k vs w1 => ∃ d, k = d.length ∧ Orc w1 g { S with draws := d } ∧ pickD d S.used = pickD S.draws S.used ∧ Ext g.m w w1, S.draws.length, ⟨S.draws, rfl, h, rfl, Ext.refl _ _⟩, ?_⟩
  rintro k w1 ⟨d, rfl, h1, hp, hx⟩
  obtain ⟨da, dc, hb, hle, hrow, hout⟩ := h1.st
  refine ⟨da, d.length, dc, hb.cella rfl, ?_⟩
  cases d with
  | nil =>
    -- the counter
    simp only [List.length_nil, Int.natCast_zero, gt_iff_lt, Int.lt_irrefl, decide_false, cond_false]
    have hf : freshOf S = (pickN S.used (S.used.length + 1) S.next, { S with draws := [], next := pickN S.used (S.used.length + 1) S.next, used := S.used ++ [pickN S.used (S.used.length + 1) S.next] }) := by
      simp [freshOf, ← hp, pickD]
    obtain ⟨q1, q2, q3, q4⟩ := hok
    obtain ⟨a1, a2, a3, a4, a5⟩ := pickN_spec S.used (S.used.length + 1) S.next q1 (gap S.used _ _ (by omega))
    rw [hf]
    generalize hN : pickN S.used (S.used.length + 1) S.next = N at *
    refine ⟨fun k vs w1 => ∃ n, S.next ≤ n ∧ n ≤ N ∧ k = (N - n).toNat ∧ Orc w1 g { S with draws := [], next := n } ∧ Ext g.m w w1, (N - S.next).toNat, ⟨S.next, Int.le_refl _, a1, rfl, h1, hx⟩, ?_⟩
    rintro k w2 ⟨n, hn1, hn2, rfl, h2, hx2⟩
    refine ⟨n, h2.pCell fun _ _ => rfl, ?_⟩
    by_cases hn : n = N
    · subst hn
      refine (take_yes h2 a4 a3).mono fun e w3 ⟨he, h3, hx3⟩ => ⟨true, he, ?_⟩
      exact ⟨n, h3.pCell fun _ _ => rfl, rfl, h3, hx2.trans hx3⟩
    · refine (take_no h2 (.inr (a5 n hn1 (by omega)))).mono fun e w3 ⟨he, hw3⟩ => ⟨false, he, ?_⟩
      subst hw3
      obtain ⟨da2, dc2, hb2, hle2, hrow2, hout2⟩ := h2.st
      have hwr : IntKind.u64.wrap (n + 1) = n + 1 := by
        simp only [IntKind.wrap, IntKind.bits, IntKind.signed]
        simp
        omega
      refine ⟨n, h2.pCell fun _ _ => rfl, hb2.cana (i := 2) rfl, thenW_in fun w4 hw4 => ?_⟩
      rw [hwr] at hw4
      have hext : Ext (fun b => b = g.p) w3 w4 := by
        subst hw4; exact (Ext.refl _ _).setCell (.inl (by rw [add_zero, add_blk])) _
      have hb4 := hb2.seta 2 (.int .u64 (n + 1))
      refine ⟨(N - (n + 1)).toNat, by omega, n + 1, by omega, by omega, rfl, ?_, hx2.trans (hext.mono fun b hb _ => by subst hb; exact m_p)⟩
      refine h2.set_p hext ⟨da2, dc2, ?_, hle2, RowAt.nil _ _, hout2⟩
      subst hw4
      exact hb4
  | cons x r =>
    have hpos : decide (((x :: r).length : Int) > 0) = true := by simp
    rw [hpos]
    have hcell : w1.cell? (((blk g.p).add 0)) = some (.slice da (x :: r).length dc) := hb.cella rfl
    obtain ⟨ad, rfl⟩ := hrow.addr (by simp)
    have hx0 : w1.cell? (ad.add (Int.toNat 0 * 1)) = some (.int .u64 x) := hrow.at_ (i := 0) rfl
    refine ⟨_, _, dc, hcell, Int.le_refl _, by show (0 : Int) < ((x :: r).length : Int); rw [List.length_cons]; omega, x, hx0, _, _, dc, hcell, by omega, by show (1 : Int) ≤ ((x :: r).length : Int); rw [List.length_cons]; omega, hb.cana (i := 0) rfl, thenW_in fun w2 hw2 => ?_⟩
    have hext : Ext (fun b => b = g.p) w1 w2 := by
      subst hw2; exact (Ext.refl _ _).setCell (.inl (by rw [add_zero, add_blk])) _
    have hb2 := hb.seta 0 (.slice (if dc = Int.toNat 1 then some ad else Option.map (fun z : Addr => z.add ((Int.toNat 1) * 1)) (some ad)) ((x :: r).length - (Int.toNat 1)) (dc - (Int.toNat 1)))
    have hxm : Ext g.m w w2 := hx.trans (hext.mono fun b hb _ => by subst hb; exact m_p)
    have hrow2 : RowAt w1 (if dc = 1 then some ad else Option.map (·.add 1) (some ad)) (r.map u64V) := by
      have := hrow.drop 1 dc (fun e => by simp only [List.length_cons, List.length_map] at hle ⊢; omega)
      simpa using this
    have hout2 : r.map u64V ≠ [] → Out g.M (if dc = 1 then some ad else Option.map (·.add 1) (some ad)) := fun _ q hq => by
      split at hq
      · exact hout (by simp) q hq
      · simp only [Option.map_some, Option.some.injEq] at hq
        subst hq; rw [block_add]; exact hout (by simp) ad rfl
    have h2 : Orc w2 g { S with draws := r } := by
      refine h1.set_p (x := S.next) hext ⟨_, dc - 1, ?_, by simp at hle ⊢; omega, hrow2.ext' hext (fun h0 q hq hb => hout2 h0 q hq (.inl (by rw [hb]; exact m_p))), hout2⟩
      subst hw2
      exact hb2
    by_cases hxu : x = 0 ∨ x ∈ S.used
    · refine (take_no h2 hxu).mono fun e w3 ⟨he, hw3⟩ => ⟨false, he, ?_⟩
      subst hw3
      exact ⟨r.length, by simp, r, rfl, h2, by rw [← hp]; simp [pickD, hxu], hxm⟩
    · rw [not_or] at hxu
      refine (take_yes h2 hxu.1 hxu.2).mono fun e w3 ⟨he, h3, hx3⟩ => ⟨true, he, ?_⟩
      have hf : freshOf S = (x, { S with draws := r, used := S.used ++ [x] }) := by
        simp [freshOf, ← hp, pickD, hxu]
      rw [hf]
      exact ⟨rfl, h3, hxm.trans hx3⟩

theorem u64_one (l : List Int) : ∀ u ∈ l.map u64V, u.oneCell' = true := fun u hu => by
  obtain ⟨b, _, rfl⟩ := List.mem_map.1 hu; rfl
theorem clone64_spec {a : Option Addr} {c : Nat} {l : List Int} (h : RowAt w a (l.map u64V)) (hl : l.length ≤ 1000000) :
    Calls Try.prog 17 #[.slice a l.length c] w (fun e w' => ∃ a' c', e = .returned (.slice a' l.length c') ∧ l.length ≤ c' ∧ RowAt w' a' (l.map u64V) ∧ Ext no w w' ∧ Fresh w w' a') := by
  refine (clone64.ok a l.length c (R := fun v w' => ∃ a' c', v = (.slice a' l.length c') ∧ l.length ≤ c' ∧ RowAt w' a' (l.map u64V) ∧ Ext no w w' ∧ Fresh w w' a') ?_).mono fun e w' ⟨v, he, a', c', hv, hw⟩ => ⟨a', c', by rw [he, hv], hw⟩
  unfold clone64.M
  cases a with
  | none =>
    have : l = [] := by simpa using h.none_nil
    subst this
    exact ⟨none, 0, rfl, Nat.le_refl _, RowAt.nil _ _, Ext.refl _ _, fun ad ha => by cases ha⟩
  | some ad =>
    rw [Option.isNone_some, cond_false]
    refine thenW_in fun w2 hw2 => ?_
    subst hw2
    obtain ⟨i, hi, hz, hs, hb⟩ := info_of inf27
    obtain ⟨a', c', w', hr, h1, h2, h3, h4⟩ := clone_run (c := c) (m := l.length) (ty := 22) Try.underlying22 hi hz hs hb rfl (by simp) h (u64_one l) (by omega) (by omega)
    exact ⟨a', l.length, c', w', hr, a', c', rfl, h1, h2, h3, h4⟩
theorem cloneB_spec {a : Option Addr} {c : Nat} {l : List UInt8} (h : RowAt w a (bytesV l)) (hl : l.length ≤ 1000000) :
    Calls Try.prog 39 #[.slice a l.length c] w (fun e w' => ∃ a' c', e = .returned (.slice a' l.length c') ∧ l.length ≤ c' ∧ RowAt w' a' (bytesV l) ∧ Ext no w w' ∧ Fresh w w' a') := by
  refine (cloneB.ok a l.length c (R := fun v w' => ∃ a' c', v = (.slice a' l.length c') ∧ l.length ≤ c' ∧ RowAt w' a' (bytesV l) ∧ Ext no w w' ∧ Fresh w w' a') ?_).mono fun e w' ⟨v, he, a', c', hv, hw⟩ => ⟨a', c', by rw [he, hv], hw⟩
  unfold cloneB.M
  cases a with
  | none =>
    have : l = [] := by simpa [bytesV] using h.none_nil
    subst this
    exact ⟨none, 0, rfl, Nat.le_refl _, RowAt.nil _ _, Ext.refl _ _, fun ad ha => by cases ha⟩
  | some ad =>
    rw [Option.isNone_some, cond_false]
    refine thenW_in fun w2 hw2 => ?_
    subst hw2
    obtain ⟨i, hi, hz, hs, hb⟩ := info_of inf5
    obtain ⟨a', c', w', hr, h1, h2, h3, h4⟩ := clone_run (c := c) (m := l.length) (ty := 23) Try.underlying23 hi hz hs hb rfl (bytesV_length l) h (bytesV_one l) (by omega) (by omega)
    exact ⟨a', l.length, c', w', hr, a', c', rfl, h1, h2, h3, h4⟩

theorem new_map {κ : Type} [DecidableEq κ] (enc : κ → Value) {w1 w2 : World} (h : w2 = w1.alloc (.map #[] 0)) : MapIs w2 w1.heap.size enc [] ∧ Ext no w1 w2 ∧ w2.heap.size = w1.heap.size + 1 := by
  subst h; exact ⟨MapIs.new _ _, (Ext.refl _ _).alloc _, by simp⟩
theorem New_specX (x0 : Nat → Prop) (hx0 : ∀ b, x0 b → b < w.heap.size) {a : Option Addr} {c : Nat} {l : List Int} (h : RowAt w a (l.map u64V)) (hl : l.length ≤ 1000000) :
    Calls Try.prog 7 #[.slice a l.length c] w (fun e w' => ∃ g : OG, e = .returned (.pointer (some (blk g.p))) ∧ Orc w' g (OS.init l) ∧ Ext no w w' ∧ (∀ b, g.m b → w.heap.size ≤ b ∧ b < w'.heap.size) ∧ g.x = x0) := by
  refine (oNew.ok a l.length c (R := fun v w' => ∃ g : OG, v = (.pointer (some (blk g.p))) ∧ Orc w' g (OS.init l) ∧ Ext no w w' ∧ (∀ b, g.m b → w.heap.size ≤ b ∧ b < w'.heap.size) ∧ g.x = x0) ?_).mono fun e w' ⟨v, he, g, hv, hw⟩ => ⟨g, by rw [he, hv], hw⟩
  unfold oNew.M
  refine (clone64_spec h hl).mono fun e w4 ⟨a', c', he, hle, hrow, hx, hf⟩ => ⟨a', l.length, c', he, ?_⟩
  refine thenW_in fun w5 h5 => thenW_in fun w6 h6 => thenW_in fun w7 h7 => thenW_in fun w8 h8 => thenW_in fun w9 h9 => thenW_in fun w10 h10 => thenW_in fun w11 h11 => thenW_in fun w12 h12 => thenW_in fun w13 h13 => thenW_in fun w14 h14 => ?_
  obtain ⟨m5, e5, s5⟩ := new_map u64V h5
  obtain ⟨m6, e6, s6⟩ := new_map strV h6
  obtain ⟨m7, e7, s7⟩ := new_map u64V h7
  obtain ⟨m8, e8, s8⟩ := new_map u64V h8
  obtain ⟨m9, e9, s9⟩ := new_map u64V h9
  obtain ⟨m10, e10, s10⟩ := new_map signedV h10
  obtain ⟨m11, e11, s11⟩ := new_map u64V h11
  obtain ⟨m12, e12, s12⟩ := new_map u64V h12
  obtain ⟨m13, e13, s13⟩ := new_map u64V h13
  have e14 : Ext no w13 w14 := by rw [h14]; exact (Ext.refl _ _).alloc _
  have s14 : w14.heap.size = w13.heap.size + 1 := by rw [h14]; simp
  have x13 := e14
  have x12 := e13.trans x13
  have x11 := e12.trans x12
  have x10 := e11.trans x11
  have x9 := e10.trans x10
  have x8 := e9.trans x9
  have x7 := e8.trans x8
  have x6 := e7.trans x7
  have x5 := e6.trans x6
  have x4 := e5.trans x5
  have hsz := hx.size
  have hm : ∀ b, (OG.mk w13.heap.size w4.heap.size w5.heap.size w6.heap.size w7.heap.size w8.heap.size w9.heap.size w10.heap.size w11.heap.size w12.heap.size x0).m b → w4.heap.size ≤ b ∧ b < w14.heap.size := fun b hb => by
    simp only [OG.m, OG.list, List.mem_cons, List.not_mem_nil, or_false] at hb
    omega
  refine ⟨⟨w13.heap.size, w4.heap.size, w5.heap.size, w6.heap.size, w7.heap.size, w8.heap.size, w9.heap.size, w10.heap.size, w11.heap.size, w12.heap.size, x0⟩, rfl, ⟨?_, ?_, m5.ext x5 id, m6.ext x6 id, m7.ext x7 id, m8.ext x8 id, m9.ext x9 id, m10.ext x10 id, m11.ext x11 id, ⟨[], m12.ext x12 id, trivial⟩, m13.ext x13 id, fun b hb hxx => ?_, fun b hb => ?_⟩, hx.trans x4, fun b hb => ⟨?_, (hm b hb).2⟩, rfl⟩
  · simp only [OG.list, List.nodup_cons, List.mem_cons, not_or, List.not_mem_nil, not_false_eq_true, List.nodup_nil, and_true]
    omega
  · refine ⟨a', c', ?_, hle, hrow.ext x4 (fun _ _ h => h), fun _ => hf.out fun b hb => hb.elim (fun hb => .inr (hm b hb).1) (fun hb => .inl (hx0 b hb))⟩
    rw [h14]
    exact Blk.new _ _ _
  · have h1 := (hm b hb).1
    have h2 := hx0 b hxx
    omega
  · exact Nat.lt_of_lt_of_le (hx0 b hb) (hx.trans x4).size
  · exact Nat.le_trans hsz (hm b hb).1

theorem New_spec {a : Option Addr} {c : Nat} {l : List Int} (h : RowAt w a (l.map u64V)) (hl : l.length ≤ 1000000) :
    Calls Try.prog 7 #[.slice a l.length c] w (fun e w' => ∃ g : OG, e = .returned (.pointer (some (blk g.p))) ∧ Orc w' g (OS.init l) ∧ Ext no w w' ∧ ∀ b, g.m b → w.heap.size ≤ b ∧ b < w'.heap.size) :=
  (New_specX (fun _ => False) (fun b hb => hb.elim) h hl).mono fun e w' ⟨g, h1, h2, h3, h4, _⟩ => ⟨g, h1, h2, h3, h4⟩

theorem Hash_spec (h : Orc w g S) (hok : S.ok) (hlen : S.used.length < 1000000) {a : Option Addr} {c : Nat} {bs : List UInt8} (hr : RowAt w a (bytesV bs)) (ho : bytesV bs ≠ [] → Out g.m a) :
    Calls Try.prog 8 #[.pointer (some (blk g.p)), .slice a bs.length c] w (Gives (u64V (hashOf S bs).1) fun w' => Orc w' g (hashOf S bs).2 ∧ Ext g.m w w') := by
  refine (oHash.ok _ _ _ _ (R := fun v w' => v = u64V (hashOf S bs).1 ∧ Orc w' g (hashOf S bs).2 ∧ Ext g.m w w') ?_).mono fun e w' ⟨v, he, hv, hw⟩ => ⟨by rw [he, hv], hw⟩
  unfold oHash.M
  rw [Option.isNone_some, cond_false]
  refine thenW_in fun w3 h3 => ?_
  have hx3 : Ext no w w3 := by subst h3; exact (Ext.refl _ _).drew
  have hO := h.none hx3
  obtain ⟨i, hi, hz, _⟩ := info_of inf27
  have hl := hO.hashes.lookup keysS Try.underlying55 hi hz bs true
  rw [mlook_map] at hl
  have hcv := conv_str (P := Try.prog) (c := c) Try.underlying23 Try.underlying5 Try.underlying9 (hr.ext hx3 (fun _ _ h => h))
  cases hk : alook S.hashes bs with
  | some x =>
    rw [hk] at hl
    refine ⟨some g.hashes, hO.pCell fun _ _ => rfl, _, hcv, x, true, hl, ?_⟩
    have : hashOf S bs = (x, S) := by unfold hashOf; rw [hk]
    rw [this]
    exact ⟨rfl, hO, hx3.none⟩
  | none =>
    rw [hk] at hl
    refine ⟨some g.hashes, hO.pCell fun _ _ => rfl, _, hcv, 0, false, hl, ?_⟩
    refine (fresh_spec hO hok hlen).mono fun e w11 ⟨he, hO2, hx11⟩ => ⟨(freshOf S).1, he, thenW_in fun w12 h12 => ?_⟩
    have hx12 : Ext no w11 w12 := by subst h12; exact (Ext.refl _ _).drew
    have hO3 := hO2.none hx12
    have hcv2 := conv_str (P := Try.prog) (c := c) Try.underlying23 Try.underlying5 Try.underlying9 (((hr.ext hx3 (fun _ _ h => h)).ext' hx11 ho).ext hx12 (fun _ _ h => h))
    obtain ⟨w16, hu, hm, hext⟩ := hO3.hashes.update keysS Try.underlying55 bs (u64V (freshOf S).1)
    rw [mput_map, (freshOf_frame S).1] at hm
    refine ⟨some g.hashes, hO3.pCell fun _ _ => rfl, _, hcv2, w16, hu, ?_⟩
    have : hashOf S bs = ((freshOf S).1, { (freshOf S).2 with hashes := aput S.hashes bs (freshOf S).1 }) := by unfold hashOf; rw [hk]
    rw [this]
    exact ⟨rfl, hO3.set_hashes (hext _ rfl) hm, ((hx3.none.trans hx11).trans hx12.none).trans (hext _ m_hashes)⟩

theorem Key_spec (h : Orc w g S) (hok : S.ok) (hlen : S.used.length < 1000000) :
    Calls Try.prog 16 #[.pointer (some (blk g.p))] w (Gives (u64V (keyOf S).1) fun w' => Orc w' g (keyOf S).2 ∧ Ext g.m w w') := by
  refine (oKey.ok _ (R := fun v w' => v = u64V (keyOf S).1 ∧ Orc w' g (keyOf S).2 ∧ Ext g.m w w') ?_).mono fun e w' ⟨v, he, hv, hw⟩ => ⟨by rw [he, hv], hw⟩
  unfold oKey.M
  refine (fresh_spec h hok hlen).mono fun e w4 ⟨he, hO, hx⟩ => ⟨(freshOf S).1, he, ?_⟩
  obtain ⟨w7, hu, hm, hext⟩ := hO.keys.update keysU Try.underlying54 (freshOf S).1 (.bool true)
  rw [(freshOf_frame S).2.1, mput_badd] at hm
  exact ⟨some g.keys, hO.pCell fun _ _ => rfl, w7, hu, rfl, hO.set_keys (hext _ rfl) hm, hx.trans (hext _ m_keys)⟩

theorem Used_spec (h : Orc w g S) :
    Calls Try.prog 15 #[.pointer (some (blk g.p))] w (Gives (.int .i64 S.used.length) fun w' => w' = w) := by
  refine (oUsed.ok _ (R := fun v w' => v = .int .i64 S.used.length ∧ w' = w) ?_).mono fun e w' ⟨v, he, hv, hw⟩ => ⟨by rw [he, hv], hw⟩
  unfold oUsed.M
  have hl := h.used.len (ty := 3) Try.underlying54
  exact ⟨some g.used, h.pCell fun _ _ => rfl, S.used.length, by simpa [bset] using hl, rfl, rfl⟩

/-- bytes of two slices are held beside each other. -/
theorem same_spec {a b : Option Addr} {c d : Nat} {x y : List UInt8} (ha : RowAt w a (bytesV x)) (hb : RowAt w b (bytesV y)) (hx : x.length < 1000000) :
    Calls Try.prog 9 #[.slice a x.length c, .slice b y.length d] w (Gives (.bool (decide (x = y))) fun w' => Ext no w w') := by
  refine (same.ok _ _ _ _ _ _ (R := fun v w' => v = .bool (decide (x = y)) ∧ Ext no w w') ?_).mono fun e w' ⟨v, he, hv, hw⟩ => ⟨by rw [he, hv], hw⟩
  unfold same.M
  by_cases hl : x.length = y.length
  · have hl' : ((x.length : Int) != (y.length : Int)) = false := by simp [hl]
    rw [hl', cond_false]
    refine ⟨fun k vs w1 => ∃ i : Nat, vs = [.int .i64 i] ∧ k = x.length - i ∧ i ≤ x.length ∧ x.take i = y.take i ∧ Ext no w w1, x.length, ⟨0, rfl, rfl, Nat.zero_le _, rfl, Ext.refl _ _⟩, ?_⟩
    rintro k w1 i3 ⟨i, hi, rfl, hle, ht, hw⟩
    simp only [List.cons.injEq, Value.int.injEq, true_and, and_true] at hi
    subst hi
    by_cases hlt : i < x.length
    · have hd : decide ((i : Int) < (x.length : Int)) = true := by simp [hlt]
      rw [hd, cond_true]
      refine thenW_in fun w7 h7 => ?_
      have hw7 : Ext no w w7 := hw.trans (by subst h7; exact (Ext.refl _ _).drew)
      have hi2 : i < y.length := hl ▸ hlt
      have hax := ha.ext hw7 (fun _ _ h => h)
      have hby := hb.ext hw7 (fun _ _ h => h)
      obtain ⟨ad, rfl⟩ := hax.addr (by intro e; rw [bytesV, List.map_eq_nil_iff] at e; subst e; simp at hlt)
      obtain ⟨bd, rfl⟩ := hby.addr (by intro e; rw [bytesV, List.map_eq_nil_iff] at e; subst e; simp at hi2)
      refine ⟨by omega, by omega, x[i].toNat, ?_, by omega, by omega, y[i].toNat, ?_, ?_⟩
      · rw [show Int.toNat (i : Int) * 1 = i by omega]; exact hax.at_ (bytesV_get hlt)
      · rw [show Int.toNat (i : Int) * 1 = i by omega]; exact hby.at_ (bytesV_get hi2)
      · by_cases he : x[i] = y[i]
        · have h1 : ((x[i].toNat : Int) != (y[i].toNat : Int)) = false := by simp [he]
          rw [h1, cond_false]
          refine ⟨x.length - (i + 1), by omega, i + 1, ?_, rfl, by omega, ?_, hw7⟩
          · have : IntKind.i64.wrap ((i : Int) + 1) = ((i + 1 : Nat) : Int) := by
              simp only [IntKind.wrap, IntKind.bits, IntKind.signed]
              simp
              omega
            rw [this]
          · rw [List.take_add_one, List.take_add_one, ht]; simp [hlt, hi2, he]
        · have h1 : ((x[i].toNat : Int) != (y[i].toNat : Int)) = true := by
            simp only [bne_iff_ne, ne_eq, Int.natCast_inj, UInt8.toNat_inj]; exact he
          rw [h1, cond_true]
          exact ⟨by rw [decide_eq_false]; rintro rfl; exact he rfl, hw7⟩
    · have hd : decide ((i : Int) < (x.length : Int)) = false := by simp; omega
      rw [hd, cond_false]
      obtain rfl : i = x.length := by omega
      refine ⟨?_, hw⟩
      have : x = y := by
        rw [List.take_length] at ht
        rw [hl, List.take_length] at ht
        exact ht
      simp [this]
  · have hl' : ((x.length : Int) != (y.length : Int)) = true := by simp; omega
    rw [hl', cond_true]
    exact ⟨by rw [decide_eq_false]; rintro rfl; exact hl rfl, Ext.refl _ _⟩
end
end Go.Proofs.Ytgagmbmkpfjbbaa
