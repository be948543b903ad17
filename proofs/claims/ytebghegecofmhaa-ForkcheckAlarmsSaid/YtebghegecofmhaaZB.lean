/- What the oracle's methods do. -/
import Derived.Test.YtebghegecofmhaaZA
import Derived.Test.YtebghegecofmhaaProg
import Derived.KernelRfl
import Derived.Laws.StructEq
import Derived.ArgAppend
set_option linter.unusedVariables false
set_option linter.unusedSimpArgs false
namespace Go.Proofs.Ytebghegecofmhaa
open Go Go.Mx Go.Proofs

theorem keysU : Keys Try.prog 27 u64V := Q1z Try.underlying27
def Gives (v : Value) (Q : World → Prop) (e : Ending) (w' : World) : Prop := e = .returned v ∧ Q w'

section
variable {w w' : World} {g : OG} {S : OS}
theorem Orc.pCell (h : Orc w g S) {i : Nat} {v : Value} (hv : ∀ da dc, ([.slice da S.draws.length dc, .map (some g.used), .int .u64 S.next, .map (some g.hashes), .map (some g.keys), .map (some g.secrets), .map (some g.publics), .map (some g.signs), .map (some g.signed), .map (some g.sealed), .map (some g.wrapped)] : List Value)[i]? = some v) :
    w.cell? ((blk g.p).add i) = some v := by
  obtain ⟨da, dc, hb, _⟩ := h.st
  exact hb.cella (hv da dc)

theorem m_used : g.m g.used := by simp [OG.m, OG.list]
theorem m_p : g.m g.p := by simp [OG.m, OG.list]
theorem Q4e : g.m g.secrets := by simp [OG.m, OG.list]
theorem Q42 : g.m g.publics := by simp [OG.m, OG.list]

theorem take_no (h : Orc w g S) {x : Int} (hx : x = 0 ∨ x ∈ S.used) :
    Calls Try.prog 31 #[.pointer (some (blk g.p)), .int .u64 x] w (Gives (.bool false) fun w' => w' = w) := by
  refine (oTake.ok _ _ (R := fun v w' => v = .bool false ∧ w' = w) ?_).mono fun e w' ⟨v, he, hv, hw⟩ => ⟨by rw [he, hv], hw⟩
  unfold oTake.M
  by_cases h0 : x = 0
  · subst h0; exact ⟨rfl, rfl⟩
  · have hx' : x ∈ S.used := hx.resolve_left h0
    have : (x == 0) = false := by simpa using h0
    rw [this]
    obtain ⟨i, hi, hz, _⟩ := info_of inf4
    have hl := h.used.lookup keysU Try.underlying57 hi hz x false
    rw [Q1I, if_pos hx'] at hl
    exact ⟨some g.used, h.pCell fun _ _ => rfl, true, hl, rfl, rfl⟩
theorem Q3o (h : Orc w g S) {x : Int} (h0 : x ≠ 0) (hx : x ∉ S.used) :
    Calls Try.prog 31 #[.pointer (some (blk g.p)), .int .u64 x] w (Gives (.bool true) fun w' => Orc w' g { S with used := S.used ++ [x] } ∧ Ext g.m w w') := by
  refine (oTake.ok _ _ (R := fun v w' => v = .bool true ∧ Orc w' g { S with used := S.used ++ [x] } ∧ Ext g.m w w') ?_).mono fun e w' ⟨v, he, hv, hw⟩ => ⟨by rw [he, hv], hw⟩
  unfold oTake.M
  have : (x == 0) = false := by simpa using h0
  rw [this]
  obtain ⟨i, hi, hz, _⟩ := info_of inf4
  have hl := h.used.lookup keysU Try.underlying57 hi hz x false
  rw [Q1I, if_neg hx] at hl
  obtain ⟨w1, hr, hm, hext⟩ := h.used.update keysU Try.underlying57 x (.bool true)
  rw [Q2Q hx] at hm
  exact ⟨some g.used, h.pCell fun _ _ => rfl, false, hl, some g.used, h.pCell fun _ _ => rfl, w1, hr, rfl, h.set_used (hext _ rfl) hm, hext _ m_used⟩

theorem Q1K (h : Orc w g S) (hok : S.ok) (hlen : S.used.length < 1000000) :
    Calls Try.prog 18 #[.pointer (some (blk g.p))] w (Gives (u64V (freshOf S).1) fun w' => Orc w' g (freshOf S).2 ∧ Ext g.m w w') := by
  refine (oFresh.ok _ (R := fun v w' => v = u64V (freshOf S).1 ∧ Orc w' g (freshOf S).2 ∧ Ext g.m w w') ?_).mono fun e w' ⟨v, he, hv, hw⟩ => ⟨by rw [he, hv], hw⟩
  unfold oFresh.M
  refine ⟨fun k vs w1 => ∃ d, k = d.length ∧ Orc w1 g { S with draws := d } ∧ pickD d S.used = pickD S.draws S.used ∧ Ext g.m w w1, S.draws.length, ⟨S.draws, rfl, h, rfl, Ext.refl _ _⟩, ?_⟩
  rintro k w1 ⟨d, rfl, h1, hp, hx⟩
  obtain ⟨da, dc, hb, hle, hrow, hout⟩ := h1.st
  refine ⟨da, d.length, dc, hb.cella rfl, ?_⟩
  cases d with
  | nil =>
    -- the counter
    simp only [List.length_nil, Int.natCast_zero, gt_iff_lt, Int.lt_irrefl, decide_false, cond_false]
    have hf : freshOf S = (pickN S.used (S.used.length + 1) S.next, { S with draws := [], next := pickN S.used (S.used.length + 1) S.next, used := S.used ++ [pickN S.used (S.used.length + 1) S.next] }) := by
      simp [freshOf, ← hp, pickD]
    obtain ⟨q1, q2, q3, q4⟩ := hok
    obtain ⟨a1, a2, a3, a4, a5⟩ := Q11 S.used (S.used.length + 1) S.next q1 (gap S.used _ _ (by omega))
    rw [hf]
    generalize hN : pickN S.used (S.used.length + 1) S.next = N at *
    refine ⟨fun k vs w1 => ∃ n, S.next ≤ n ∧ n ≤ N ∧ k = (N - n).toNat ∧ Orc w1 g { S with draws := [], next := n } ∧ Ext g.m w w1, (N - S.next).toNat, ⟨S.next, Int.le_refl _, a1, rfl, h1, hx⟩, ?_⟩
    rintro k w2 ⟨n, hn1, hn2, rfl, h2, hx2⟩
    refine ⟨n, h2.pCell fun _ _ => rfl, ?_⟩
    by_cases hn : n = N
    · subst hn
      refine (Q3o h2 a4 a3).mono fun e w3 ⟨he, h3, hx3⟩ => ⟨true, he, ?_⟩
      exact ⟨n, h3.pCell fun _ _ => rfl, rfl, h3, hx2.trans hx3⟩
    · refine (take_no h2 (.inr (a5 n hn1 (by omega)))).mono fun e w3 ⟨he, hw3⟩ => ⟨false, he, ?_⟩
      subst hw3
      obtain ⟨da2, dc2, hb2, hle2, hrow2, hout2⟩ := h2.st
      have hwr : IntKind.u64.wrap (n + 1) = n + 1 := by
        simp only [IntKind.wrap, IntKind.bits, IntKind.signed]
        simp
        omega
      refine ⟨n, h2.pCell fun _ _ => rfl, hb2.cana (i := 2) rfl, Q01 fun w4 hw4 => ?_⟩
      rw [hwr] at hw4
      have hext : Ext (fun b => b = g.p) w3 w4 := by
        subst hw4; exact (Ext.refl _ _).setCell (.inl (by rw [add_zero, add_blk])) _
      have hb4 := hb2.seta 2 (.int .u64 (n + 1))
      refine ⟨(N - (n + 1)).toNat, by omega, n + 1, by omega, by omega, rfl, ?_, hx2.trans (hext.mono fun b hb _ => by subst hb; exact m_p)⟩
      refine h2.set_p hext ⟨da2, dc2, ?_, hle2, RowAt.nil _ _, hout2⟩
      subst hw4
      exact hb4
  | cons x r =>
    have hpos : decide (((x :: r).length : Int) > 0) = true := by simp
    rw [hpos]
    have hcell : w1.cell? (((blk g.p).add 0)) = some (.slice da (x :: r).length dc) := hb.cella rfl
    obtain ⟨ad, rfl⟩ := hrow.addr (by simp)
    have hx0 : w1.cell? (ad.add (Int.toNat 0 * 1)) = some (.int .u64 x) := hrow.at_ (i := 0) rfl
    refine ⟨_, _, dc, hcell, Int.le_refl _, by show (0 : Int) < ((x :: r).length : Int); rw [List.length_cons]; omega, x, hx0, _, _, dc, hcell, by omega, by show (1 : Int) ≤ ((x :: r).length : Int); rw [List.length_cons]; omega, hb.cana (i := 0) rfl, Q01 fun w2 hw2 => ?_⟩
    have hext : Ext (fun b => b = g.p) w1 w2 := by
      subst hw2; exact (Ext.refl _ _).setCell (.inl (by rw [add_zero, add_blk])) _
    have hb2 := hb.seta 0 (.slice (if dc = Int.toNat 1 then some ad else Option.map (fun z : Addr => z.add ((Int.toNat 1) * 1)) (some ad)) ((x :: r).length - (Int.toNat 1)) (dc - (Int.toNat 1)))
    have hxm : Ext g.m w w2 := hx.trans (hext.mono fun b hb _ => by subst hb; exact m_p)
    have hrow2 : RowAt w1 (if dc = 1 then some ad else Option.map (·.add 1) (some ad)) (r.map u64V) := by
      have := hrow.drop 1 dc (fun e => by simp only [List.length_cons, List.length_map] at hle ⊢; omega)
      simpa using this
    have hout2 : r.map u64V ≠ [] → Out g.M (if dc = 1 then some ad else Option.map (·.add 1) (some ad)) := fun _ q hq => by
      split at hq
      · exact hout (by simp) q hq
      · simp only [Option.map_some, Option.some.injEq] at hq
        subst hq; rw [Q22]; exact hout (by simp) ad rfl
    have h2 : Orc w2 g { S with draws := r } := by
      refine h1.set_p (x := S.next) hext ⟨_, dc - 1, ?_, by simp at hle ⊢; omega, hrow2.ext' hext (fun h0 q hq hb => hout2 h0 q hq (.inl (by rw [hb]; exact m_p))), hout2⟩
      subst hw2
      exact hb2
    by_cases hxu : x = 0 ∨ x ∈ S.used
    · refine (take_no h2 hxu).mono fun e w3 ⟨he, hw3⟩ => ⟨false, he, ?_⟩
      subst hw3
      exact ⟨r.length, by simp, r, rfl, h2, by rw [← hp]; simp [pickD, hxu], hxm⟩
    · rw [not_or] at hxu
      refine (Q3o h2 hxu.1 hxu.2).mono fun e w3 ⟨he, h3, hx3⟩ => ⟨true, he, ?_⟩
      have hf : freshOf S = (x, { S with draws := r, used := S.used ++ [x] }) := by
        simp [freshOf, ← hp, pickD, hxu]
      rw [hf]
      exact ⟨rfl, h3, hxm.trans hx3⟩

theorem u64_one (l : List Int) : ∀ u ∈ l.map u64V, u.oneCell' = true := fun u hu => by
  obtain ⟨b, _, rfl⟩ := List.mem_map.1 hu; rfl
theorem Q2M {a : Option Addr} {c : Nat} {l : List Int} (h : RowAt w a (l.map u64V)) (hl : l.length ≤ 1000000) :
    Calls Try.prog 17 #[.slice a l.length c] w (fun e w' => ∃ a' c', e = .returned (.slice a' l.length c') ∧ l.length ≤ c' ∧ RowAt w' a' (l.map u64V) ∧ Ext no w w' ∧ Fresh w w' a') := by
  refine (clone64.ok a l.length c (R := fun v w' => ∃ a' c', v = (.slice a' l.length c') ∧ l.length ≤ c' ∧ RowAt w' a' (l.map u64V) ∧ Ext no w w' ∧ Fresh w w' a') ?_).mono fun e w' ⟨v, he, a', c', hv, hw⟩ => ⟨a', c', by rw [he, hv], hw⟩
  unfold clone64.M
  cases a with
  | none =>
    have : l = [] := by simpa using h.none_nil
    subst this
    exact ⟨none, 0, rfl, Nat.le_refl _, RowAt.nil _ _, Ext.refl _ _, fun ad ha => by cases ha⟩
  | some ad =>
    rw [Option.isNone_some, cond_false]
    refine Q01 fun w2 hw2 => ?_
    subst hw2
    obtain ⟨i, hi, hz, hs, hb⟩ := info_of inf27
    obtain ⟨a', c', w', hr, h1, h2, h3, h4⟩ := Q49 (c := c) (m := l.length) (ty := 55) Try.underlying55 hi hz hs hb rfl (by simp) h (u64_one l) (by omega) (by omega)
    exact ⟨a', l.length, c', w', hr, a', c', rfl, h1, h2, h3, h4⟩
theorem new_map {κ : Type} [DecidableEq κ] (enc : κ → Value) {w1 w2 : World} (h : w2 = w1.alloc (.map #[] 0)) : MapIs w2 w1.heap.size enc [] ∧ Ext no w1 w2 ∧ w2.heap.size = w1.heap.size + 1 := by
  subst h; exact ⟨MapIs.new _ _, (Ext.refl _ _).alloc _, by simp⟩
theorem Q43 (x0 : Nat → Prop) (hx0 : ∀ b, x0 b → b < w.heap.size) {a : Option Addr} {c : Nat} {l : List Int} (h : RowAt w a (l.map u64V)) (hl : l.length ≤ 1000000) :
    Calls Try.prog 5 #[.slice a l.length c] w (fun e w' => ∃ g : OG, e = .returned (.pointer (some (blk g.p))) ∧ Orc w' g (OS.init l) ∧ Ext no w w' ∧ (∀ b, g.m b → w.heap.size ≤ b ∧ b < w'.heap.size) ∧ g.x = x0) := by
  refine (oNew.ok a l.length c (R := fun v w' => ∃ g : OG, v = (.pointer (some (blk g.p))) ∧ Orc w' g (OS.init l) ∧ Ext no w w' ∧ (∀ b, g.m b → w.heap.size ≤ b ∧ b < w'.heap.size) ∧ g.x = x0) ?_).mono fun e w' ⟨v, he, g, hv, hw⟩ => ⟨g, by rw [he, hv], hw⟩
  unfold oNew.M
  refine (Q2M h hl).mono fun e w4 ⟨a', c', he, hle, hrow, hx, hf⟩ => ⟨a', l.length, c', he, ?_⟩
  refine Q01 fun w5 h5 => Q01 fun w6 h6 => Q01 fun w7 h7 => Q01 fun w8 h8 => Q01 fun w9 h9 => Q01 fun w10 h10 => Q01 fun w11 h11 => Q01 fun w12 h12 => Q01 fun w13 h13 => Q01 fun w14 h14 => ?_
  obtain ⟨m5, e5, s5⟩ := new_map u64V h5
  obtain ⟨m6, e6, s6⟩ := new_map strV h6
  obtain ⟨m7, e7, s7⟩ := new_map u64V h7
  obtain ⟨m8, e8, s8⟩ := new_map u64V h8
  obtain ⟨m9, e9, s9⟩ := new_map u64V h9
  obtain ⟨m10, e10, s10⟩ := new_map signedV h10
  obtain ⟨m11, e11, s11⟩ := new_map u64V h11
  obtain ⟨m12, e12, s12⟩ := new_map u64V h12
  obtain ⟨m13, e13, s13⟩ := new_map u64V h13
  have e14 : Ext no w13 w14 := by rw [h14]; exact (Ext.refl _ _).alloc _
  have s14 : w14.heap.size = w13.heap.size + 1 := by rw [h14]; simp
  have x13 := e14
  have x12 := e13.trans x13
  have x11 := e12.trans x12
  have x10 := e11.trans x11
  have x9 := e10.trans x10
  have x8 := e9.trans x9
  have x7 := e8.trans x8
  have x6 := e7.trans x7
  have x5 := e6.trans x6
  have x4 := e5.trans x5
  have hsz := hx.size
  have hm : ∀ b, (OG.mk w13.heap.size w4.heap.size w5.heap.size w6.heap.size w7.heap.size w8.heap.size w9.heap.size w10.heap.size w11.heap.size w12.heap.size x0).m b → w4.heap.size ≤ b ∧ b < w14.heap.size := fun b hb => by
    simp only [OG.m, OG.list, List.mem_cons, List.not_mem_nil, or_false] at hb
    omega
  refine ⟨⟨w13.heap.size, w4.heap.size, w5.heap.size, w6.heap.size, w7.heap.size, w8.heap.size, w9.heap.size, w10.heap.size, w11.heap.size, w12.heap.size, x0⟩, rfl, ⟨?_, ?_, m5.ext x5 id, m6.ext x6 id, m7.ext x7 id, m8.ext x8 id, m9.ext x9 id, m10.ext x10 id, m11.ext x11 id, ⟨[], m12.ext x12 id, trivial⟩, m13.ext x13 id, fun b hb hxx => ?_, fun b hb => ?_⟩, hx.trans x4, fun b hb => ⟨?_, (hm b hb).2⟩, rfl⟩
  · simp only [OG.list, List.nodup_cons, List.mem_cons, not_or, List.not_mem_nil, not_false_eq_true, List.nodup_nil, and_true]
    omega
  · refine ⟨a', c', ?_, hle, hrow.ext x4 (fun _ _ h => h), fun _ => hf.out fun b hb => hb.elim (fun hb => .inr (hm b hb).1) (fun hb => .inl (hx0 b hb))⟩
    rw [h14]
    exact Blk.new _ _ _
  · have h1 := (hm b hb).1
    have h2 := hx0 b hxx
    omega
  · exact Nat.lt_of_lt_of_le (hx0 b hb) (hx.trans x4).size
  · exact Nat.le_trans hsz (hm b hb).1

end
theorem Q2p : Two Try.prog 89 (.int .u64) .string := Two.mk' Try.underlying89 (by kernel_rfl) Try.underlying27 Try.underlying9
theorem keysG : Keys Try.prog 89 signedV := Q2R Q2p
theorem Q34 : (Try.prog.info? 89).map (fun i => (i.zero, i.size, i.bytes)) = some (some (.agg #[.int .u64 0, .string ByteArray.empty]), 2, 24) := by kernel_rfl

section
variable {w w' : World} {g : OG} {S : OS}
theorem m_signs : g.m g.signs := by simp [OG.m, OG.list]
theorem Q3C : g.m g.signed := by simp [OG.m, OG.list]
theorem Q3V (h : Orc w g S) (hok : S.ok) (hlen : S.used.length + 1 < 1000000) :
    Calls Try.prog 6 #[.pointer (some (blk g.p))] w (Gives (.tuple #[u64V (pairOf S).1.1, u64V (pairOf S).1.2]) fun w' => Orc w' g (pairOf S).2 ∧ Ext g.m w w') := by
  refine (oPair.ok _ (R := fun v w' => v = .tuple #[u64V (pairOf S).1.1, u64V (pairOf S).1.2] ∧ Orc w' g (pairOf S).2 ∧ Ext g.m w w') ?_).mono fun e w' ⟨v, he, hv, hw⟩ => ⟨by rw [he, hv], hw⟩
  unfold oPair.M
  refine (Q1K h hok (by omega)).mono fun e w4 ⟨he, hO, hx⟩ => ⟨(freshOf S).1, he, ?_⟩
  obtain ⟨w7, hu, hm, hext⟩ := hO.secrets.update keysU Try.underlying57 (freshOf S).1 (.bool true)
  rw [(Q0A S).2.2.1, Q4d] at hm
  have hO7 := hO.set_secrets (hext _ rfl) hm
  obtain ⟨_, _, h3, h4⟩ := Q0D hok
  refine ⟨some g.secrets, hO.pCell fun _ _ => rfl, w7, hu, ?_⟩
  refine (Q1K hO7 h4 (by show (freshOf S).2.used.length < _; rw [h3]; simp; omega)).mono fun e w10 ⟨he, hO10, hx10⟩ => ⟨_, he, ?_⟩
  obtain ⟨w13, hu13, hm13, hext13⟩ := hO10.publics.update keysU Try.underlying59 (pairOf S).1.2 (u64V (freshOf S).1)
  rw [Q1U, (Q0A _).2.2.2.1] at hm13
  rw [show ({ (freshOf S).2 with secrets := badd S.secrets (freshOf S).1 } : OS).publics = S.publics from (Q0A S).2.2.2.1] at hm13
  exact ⟨some g.publics, hO10.pCell fun _ _ => rfl, w13, hu13, rfl, hO10.set_publics (hext13 _ rfl) hm13, ((hx.trans (hext _ Q4e)).trans hx10).trans (hext13 _ Q42)⟩

theorem Q37 (h : Orc w g S) (k : Int) : (Instr.lookup 57 (.map (some g.secrets)) (.int .u64 k) false).run Try.prog w = .ok (.bool (decide (k ∈ S.secrets))) w := by
  obtain ⟨i, hi, hz, _⟩ := info_of inf4
  have hl := h.secrets.lookup keysU Try.underlying57 hi hz k false
  rw [Q1I] at hl
  refine hl.trans ?_
  by_cases hk : k ∈ S.secrets
  · simp [hk]
  · simp [hk]
theorem Q3g (h : Orc w g S) (k : Int) : (Instr.lookup 59 (.map (some g.publics)) (.int .u64 k) true).run Try.prog w = .ok (.tuple #[.int .u64 ((alook S.publics k).getD 0), .bool (alook S.publics k).isSome]) w := by
  obtain ⟨i, hi, hz, _⟩ := info_of inf27
  have hl := h.publics.lookup keysU Try.underlying59 hi hz k true
  rw [Q0X] at hl
  refine hl.trans ?_
  cases alook S.publics k <;> rfl

theorem Q40 (h : Orc w g S) (hok : S.ok) (hlen : S.used.length < 1000000) (k : Int) {a : Option Addr} {c : Nat} {bs : List UInt8} (hr : RowAt w a (bytesV bs)) (ho : bytesV bs ≠ [] → Out g.m a) :
    Calls Try.prog 20 #[.pointer (some (blk g.p)), .int .u64 k, .slice a bs.length c] w (Gives (.tuple #[u64V (signOf S k bs).1.1, .int .i64 (if (signOf S k bs).1.2 then 0 else 11)]) fun w' => Orc w' g (signOf S k bs).2 ∧ Ext g.m w w') := by
  refine (oSign.ok _ _ _ _ _ (R := fun v w' => v = .tuple #[u64V (signOf S k bs).1.1, .int .i64 (if (signOf S k bs).1.2 then 0 else 11)] ∧ Orc w' g (signOf S k bs).2 ∧ Ext g.m w w') ?_).mono fun e w' ⟨v, he, hv, hw⟩ => ⟨by rw [he, hv], hw⟩
  unfold oSign.M
  rw [Option.isNone_some, cond_false]
  refine ⟨some g.secrets, h.pCell fun _ _ => rfl, _, Q37 h k, ?_⟩
  by_cases hk' : ¬ k ∈ S.secrets
  · have hk := hk'
    have : signOf S k bs = ((0, false), S) := by unfold signOf; rw [if_neg hk]
    rw [this, decide_eq_false hk]
    exact ⟨rfl, h, Ext.refl _ _⟩
  have hk := Decidable.not_not.1 hk'
  rw [decide_eq_true hk, Bool.not_true, cond_false]
  have hcv := Q1Q (P := Try.prog) (c := c) Try.underlying34 Try.underlying5 Try.underlying9 hr
  refine ⟨_, hcv, Q01 fun w8 h8 => ?_⟩
  have hb8 : Blk w8 w.heap.size 89 [.int .u64 0, .string ByteArray.empty] := by subst h8; exact Blk.new _ _ _
  have e8 : Ext no w w8 := by subst h8; exact (Ext.refl _ _).alloc _
  refine ⟨hb8.cana (i := 0) rfl, Q01 fun w9 h9 => ?_⟩
  have hb9 : Blk w9 w.heap.size 89 [.int .u64 k, .string ByteArray.empty] := by subst h9; exact hb8.seta 0 _
  have e9 : Ext no w w9 := by subst h9; exact e8.setCell (.inr (by rw [add_zero]; exact Nat.le_refl _)) _
  refine ⟨hb9.cana (i := 1) rfl, Q01 fun w10 h10 => ?_⟩
  have hb10 : Blk w10 w.heap.size 89 [.int .u64 k, strV bs] := by subst h10; exact hb9.seta 1 _
  have e10 : Ext no w w10 := by subst h10; exact e9.setCell (.inr (by rw [add_blk]; exact Nat.le_refl _)) _
  refine Q01 fun w11 h11 => ?_
  have hb11 : Blk w11 w.heap.size 89 [.int .u64 k, strV bs] := by subst h11; exact hb10
  have e11 : Ext no w w11 := by subst h11; exact e10.drew
  have hO11 := h.none e11
  have cells : ∀ w', Blk w' w.heap.size 89 [.int .u64 k, strV bs] → cellsAt w' (blk w.heap.size) [.int .u64 k, strV bs] 0 := fun w' hb => ⟨hb.cella rfl, hb.cella rfl, trivial⟩
  obtain ⟨i, hi, hz, _⟩ := info_of inf27
  have hl := hO11.signs.lookup keysG Try.underlying60 hi hz (k, bs) true
  rw [Q0X] at hl
  cases hs : alook S.signs (k, bs) with
  | some x =>
    rw [hs] at hl
    refine ⟨some g.signs, hO11.pCell fun _ _ => rfl, k, _, cells _ hb11, x, true, hl, ?_⟩
    have : signOf S k bs = ((x, true), S) := by unfold signOf; rw [if_pos hk, hs]
    rw [this]
    exact ⟨rfl, hO11, e11.none⟩
  | none =>
    rw [hs] at hl
    refine ⟨some g.signs, hO11.pCell fun _ _ => rfl, k, _, cells _ hb11, 0, false, hl, ?_⟩
    have hsg : signOf S k bs = (((freshOf S).1, true), { (freshOf S).2 with signs := aput S.signs (k, bs) (freshOf S).1, signed := aput S.signed (freshOf S).1 (k, bs) }) := by unfold signOf; rw [if_pos hk, hs]
    have hnm : ¬ g.m w.heap.size := fun hm => by
      have : ∀ b, g.m b → b < w.heap.size := fun b hb => by
        obtain ⟨da, dc, hp, _⟩ := h.st
        obtain ⟨lv, hse, _⟩ := h.sealed
        simp only [OG.m, OG.list, List.mem_cons, List.not_mem_nil, or_false] at hb
        rcases hb with rfl | rfl | rfl | rfl | rfl | rfl | rfl | rfl | rfl | rfl
        · exact hp.lt
        · exact h.used.lt
        · exact h.hashes.lt
        · exact h.keys.lt
        · exact h.secrets.lt
        · exact h.publics.lt
        · exact h.signs.lt
        · exact h.signed.lt
        · exact hse.lt
        · exact h.wrapped.lt
      exact absurd (this _ hm) (Nat.lt_irrefl _)
    refine (Q1K hO11 hok hlen).mono fun e w20 ⟨he, hO20, hx20⟩ => ⟨(freshOf S).1, he, Q01 fun w21 h21 => ?_⟩
    have hx21 : Ext no w20 w21 := by subst h21; exact (Ext.refl _ _).drew
    have hO21 := hO20.none hx21
    have hb21 := (hb11.ext hx20 hnm).ext hx21 id
    obtain ⟨n, w32, hme, hpend, hext32⟩ := hO21.signs.entry keysG Try.underlying60 hi hz (k, bs)
    obtain ⟨w33, hst, hm33, hext33⟩ := hpend.store (t := 60) (u64V (freshOf S).1)
    have hmm : mput (mput ((freshOf S).2.signs.map fun p => (p.1, u64V p.2)) (k, bs) ((mlook ((freshOf S).2.signs.map fun p => (p.1, u64V p.2)) (k, bs)).getD (.int .u64 0))) (k, bs) (u64V (freshOf S).1) = (aput S.signs (k, bs) (freshOf S).1).map fun p => (p.1, u64V p.2) := by
      rw [Q23, Q1U, (Q0A S).2.2.2.2.1]
    rw [hmm] at hm33
    have x33 : ∀ m : Nat → Prop, m g.signs → Ext m w21 w33 := fun m hm => (hext32 m hm).trans (hext33 m hm)
    have hO33 := hO21.set_signs (x33 _ rfl) hm33
    have hns : ¬ (w.heap.size = g.signs) := fun e => hnm (e ▸ m_signs)
    have hb32 := hb21.ext (hext32 (fun b => b = g.signs) rfl) hns
    have hb33 := hb21.ext (x33 (fun b => b = g.signs) rfl) hns
    obtain ⟨i2, hi2, hz2, _⟩ := info_of Q34
    obtain ⟨n2, w37, hme2, hpend2, hext37⟩ := hO33.signed.entry keysU Try.underlying61 hi2 hz2 (freshOf S).1
    obtain ⟨w38, hst2, hm38, hext38⟩ := hpend2.store (t := 61) (signedV (k, bs))
    have hold : ∃ v t, (mlook ((freshOf S).2.signed.map fun p => (p.1, signedV p.2)) (freshOf S).1).getD (.agg #[.int .u64 0, .string ByteArray.empty]) = .agg #[.int .u64 v, .string t] := by
      rw [Q0X]
      cases alook (freshOf S).2.signed (freshOf S).1 with
      | none => exact ⟨0, _, rfl⟩
      | some q => exact ⟨q.1, _, rfl⟩
    obtain ⟨ov, ot, hold⟩ := hold
    have hme2' := hme2
    rw [show ({ (freshOf S).2 with signs := aput S.signs (k, bs) (freshOf S).1 } : OS).signed = (freshOf S).2.signed from rfl, hold] at hme2'
    rw [Q23, Q1U, show ({ (freshOf S).2 with signs := aput S.signs (k, bs) (freshOf S).1 } : OS).signed = S.signed from (Q0A S).2.2.2.2.2.1] at hm38
    have x38 : ∀ m : Nat → Prop, m g.signed → Ext m w33 w38 := fun m hm => (hext37 m hm).trans (hext38 m hm)
    have hb37 := hb33.ext (hext37 (fun b => b = g.signed) rfl) (fun e => hnm (e ▸ Q3C))
    have hold1 : ∃ v, (mlook ((freshOf S).2.signs.map fun p => (p.1, u64V p.2)) (k, bs)).getD (.int .u64 0) = .int .u64 v := by
      rw [Q0X]
      cases alook (freshOf S).2.signs (k, bs) with
      | none => exact ⟨0, rfl⟩
      | some q => exact ⟨q, rfl⟩
    obtain ⟨ov1, hold1⟩ := hold1
    rw [hold1] at hme
    refine ⟨some g.signs, hO21.pCell fun _ _ => rfl, k, _, cells _ hb21, some g.signed, hO21.pCell fun _ _ => rfl, k, _, cells _ hb21, ov1, n, w32, hme, cells _ hb32, w33, hst, cells _ hb33, ov, ot, n2, w37, hme2', cells _ hb37, w38, hst2, ?_⟩
    rw [hsg]
    refine ⟨rfl, hO33.set_signed (x38 _ rfl) hm38, ?_⟩
    exact (((e11.none.trans hx20).trans hx21.none).trans (x33 _ m_signs)).trans (x38 _ Q3C)

theorem Q3k (h : Orc w g S) (k : Int) : (Instr.lookup 61 (.map (some g.signed)) (.int .u64 k) true).run Try.prog w =
    .ok (.tuple #[signedV ((alook S.signed k).getD (0, [])), .bool (alook S.signed k).isSome]) w := by
  obtain ⟨i, hi, hz, _⟩ := info_of Q34
  have hl := h.signed.lookup keysU Try.underlying61 hi hz k true
  rw [Q0X] at hl
  refine hl.trans ?_
  cases alook S.signed k <;> rfl

theorem Q3e (h : Orc w g S) (p x : Int) {a : Option Addr} {c : Nat} {bs : List UInt8} (hr : RowAt w a (bytesV bs)) :
    Calls Try.prog 36 #[.pointer (some (blk g.p)), .int .u64 p, .slice a bs.length c, .int .u64 x] w (Gives (.bool (Q1t S p bs x)) fun w' => Ext no w w') := by
  refine (oVerify.ok _ _ _ _ _ _ (R := fun v w' => v = .bool (Q1t S p bs x) ∧ Ext no w w') ?_).mono fun e w' ⟨v, he, hv, hw⟩ => ⟨by rw [he, hv], hw⟩
  unfold oVerify.M
  rw [Option.isNone_some, cond_false]
  refine ⟨some g.publics, h.pCell fun _ _ => rfl, _, _, Q3g h p, some g.signed, h.pCell fun _ _ => rfl, _, _, _, Q3k h x, Q01 fun w14 h14 => ?_⟩
  have hb14 : Blk w14 w.heap.size 89 [.int .u64 0, .string ByteArray.empty] := by subst h14; exact Blk.new _ _ _
  have e14 : Ext no w w14 := by subst h14; exact (Ext.refl _ _).alloc _
  refine ⟨hb14.cana (i := 0) rfl, Q01 fun w15 h15 => ?_⟩
  have hb15 : Blk w15 w.heap.size 89 [.int .u64 ((alook S.signed x).getD (0, [])).1, .string ByteArray.empty] := by subst h15; exact hb14.seta 0 _
  have e15 : Ext no w w15 := by subst h15; exact e14.setCell (.inr (by rw [add_zero]; exact Nat.le_refl _)) _
  refine ⟨hb15.cana (i := 1) rfl, Q01 fun w16 h16 => ?_⟩
  have hb16 : Blk w16 w.heap.size 89 [.int .u64 ((alook S.signed x).getD (0, [])).1, strV ((alook S.signed x).getD (0, [])).2] := by subst h16; exact hb15.seta 1 _
  have e16 : Ext no w w16 := by subst h16; exact e15.setCell (.inr (by rw [add_blk]; exact Nat.le_refl _)) _
  unfold Q1t
  cases hp : alook S.publics p with
  | none => exact ⟨rfl, e16⟩
  | some s =>
    cases hq : alook S.signed x with
    | none => exact ⟨rfl, e16⟩
    | some q =>
      rw [hq] at hb16
      have hcv := Q1Q (P := Try.prog) (c := c) Try.underlying34 Try.underlying5 Try.underlying9 (hr.no e16)
      refine ⟨_, _, ⟨hb16.cella rfl, hb16.cella rfl, trivial⟩, _, hcv, decide (q = (s, bs)), ?_, rfl, e16⟩
      rw [run_eql_struct]
      have := Q33 Q2p w16 (fun n t ht => equal_int' (a := q.1) (b := s) n t ht) (fun n t ht => equal_str' (a := q.2) (b := bs) n t ht) 9998
      simp only [Nat.reduceAdd] at this
      simp only [strV, Option.getD_some] at this ⊢
      rw [this]
      have hd : (q.1 == s && decide (q.2 = bs)) = decide (q = (s, bs)) := by
        rw [Bool.eq_iff_iff]
        simp [Prod.ext_iff]
      rw [hd]
      rfl
end
set_option maxRecDepth 20000
def POrc (w : World) (o : Own) (k : Nat) (S : OS) : Prop := ∃ g : OG, g.p = k ∧ Orc w g S ∧ (∀ b, g.m b → o b = some k) ∧ (∀ b, b < w.heap.size → ∀ j, o b = some j → j ≠ k → g.x b)
def Gs (K : Nat → Prop) (w : World) (o : Own) (v : Value) (Q : World → Own → Prop) (e : Ending) (w' : World) : Prop := ∃ o', e = .returned v ∧ Step K w o w' o' ∧ Q w' o'
section
variable {w w' : World} {o o' : Own} {k : Nat} {S : OS} {K : Nat → Prop}
theorem POrc.lt (h : POrc w o k S) : k < w.heap.size := by obtain ⟨g, rfl, h1, _⟩ := h; exact h1.mlt _ m_p
theorem POrc.step (h : POrc w o k S) (s : Step K w o w' o') (hk : ¬ K k) : POrc w' o' k S := by
  obtain ⟨g, h0, h1, h2, h3⟩ := h
  refine ⟨g.more w w', h0, h1.foreign s.ext fun b hb ⟨j, hj, hK⟩ => h3 b hb j hj fun e => hk (e ▸ hK), fun b hb => ?_, fun b hb j hj hne => ?_⟩
  · rw [s.same b (h1.mlt b hb)]; exact h2 b hb
  · by_cases hl : b < w.heap.size
    · rw [s.same b hl] at hj; exact .inl (h3 b hl j hj hne)
    · exact .inr ⟨by omega, hb⟩
theorem own_out {g : OG} {a : Option Addr} {cs : List Value} (h2 : ∀ b, g.m b → o b = some k) (hr : Row w o a cs) : cs ≠ [] → Out g.m a := fun h0 ad ha hm => by
  have := h2 _ hm
  rw [hr.2 h0 ad ha] at this; cases this
theorem POrc.turn {g : OG} {S' : OS} (h2 : ∀ b, g.m b → o b = some g.p) (h3 : ∀ b, b < w.heap.size → ∀ j, o b = some j → j ≠ g.p → g.x b) (hl : ∀ b, g.m b → b < w.heap.size) (ok : Tags w o) (h : Orc w' g S') (X : Ext g.m w w') :
    Step (fun j => j = g.p) w o w' (grow w o) ∧ POrc w' (grow w o) g.p S' := by
  refine ⟨Step.of_ext X ok fun b hb _ => h2 b hb, g, rfl, h, fun b hb => ?_, fun b hb j hj hne => ?_⟩
  · rw [grow_lt (hl b hb)]; exact h2 b hb
  · by_cases hlt : b < w.heap.size
    · rw [grow_lt hlt] at hj; exact h3 b hlt j hj hne
    · rw [grow_ge (by omega)] at hj; cases hj
open Classical in
theorem NewO (ok : Tags w o) {a : Option Addr} {c : Nat} {l : List Int} (h : RowAt w a (l.map u64V)) (hl : l.length ≤ 1000000) :
    Calls Try.prog 5 #[.slice a l.length c] w (fun e w' => ∃ k o', e = .returned (.pointer (some (blk k))) ∧ w.heap.size ≤ k ∧ Step no w o w' o' ∧ POrc w' o' k (OS.init l)) := by
  refine (Q43 (fun b => b < w.heap.size ∧ o b ≠ none) (fun b hb => hb.1) h hl).mono fun e w' ⟨g, he, hO, hx, hg, hgx⟩ => ?_
  have hp := hg _ m_p
  refine ⟨g.p, fun b => if b < w.heap.size then o b else if g.m b then some g.p else none, he, hp.1, ⟨hx.mono fun _ h _ => h.elim, fun b hb => if_pos hb, ok, fun b j hb hj => ?_⟩, g, rfl, hO, fun b hb => ?_, fun b hb j hj hne => ?_⟩
  · by_cases hlt : b < w.heap.size
    · simp only [if_pos hlt] at hj; exact Nat.lt_of_lt_of_le (ok b j hlt hj) hx.size
    · simp only [if_neg hlt] at hj
      split at hj
      · cases hj; exact hp.2
      · cases hj
  · have := (hg b hb).1
    simp only [if_neg (by omega : ¬ b < w.heap.size), if_pos hb]
  · by_cases hlt : b < w.heap.size
    · simp only [if_pos hlt] at hj
      rw [hgx]
      exact ⟨hlt, by rw [hj]; simp⟩
    · simp only [if_neg hlt] at hj
      split at hj
      · cases hj; exact absurd rfl hne
      · cases hj
theorem PairO (h : POrc w o k S) (ok : Tags w o) (hok : S.ok) (hlen : S.used.length + 1 < 1000000) :
    Calls Try.prog 6 #[.pointer (some (blk k))] w (Gs (fun j => j = k) w o (.tuple #[u64V (pairOf S).1.1, u64V (pairOf S).1.2]) fun w' o' => POrc w' o' k (pairOf S).2) := by
  obtain ⟨g, rfl, h1, h2, h3⟩ := h
  refine (Q3V h1 hok hlen).mono fun e w' ⟨he, hO, hx⟩ => ?_
  obtain ⟨s, p⟩ := POrc.turn h2 h3 h1.mlt ok hO hx
  exact ⟨_, he, s, p⟩
theorem SignO (h : POrc w o k S) (ok : Tags w o) (hok : S.ok) (hlen : S.used.length < 1000000) (s : Int) {a : Option Addr} {c : Nat} {bs : List UInt8} (hr : Row w o a (bytesV bs)) :
    Calls Try.prog 20 #[.pointer (some (blk k)), .int .u64 s, .slice a bs.length c] w (Gs (fun j => j = k) w o (.tuple #[u64V (signOf S s bs).1.1, .int .i64 (if (signOf S s bs).1.2 then 0 else 11)]) fun w' o' => POrc w' o' k (signOf S s bs).2) := by
  obtain ⟨g, rfl, h1, h2, h3⟩ := h
  refine (Q40 h1 hok hlen s hr.1 (own_out h2 hr)).mono fun e w' ⟨he, hO, hx⟩ => ?_
  obtain ⟨s, p⟩ := POrc.turn h2 h3 h1.mlt ok hO hx
  exact ⟨_, he, s, p⟩
theorem VerifyO (h : POrc w o k S) (ok : Tags w o) (p x : Int) {a : Option Addr} {c : Nat} {bs : List UInt8} (hr : Row w o a (bytesV bs)) :
    Calls Try.prog 36 #[.pointer (some (blk k)), .int .u64 p, .slice a bs.length c, .int .u64 x] w (Ret (.bool (Q1t S p bs x)) fun w' => Ext no w w') := by
  obtain ⟨g, rfl, h1, h2, h3⟩ := h
  exact (Q3e h1 p x hr.1).mono fun e w' ⟨he, hx⟩ => ⟨he, hx⟩
end
end Go.Proofs.Ytebghegecofmhaa
set_option maxRecDepth 20000
namespace Go.Proofs.Ytebghegecofmhaa.W
open Go Go.Mx Go.Proofs
theorem follows : Try.prog.follows .mixedOrders = true := by kernel_rfl
def wClone.M (a2 : Option Addr) (a7 a6 : Nat) (R : RW) (w : World) : Prop :=
 bif Option.isNone a2 then (
 R (.slice none 0 0) w) else (
 thenW (w.alloc (.cells #[] 5)) fun a5 =>
 ∃ (a1 : Option Addr) (a3 a0 : Nat) (a4 : World), (Builtin.append_ #[34, 34] 34 #[.slice (some (blk w.heap.size)) 0 0, .slice a2 a7 a6]).run Try.prog a5 = .ok (.slice a1 a3 a0) a4 ∧
 R (.slice a1 a3 a0) a4)

theorem wClone.ok (a2 : Option Addr) (a1 a0 : Nat) {R : RW} {w : World} (h : wClone.M a2 a1 a0 R w) : Calls Try.prog 34 #[.slice a2 a1 a0] w fun e w' => ∃ v, e = .returned v ∧ R v w' :=
  Q0m follows (H := []) (args := [.slice a2 a1 a0]) (cast (by kernel_rfl) h)

def wNum.M (ai : Option Addr) (al ak : Nat) (n2 : Int) (R : RW) (w : World) : Prop :=
 Calls Try.prog 34 #[.slice ai al ak] w fun am aj => ∃ (a5 : Option Addr) (a4 a3 : Nat), am = .returned (.slice a5 a4 a3) ∧
 ∃ (I0 : Nat → List Value → World → Prop) (m8 : Nat), I0 m8 [.int .u64 n2, .slice a5 a4 a3] aj ∧ ∀ (m9 : Nat) (a6 : World) (n6 : Int) (a1 : Option Addr) (a0 a2 : Nat), I0 m9 [.int .u64 n6, .slice a1 a0 a2] a6 →
 bif decide (n6 ≥ 128) then (
 thenW (a6.alloc (.cells #[.int .u8 (IntKind.u8.wrap ((BitVec.ofInt (IntKind.bits .u8) (IntKind.u8.wrap n6) ||| BitVec.ofInt (IntKind.bits .u8) 128).toNat))] 5)) fun af =>
 ∃ (a8 : Option Addr) (ad ac : Nat) (ab : World), (Builtin.append_ #[34, 34] 34 #[.slice a1 a0 a2, .slice (some (blk a6.heap.size)) 1 1]).run Try.prog af = .ok (.slice a8 ad ac) ab ∧
 0 ≤ (7 : Int) ∧
 ∃ ah, ah < m9 ∧ I0 ah [.int .u64 (Int.fdiv n6 (2 ^ (min (Int.toNat 7) (IntKind.bits .u64)))), .slice a8 ad ac] ab) else (
 thenW (a6.alloc (.cells #[.int .u8 (IntKind.u8.wrap n6)] 5)) fun ag =>
 ∃ (a9 : Option Addr) (a7 aa : Nat) (ae : World), (Builtin.append_ #[34, 34] 34 #[.slice a1 a0 a2, .slice (some (blk a6.heap.size)) 1 1]).run Try.prog ag = .ok (.slice a9 a7 aa) ae ∧
 R (.slice a9 a7 aa) ae)

theorem wNum.ok (a0 : Option Addr) (a1 a2 : Nat) (n2 : Int) {R : RW} {w : World} (h : wNum.M a0 a1 a2 n2 R w) : Calls Try.prog 52 #[.slice a0 a1 a2, .int .u64 n2] w fun e w' => ∃ v, e = .returned v ∧ R v w' :=
  Q0m follows (H := [(0, [], [(1, (.one (.int .u64))), (5, (.one .slice))])]) (args := [.slice a0 a1 a2, .int .u64 n2]) (cast (by kernel_rfl) h)

theorem infU8 : (Try.prog.info? 5).map (fun i => (i.zero, i.size, i.bytes)) = some (some (.int .u8 0), 1, 1) := by kernel_rfl
def GivesW (v : Value) (Q : World → Prop) (e : Ending) (w' : World) : Prop := e = .returned v ∧ Q w'

structure OwnB (N : Nat) (w : World) (a : Option Addr) (c : Nat) (bs : List UInt8) : Prop where
  own : w.ownsRow 0 5 1 (.slice a bs.length c) bs.length (bytesV bs)
  fr : ∀ ad, a = some ad → N ≤ ad.block ∧ ad.block < w.heap.size
section
variable {w w' : World} {a : Option Addr} {c N : Nat} {bs : List UInt8}
theorem OwnB.row (h : OwnB N w a c bs) : RowAt w a (bytesV bs) := by
  obtain ⟨_, _, hv, hr⟩ := RowAt.of_owns h.own
  cases hv; exact hr
theorem OwnB.le (h : OwnB N w a c bs) : bs.length ≤ c := (Q0R h.own).1
theorem OwnB.ext {m : Nat → Prop} (h : OwnB N w a c bs) (k : Ext m w w') (hm : ∀ ad, a = some ad → ¬ m ad.block) : OwnB N w' a c bs := by
  refine ⟨⟨h.own.1, ?_⟩, fun ad ha => ⟨(h.fr ad ha).1, Nat.lt_of_lt_of_le (h.fr ad ha).2 k.size⟩⟩
  rcases h.own.2 with h2 | ⟨g, cap, cur, hv, hb, hg, hr⟩
  · exact .inl h2
  · have ha : a = some ⟨g, 0, none⟩ := by cases hv; rfl
    exact .inr ⟨g, cap, cur, hv, hb, k.get hg (hm _ ha), hr⟩
theorem OwnB.no (h : OwnB N w a c bs) (k : Ext no w w') : OwnB N w' a c bs := h.ext k fun _ _ h => h
theorem OwnB.nil (N : Nat) (w : World) : OwnB N w none 0 [] := ⟨⟨by simp [bytesV], .inl ⟨rfl, rfl⟩⟩, fun ad ha => by cases ha⟩
theorem OwnB.append {t ty : TypeId} (ht : Try.prog.underlying t = some (.slice 5)) (h : OwnB N w a c bs) (hN : N ≤ w.heap.size) {xa : Option Addr} {xc : Nat} {xs : List UInt8} (hx : RowAt w xa (bytesV xs)) (hl : bs.length + xs.length ≤ 100000000) :
    ∃ a' c' w', (Builtin.append_ #[t, t] ty #[.slice a bs.length c, .slice xa xs.length xc]).run Try.prog w = .ok (.slice a' (bs ++ xs).length c') w' ∧ OwnB N w' a' c' (bs ++ xs) ∧ Ext (fun b => N ≤ b) w w' := by
  obtain ⟨i, hi, hz, hs, hb⟩ := info_of infU8
  obtain ⟨a', c', w', hr, ho, hg, hbk⟩ := Q1h (ty := ty) ht hi hz hs hb rfl (by decide) h.own (xa := xa) (m := xs.length) (c := xc) (by rw [Q12]; omega) hx (Q2k xs) (by omega) (by omega)
  have hrow : ∀ q, (Value.slice a bs.length c).ownBlock = some q → N ≤ q := fun q hq => by
    cases a with
    | none => simp [Value.ownBlock] at hq
    | some ad => simp only [Value.ownBlock, Option.some.injEq] at hq; subst hq; exact (h.fr ad rfl).1
  refine ⟨a', c', w', by rw [List.length_append]; exact hr, ⟨by rw [List.length_append, show bytesV (bs ++ xs) = bytesV bs ++ bytesV xs by simp [bytesV]]; exact ho, fun ad ha => ⟨?_, (Q0R ho).2 ad ha⟩⟩, Ext.of_grown hg fun q hq => .inl (hrow q hq)⟩
  subst ha
  rcases hbk with hq | hq
  · exact hrow _ hq.symm
  · simp only [Value.ownBlock, Option.some.injEq] at hq; omega
theorem Q3N (h : RowAt w a (bytesV bs)) (hl : bs.length ≤ 1000000) :
    Calls Try.prog 34 #[.slice a bs.length c] w (fun e w' => ∃ a' c', e = .returned (.slice a' bs.length c') ∧ OwnB w.heap.size w' a' c' bs ∧ Ext no w w') := by
  refine (wClone.ok a bs.length c (R := fun v w' => ∃ a' c', v = (.slice a' bs.length c') ∧ OwnB w.heap.size w' a' c' bs ∧ Ext no w w') ?_).mono fun e w' ⟨v, he, a', c', hv, hw⟩ => ⟨a', c', by rw [he, hv], hw⟩
  unfold wClone.M
  cases a with
  | none =>
    have : bs = [] := by simpa [bytesV] using h.none_nil
    subst this
    exact ⟨none, 0, rfl, OwnB.nil _ _, Ext.refl _ _⟩
  | some ad =>
    rw [Option.isNone_some, cond_false]
    refine Q01 fun w2 hw2 => ?_
    subst hw2
    obtain ⟨i, hi, hz, hs, hb⟩ := info_of infU8
    obtain ⟨a', c', w', hr, h1, h2, h3, h4, h5⟩ := Q3I (c := c) (m := bs.length) (ty := 34) Try.underlying34 hi hz hs hb rfl (Q12 bs) h (Q2k bs) (by omega) (by omega)
    exact ⟨a', bs.length, c', w', hr, a', c', rfl, ⟨h2, h5⟩, h4⟩
theorem Num_spec (h : RowAt w a (bytesV bs)) (hl : bs.length ≤ 1000000) {n : Nat} (hn : n < 18446744073709551616) :
    Calls Try.prog 52 #[.slice a bs.length c, .int .u64 n] w (fun e w' => ∃ a' c', e = .returned (.slice a' (bs ++ numL n).length c') ∧ OwnB w.heap.size w' a' c' (bs ++ numL n) ∧ Ext no w w') := by
  refine (wNum.ok _ _ _ _ (R := fun v w' => ∃ a' c', v = (.slice a' (bs ++ numL n).length c') ∧ OwnB w.heap.size w' a' c' (bs ++ numL n) ∧ Ext no w w') ?_).mono fun e w' ⟨v, he, a', c', hv, hw⟩ => ⟨a', c', by rw [he, hv], hw⟩
  unfold wNum.M
  refine (Q3N h hl).mono fun e w5 ⟨a5, c5, he, ho5, hx5⟩ => ⟨a5, _, c5, he, ?_⟩
  refine ⟨fun k vs w1 => ∃ (m : Nat) (l : List UInt8) (a1 : Option Addr) (c1 : Nat), vs = [.int .u64 m, .slice a1 l.length c1] ∧ m < 128 ^ k ∧ m < 18446744073709551616 ∧ 0 < k ∧ k ≤ 10 ∧ l ++ numF k m = bs ++ numL n ∧ l.length + k ≤ bs.length + 10 ∧ OwnB w.heap.size w1 a1 c1 l ∧ Ext no w w1, 10,
    ⟨n, bs, a5, c5, rfl, by omega, hn, by decide, by decide, rfl, by omega, ho5, hx5⟩, ?_⟩
  rintro k w1 m0 a0 n0 c0 ⟨m, l, a1, c1, hvs, hm, hm64, hk0, hk10, hl2, hlen, ho, hx⟩
  simp only [List.cons.injEq, Value.int.injEq, Value.slice.injEq, true_and, and_true] at hvs
  obtain ⟨rfl, rfl, rfl, rfl⟩ := hvs
  obtain ⟨k, rfl⟩ : ∃ q, k = q + 1 := ⟨k - 1, by omega⟩
  simp only [numF] at hl2
  by_cases h1 : m < 128
  · rw [show decide ((m : Int) ≥ 128) = false by simp; omega, cond_false]
    rw [if_pos h1] at hl2
    refine Q01 fun w15 h15 => ?_
    have e15 : Ext no w1 w15 := by subst h15; exact (Ext.refl _ _).alloc _
    have hv : IntKind.u8.wrap (m : Int) = ((UInt8.ofNat m).toNat : Int) := by rw [wu8 (by omega) (by omega), Q3A (by omega)]
    have hb15 : Blk w15 w1.heap.size 5 (bytesV [UInt8.ofNat m]) := by subst h15; rw [hv]; exact Blk.new _ _ _
    obtain ⟨a', c', w17, hr, ho17, hx17⟩ := (ho.no e15).append (t := 34) (ty := 34) Try.underlying34 (Nat.le_trans hx.size e15.size) (xc := 1) (RowAt.of_blk hb15) (by simp; omega)
    refine ⟨a', _, c', w17, hr, a', c', by rw [hl2], by rw [← hl2]; exact ho17, (hx.trans e15).then hx17 fun b hb => .inr hb⟩
  · rw [show decide ((m : Int) ≥ 128) = true by simp; omega, cond_true]
    rw [if_neg h1] at hl2
    refine Q01 fun w15 h15 => ?_
    have e15 : Ext no w1 w15 := by subst h15; exact (Ext.refl _ _).alloc _
    have hb15 : Blk w15 w1.heap.size 5 (bytesV [UInt8.ofNat (m % 128 + 128)]) := by subst h15; rw [or128]; exact Blk.new _ _ _
    obtain ⟨a', c', w17, hr, ho17, hx17⟩ := (ho.no e15).append (t := 34) (ty := 34) Try.underlying34 (Nat.le_trans hx.size e15.size) (xc := 1) (RowAt.of_blk hb15) (by simp; omega)
    have hdiv : Int.fdiv (m : Int) (2 ^ (min (Int.toNat 7) (IntKind.bits .u64))) = ((m / 128 : Nat) : Int) := by
      rw [show min (Int.toNat 7) (IntKind.bits .u64) = 7 from rfl, Int.fdiv_eq_ediv_of_nonneg _ (by decide)]; omega
    have hkk : 0 < k := Nat.pos_of_ne_zero fun e => by subst e; simp at hm; omega
    refine ⟨a', _, c', w17, hr, by decide, k, by omega, m / 128, l ++ [UInt8.ofNat (m % 128 + 128)], a', c', by rw [hdiv], by rw [Nat.pow_succ] at hm; omega, by omega, hkk, by omega, by rw [← hl2]; simp, by simp; omega, ho17, (hx.trans e15).then hx17 fun b hb => .inr hb⟩

/-! ### a reader -/
variable {p : Nat} {k : Int}
end
end Go.Proofs.Ytebghegecofmhaa.W
namespace Go.Proofs.Ytebghegecofmhaa.W
open Go Go.Mx Go.Proofs
section
variable {w w' : World} {p : Nat} {bs : List UInt8} {k : Int}
def numR (s : List UInt8 × Int) : Nat × (List UInt8 × Int) :=
  if s.2 = 0 then (match rdNum s.1 with | some (n, r) => (n, (r, 0)) | none => (0, ([], 4))) else (0, s)
def countR (m : Int) (s : List UInt8 × Int) : Nat × (List UInt8 × Int) :=
  if (numR s).2.2 = 0 then (if m < 0 ∨ ((numR s).1 : Int) > m then (0, ([], 3)) else numR s) else (0, (numR s).2)
def doneR (s : List UInt8 × Int) : Int := if s.2 = 0 then (if s.1.length > 0 then 4 else 0) else s.2
end
end Go.Proofs.Ytebghegecofmhaa.W
namespace Go.Proofs.Ytebghegecofmhaa.W
open Go Go.Mx Go.Proofs
def wInt.M (a4 : Option Addr) (a5 a7 : Nat) (n2 : Int) (R : RW) (w : World) : Prop :=
 0 ≤ (1 : Int) ∧
 0 ≤ (63 : Int) ∧
 Calls Try.prog 52 #[.slice a4 a5 a7, .int .u64 (IntKind.u64.wrap ((BitVec.ofInt (IntKind.bits .u64) (IntKind.u64.wrap ((IntKind.u64.wrap n2) * 2 ^ (min (Int.toNat 1) (IntKind.bits .u64)))) ^^^ BitVec.ofInt (IntKind.bits .u64) (IntKind.u64.wrap (Int.fdiv n2 (2 ^ (min (Int.toNat 63) (IntKind.bits .i64)))))).toNat))] w fun a6 a3 => ∃ (a2 : Option Addr) (a0 a1 : Nat), a6 = .returned (.slice a2 a0 a1) ∧
 R (.slice a2 a0 a1) a3

theorem wInt.ok (a0 : Option Addr) (a1 a2 : Nat) (n2 : Int) {R : RW} {w : World} (h : wInt.M a0 a1 a2 n2 R w) : Calls Try.prog 44 #[.slice a0 a1 a2, .int .i64 n2] w fun e w' => ∃ v, e = .returned v ∧ R v w' :=
  Q0m follows (H := []) (args := [.slice a0 a1 a2, .int .i64 n2]) (cast (by kernel_rfl) h)

def wBytes.M (a9 : Option Addr) (aa ae : Nat) (ac : Option Addr) (a3 ab : Nat) (R : RW) (w : World) : Prop :=
 Calls Try.prog 52 #[.slice a9 aa ae, .int .u64 (IntKind.u64.wrap (a3 : Int))] w fun ad a8 => ∃ (a2 : Option Addr) (a0 a1 : Nat), ad = .returned (.slice a2 a0 a1) ∧
 ∃ (a4 : Option Addr) (a5 a6 : Nat) (a7 : World), (Builtin.append_ #[34, 34] 34 #[.slice a2 a0 a1, .slice ac a3 ab]).run Try.prog a8 = .ok (.slice a4 a5 a6) a7 ∧
 R (.slice a4 a5 a6) a7

theorem wBytes.ok (a1 : Option Addr) (a2 a5 : Nat) (a4 : Option Addr) (a0 a3 : Nat) {R : RW} {w : World} (h : wBytes.M a1 a2 a5 a4 a0 a3 R w) : Calls Try.prog 46 #[.slice a1 a2 a5, .slice a4 a0 a3] w fun e w' => ∃ v, e = .returned v ∧ R v w' :=
  Q0m follows (H := []) (args := [.slice a1 a2 a5, .slice a4 a0 a3]) (cast (by kernel_rfl) h)

def zig (n : Int) : Nat := if 0 ≤ n then (2 * n).toNat else (-2 * n - 1).toNat
def unzig (m : Nat) : Int := if m % 2 = 0 then (m / 2 : Nat) else -((m / 2 : Nat) : Int) - 1
theorem Q4l {n : Int} (h0 : -9223372036854775808 ≤ n) (h1 : n < 9223372036854775808) :
    IntKind.u64.wrap ((BitVec.ofInt (IntKind.bits .u64) (IntKind.u64.wrap ((IntKind.u64.wrap n) * 2 ^ (min (Int.toNat 1) (IntKind.bits .u64)))) ^^^ BitVec.ofInt (IntKind.bits .u64) (IntKind.u64.wrap (Int.fdiv n (2 ^ (min (Int.toNat 63) (IntKind.bits .i64)))))).toNat : Int) = ((zig n : Nat) : Int) := by
  rw [show min (Int.toNat 1) (IntKind.bits .u64) = 1 from rfl, show min (Int.toNat 63) (IntKind.bits .i64) = 63 from rfl, show IntKind.bits .u64 = 64 from rfl, Int.fdiv_eq_ediv_of_nonneg _ (by decide)]
  unfold zig
  by_cases h : 0 ≤ n
  · rw [if_pos h, wu64 (n := n) h (by omega), show n / 2 ^ 63 = 0 by omega, wu64 (n := n * 2 ^ 1) (by omega) (by omega), wu64 (n := 0) (by decide) (by decide)]
    obtain ⟨m, rfl⟩ : ∃ m : Nat, n = m := ⟨n.toNat, by omega⟩
    rw [show ((m : Int) * 2 ^ 1) = ((m * 2 : Nat) : Int) by omega, BitVec.ofInt_natCast, show BitVec.ofInt 64 0 = 0#64 from rfl, BitVec.xor_zero, BitVec.toNat_ofNat, Nat.mod_eq_of_lt (by omega), wu64 (by omega) (by omega)]
    omega
  · rw [if_neg h, show n / 2 ^ 63 = -1 by omega]
    have e1 : IntKind.u64.wrap (-1) = ((18446744073709551615 : Nat) : Int) := by rw [IntKind.wrap_u64]; rfl
    have e2 : IntKind.u64.wrap (IntKind.u64.wrap n * 2 ^ 1) = (((18446744073709551616 + 2 * n).toNat : Nat) : Int) := by rw [IntKind.wrap_u64, IntKind.wrap_u64]; omega
    rw [e1, e2, BitVec.ofInt_natCast, BitVec.ofInt_natCast, show BitVec.ofNat 64 18446744073709551615 = BitVec.allOnes 64 from rfl, BitVec.xor_allOnes, BitVec.toNat_not, BitVec.toNat_ofNat, Nat.mod_eq_of_lt (by omega), wu64 (by omega) (by omega)]
    omega
theorem zig_lt {n : Int} (h0 : -9223372036854775808 ≤ n) (h1 : n < 9223372036854775808) : zig n < 18446744073709551616 := by
  unfold zig; split <;> omega
section
variable {w w' : World} {a : Option Addr} {c N p : Nat} {bs : List UInt8} {k : Int}
theorem Int_spec (h : RowAt w a (bytesV bs)) (hl : bs.length ≤ 1000000) {n : Int} (h0 : -9223372036854775808 ≤ n) (h1 : n < 9223372036854775808) :
    Calls Try.prog 44 #[.slice a bs.length c, .int .i64 n] w (fun e w' => ∃ a' c', e = .returned (.slice a' (bs ++ numL (zig n)).length c') ∧ OwnB w.heap.size w' a' c' (bs ++ numL (zig n)) ∧ Ext no w w') := by
  refine (wInt.ok _ _ _ _ (R := fun v w' => ∃ a' c', v = (.slice a' (bs ++ numL (zig n)).length c') ∧ OwnB w.heap.size w' a' c' (bs ++ numL (zig n)) ∧ Ext no w w') ?_).mono fun e w' ⟨v, he, a', c', hv, hw⟩ => ⟨a', c', by rw [he, hv], hw⟩
  unfold wInt.M
  refine ⟨by decide, by decide, ?_⟩
  rw [Q4l h0 h1]
  exact (Num_spec h hl (zig_lt h0 h1)).mono fun e w5 ⟨a', c', he, hO, hx⟩ => ⟨a', _, c', he, a', c', rfl, hO, hx⟩
theorem Bytes_spec (h : RowAt w a (bytesV bs)) (hl : bs.length ≤ 1000000) {xa : Option Addr} {xc : Nat} {xs : List UInt8} (hx : RowAt w xa (bytesV xs)) (hxl : xs.length ≤ 1000000) :
    Calls Try.prog 46 #[.slice a bs.length c, .slice xa xs.length xc] w (fun e w' => ∃ a' c', e = .returned (.slice a' (bs ++ numL xs.length ++ xs).length c') ∧ OwnB w.heap.size w' a' c' (bs ++ numL xs.length ++ xs) ∧ Ext no w w') := by
  refine (wBytes.ok _ _ _ _ _ _ (R := fun v w' => ∃ a' c', v = (.slice a' (bs ++ numL xs.length ++ xs).length c') ∧ OwnB w.heap.size w' a' c' (bs ++ numL xs.length ++ xs) ∧ Ext no w w') ?_).mono fun e w' ⟨v, he, a', c', hv, hw⟩ => ⟨a', c', by rw [he, hv], hw⟩
  unfold wBytes.M
  rw [wu64 (n := (xs.length : Int)) (by omega) (by omega)]
  refine (Num_spec h hl (by omega)).mono fun e w5 ⟨a5, c5, he, hO, hx5⟩ => ⟨a5, _, c5, he, ?_⟩
  have hnl : (numL xs.length).length ≤ 10 := numF_le 10 _
  obtain ⟨a', c', w7, hr, hO7, hx7⟩ := hO.append (t := 34) (ty := 34) Try.underlying34 hx5.size (xc := xc) (hx.no hx5) (by rw [List.length_append]; omega)
  exact ⟨a', _, c', w7, hr, a', c', rfl, hO7, hx5.then hx7 fun b hb => .inr hb⟩
def intR (s : List UInt8 × Int) : Int × (List UInt8 × Int) := (unzig (numR s).1, (numR s).2)
end
end Go.Proofs.Ytebghegecofmhaa.W
namespace Go.Proofs.Ytebghegecofmhaa.W
open Go Go.Mx Go.Proofs
def wSame.M (a7 : Option Addr) (a1 aa : Nat) (a6 : Option Addr) (a3 ab : Nat) (R : RW) (w : World) : Prop :=
 bif (a1 : Int) != (a3 : Int) then (
 R (.bool false) w) else (
 ∃ (I0 : Nat → List Value → World → Prop) (m4 : Nat), I0 m4 [.int .i64 0] w ∧ ∀ (m5 : Nat) (a2 : World) (i3 : Int), I0 m5 [.int .i64 i3] a2 →
 bif decide (i3 < (a1 : Int)) then (
 thenW (a2.drew) fun a0 =>
 a7.elim False fun a8 =>
 0 ≤ (i3 : Int) ∧ (i3 : Int) < (a1 : Int) ∧
 ∃ (x9 : Int), a0.cell? (a8.add (Int.toNat i3 * 1)) = some (.int .u8 x9) ∧
 a6.elim False fun a9 =>
 0 ≤ (i3 : Int) ∧ (i3 : Int) < (a3 : Int) ∧
 ∃ (a4 : Int), a0.cell? (a9.add (Int.toNat i3 * 1)) = some (.int .u8 a4) ∧
 bif x9 != a4 then (
 R (.bool false) a0) else (
 ∃ a5, a5 < m5 ∧ I0 a5 [.int .i64 (IntKind.i64.wrap (i3 + 1))] a0)) else (
 R (.bool true) a2))

theorem wSame.ok (a2 : Option Addr) (a3 a4 : Nat) (a1 : Option Addr) (a0 a5 : Nat) {R : RW} {w : World} (h : wSame.M a2 a3 a4 a1 a0 a5 R w) : Calls Try.prog 40 #[.slice a2 a3 a4, .slice a1 a0 a5] w fun e w' => ∃ v, e = .returned v ∧ R v w' :=
  Q0m follows (H := [(0, [0, 1], [(5, (.one (.int .i64)))])]) (args := [.slice a2 a3 a4, .slice a1 a0 a5]) (cast (by kernel_rfl) h)

theorem numL_le (n : Nat) : (numL n).length ≤ 10 := numF_le 10 n
section
variable {w w' : World} {a : Option Addr} {c : Nat}
theorem sameB_spec {a b : Option Addr} {c d : Nat} {x y : List UInt8} (ha : RowAt w a (bytesV x)) (hb : RowAt w b (bytesV y)) (hx : x.length < 1000000) :
    Calls Try.prog 40 #[.slice a x.length c, .slice b y.length d] w (GivesW (.bool (decide (x = y))) fun w' => Ext no w w') := by
  refine (wSame.ok _ _ _ _ _ _ (R := fun v w' => v = .bool (decide (x = y)) ∧ Ext no w w') ?_).mono fun e w' ⟨v, he, hv, hw⟩ => ⟨by rw [he, hv], hw⟩
  unfold wSame.M
  by_cases hl : x.length = y.length
  · have hl' : ((x.length : Int) != (y.length : Int)) = false := by simp [hl]
    rw [hl', cond_false]
    refine ⟨fun k vs w1 => ∃ i : Nat, vs = [.int .i64 i] ∧ k = x.length - i ∧ i ≤ x.length ∧ x.take i = y.take i ∧ Ext no w w1, x.length, ⟨0, rfl, rfl, Nat.zero_le _, rfl, Ext.refl _ _⟩, ?_⟩
    rintro k w1 i3 ⟨i, hi, rfl, hle, ht, hw⟩
    simp only [List.cons.injEq, Value.int.injEq, true_and, and_true] at hi
    subst hi
    by_cases hlt : i < x.length
    · have hd : decide ((i : Int) < (x.length : Int)) = true := by simp [hlt]
      rw [hd, cond_true]
      refine Q01 fun w7 h7 => ?_
      have hw7 : Ext no w w7 := hw.trans (by subst h7; exact (Ext.refl _ _).drew)
      have hi2 : i < y.length := hl ▸ hlt
      have hax := ha.ext hw7 (fun _ _ h => h)
      have hby := hb.ext hw7 (fun _ _ h => h)
      obtain ⟨ad, rfl⟩ := hax.addr (by intro e; rw [bytesV, List.map_eq_nil_iff] at e; subst e; simp at hlt)
      obtain ⟨bd, rfl⟩ := hby.addr (by intro e; rw [bytesV, List.map_eq_nil_iff] at e; subst e; simp at hi2)
      refine ⟨by omega, by omega, x[i].toNat, ?_, by omega, by omega, y[i].toNat, ?_, ?_⟩
      · rw [show Int.toNat (i : Int) * 1 = i by omega]; exact hax.at_ (Q2x hlt)
      · rw [show Int.toNat (i : Int) * 1 = i by omega]; exact hby.at_ (Q2x hi2)
      · by_cases he : x[i] = y[i]
        · have h1 : ((x[i].toNat : Int) != (y[i].toNat : Int)) = false := by simp [he]
          rw [h1, cond_false]
          refine ⟨x.length - (i + 1), by omega, i + 1, by rw [w64 (by omega) (by omega)]; rfl, rfl, by omega, ?_, hw7⟩
          rw [List.take_add_one, List.take_add_one, ht]; simp [hlt, hi2, he]
        · have h1 : ((x[i].toNat : Int) != (y[i].toNat : Int)) = true := by
            simp only [bne_iff_ne, ne_eq, Int.natCast_inj, UInt8.toNat_inj]; exact he
          rw [h1, cond_true]
          exact ⟨by rw [decide_eq_false]; rintro rfl; exact he rfl, hw7⟩
    · have hd : decide ((i : Int) < (x.length : Int)) = false := by simp; omega
      rw [hd, cond_false]
      obtain rfl : i = x.length := by omega
      refine ⟨?_, hw⟩
      have : x = y := by
        rw [List.take_length] at ht
        rw [hl, List.take_length] at ht
        exact ht
      simp [this]
  · have hl' : ((x.length : Int) != (y.length : Int)) = true := by simp; omega
    rw [hl', cond_true]
    exact ⟨by rw [decide_eq_false]; rintro rfl; exact hl rfl, Ext.refl _ _⟩
end
section
variable {w w' : World} {a : Option Addr} {c : Nat} {bs : List UInt8} {p N : Nat} {k : Int}
/-! ### where the number ends -/
end
end Go.Proofs.Ytebghegecofmhaa.W
namespace Go.Proofs.Ytebghegecofmhaa
open Go Go.Mx Go.Proofs
theorem W.eqf_step {P : Program} {w : World} {d : Nat} {xs ys : Array Value} {f : Field} {fs : List Field} {a b : Value} {r : Bool} (n : f.name ≠ "_") (qa : (part f.type xs f.offset).run P w = .ok a w) (qb : (part f.type ys f.offset).run P w = .ok b w) (he : (Op.equalIn d f.type a b).run P w = .ok r w) :
    (Op.eqFields d xs ys (f :: fs)).run P w = if r then (Op.eqFields d xs ys fs).run P w else .ok false w := by
  simp only [Op.eqFields, n, ne_eq, not_false_eq_true, if_true, Sem.run_bind, qa, qb, he, Result.andThen_ok]
  cases r <;> simp
theorem eqT33 (x0 x1 y0 y1 : Int) (w : World) : (Op.equalIn 10000 33 (.agg #[.int .i64 x0, .int .i64 x1]) (.agg #[.int .i64 y0, .int .i64 y1])).run Try.prog w = .ok (decide (x0 = y0 ∧ x1 = y1)) w := by
  obtain ⟨f0, f1, ht, n0, o0, p0, u0, n1, o1, p1, u1, hp⟩ : ∃ f0 f1, Try.prog.underlying 33 = some (.struct #[f0, f1]) ∧ f0.name ≠ "_" ∧ f0.offset = 0 ∧ Try.prog.plainKey f0.type = true ∧ Try.prog.underlying f0.type = some (.int .i64) ∧ f1.name ≠ "_" ∧ f1.offset = 1 ∧ Try.prog.plainKey f1.type = true ∧ Try.prog.underlying f1.type = some (.int .i64) ∧ Try.prog.stoodInHeld 33 = false :=
    ⟨_, _, Try.underlying33, by decide, rfl, by kernel_rfl, by kernel_rfl, by decide, rfl, by kernel_rfl, by kernel_rfl, by kernel_rfl⟩
  have hf : Try.prog.fieldsOf 33 = #[f0, f1] := by simp [Program.fieldsOf, ht]
  rw [show (10000 : Nat) = 9998 + 1 + 1 from rfl, run_equalIn_struct w (9998 + 1) _ _ _ (by rw [hf]; exact ht) hp, hf]
  show (Op.eqFields (9998 + 1) _ _ [f0, f1]).run Try.prog w = _
  rw [W.eqf_step n0 (run_part_plain w p0 (by rw [o0]; rfl)) (run_part_plain w p0 (by rw [o0]; rfl)) (run_equalIn_int w _ _ _ _ _ _ u0), W.eqf_step n1 (run_part_plain w p1 (by rw [o1]; rfl)) (run_part_plain w p1 (by rw [o1]; rfl)) (run_equalIn_int w _ _ _ _ _ _ u1)]
  by_cases e0 : x0 = y0 <;> by_cases e1 : x1 = y1 <;> simp [e0, e1, Op.eqFields]
theorem Q3t (x0 x1 y0 y1 : Int) (w : World) : (binOp .eql 33 (.agg #[.int .i64 x0, .int .i64 x1]) (.agg #[.int .i64 y0, .int .i64 y1])).run Try.prog w = .ok (.bool (decide (x0 = y0 ∧ x1 = y1))) w := by rw [run_eql_struct, eqT33]; rfl
open W (OwnB GivesW numR countR doneR zig unzig intR)
section
variable {w w' : World} {a : Option Addr} {c N p : Nat} {bs : List UInt8} {k : Int}
/-! ### the reference's -/
end
open W (OwnB GivesW numR countR doneR zig unzig intR)
def Q07.M (n1 a1 a0 : Int) (R : RW) (w : World) : Prop :=
 bif decide (n1 ≥ a1) then (
 R (.bool (decide (n1 < a0))) w) else (
 R (.bool false) w)

theorem Q07.ok (n1 a1 a0 : Int) {R : RW} {w : World} (h : Q07.M n1 a1 a0 R w) : Calls Try.prog 41 #[.int .i64 n1, .int .i64 a1, .int .i64 a0] w fun e w' => ∃ v, e = .returned v ∧ R v w' :=
  Q0m follows (H := []) (args := [.int .i64 n1, .int .i64 a1, .int .i64 a0]) (cast (by kernel_rfl) h)

def Q07.N (n1 a0 a1 : Int) (R : RW) (w : World) : Prop :=
 (n1 ≥ a0 →
 R (.bool (decide (n1 < a1))) w) ∧
 (n1 < a0 →
 R (.bool false) w)

theorem Q07.up (n1 a1 a0 : Int) {R : RW} {w : World} (h : Q07.N n1 a1 a0 R w) : Q07.M n1 a1 a0 R w := by
  unfold Q07.M
  unfold Q07.N at h
  refine bif_of (fun c4 => ?_) (fun c4 => ?_)
  ·have h := h.1 (of_decide_eq_true c4)
   exact h
  have h := h.2 (Int.not_le.1 (of_decide_eq_false c4))
  exact h

theorem Q07.go (n1 a1 a0 : Int) {R : RW} {w : World} (h : Q07.N n1 a1 a0 R w) : Calls Try.prog 41 #[.int .i64 n1, .int .i64 a1, .int .i64 a0] w fun e w' => ∃ v, e = .returned v ∧ R v w' := Q07.ok n1 a1 a0 (Q07.up n1 a1 a0 h)
theorem Q07.run (n1 a1 a0 : Int) {V : Value} {Q : World → Prop} {w : World} (h : Q07.N n1 a1 a0 (fun v w' => v = V ∧ Q w') w) : Calls Try.prog 41 #[.int .i64 n1, .int .i64 a1, .int .i64 a0] w (Ret V Q) := (Q07.go n1 a1 a0 h).mono fun e w' ⟨v, he, hv, hq⟩ => ⟨by rw [he, hv], hq⟩

def Q07.F (n1 a1 a0 : Int) : Bool :=
  if n1 ≥ a1 then
    (decide (n1 < a0))
  else
    false
theorem Q07.pure (n1 a0 a1 : Int) {w : World} : Calls Try.prog 41 #[.int .i64 n1, .int .i64 a0, .int .i64 a1] w (Ret (.bool (Q07.F n1 a0 a1)) fun w' => Ext no w w') := by
  refine Q07.run n1 a0 a1 ?_
  unfold Q07.N
  refine ⟨fun c0 => ?_, fun c0 => ?_⟩
  ·exact ⟨by unfold Q07.F; rw [if_pos c0], Ext.refl _ _⟩
  ·exact ⟨by unfold Q07.F; rw [if_neg (show ¬ (n1 ≥ a0) from by omega)], Ext.refl _ _⟩

def Q0i.M (a0 : Int) (R : RW) (w : World) : Prop :=
 bif decide (a0 ≥ 0) then (
 R (.bool (decide (a0 < 8))) w) else (
 R (.bool false) w)

theorem Q0i.ok (a0 : Int) {R : RW} {w : World} (h : Q0i.M a0 R w) : Calls Try.prog 51 #[.int .i64 a0] w fun e w' => ∃ v, e = .returned v ∧ R v w' :=
  Q0m follows (H := []) (args := [.int .i64 a0]) (cast (by kernel_rfl) h)

def Q0i.N (a0 : Int) (R : RW) (w : World) : Prop :=
 (a0 ≥ 0 →
 R (.bool (decide (a0 < 8))) w) ∧
 (a0 < 0 →
 R (.bool false) w)

theorem Q0i.up (a0 : Int) {R : RW} {w : World} (h : Q0i.N a0 R w) : Q0i.M a0 R w := by
  unfold Q0i.M
  unfold Q0i.N at h
  refine bif_of (fun c2 => ?_) (fun c2 => ?_)
  ·have h := h.1 (of_decide_eq_true c2)
   exact h
  have h := h.2 (Int.not_le.1 (of_decide_eq_false c2))
  exact h

theorem Q0i.go (a0 : Int) {R : RW} {w : World} (h : Q0i.N a0 R w) : Calls Try.prog 51 #[.int .i64 a0] w fun e w' => ∃ v, e = .returned v ∧ R v w' := Q0i.ok a0 (Q0i.up a0 h)
theorem Q0i.run (a0 : Int) {V : Value} {Q : World → Prop} {w : World} (h : Q0i.N a0 (fun v w' => v = V ∧ Q w') w) : Calls Try.prog 51 #[.int .i64 a0] w (Ret V Q) := (Q0i.go a0 h).mono fun e w' ⟨v, he, hv, hq⟩ => ⟨by rw [he, hv], hq⟩

def Q0i.F (a0 : Int) : Bool :=
  if a0 ≥ 0 then
    (decide (a0 < 8))
  else
    false
theorem Q0i.pure (a0 : Int) {w : World} : Calls Try.prog 51 #[.int .i64 a0] w (Ret (.bool (Q0i.F a0)) fun w' => Ext no w w') := by
  refine Q0i.run a0 ?_
  unfold Q0i.N
  refine ⟨fun c0 => ?_, fun c0 => ?_⟩
  ·exact ⟨by unfold Q0i.F; rw [if_pos c0], Ext.refl _ _⟩
  ·exact ⟨by unfold Q0i.F; rw [if_neg (show ¬ (a0 ≥ 0) from by omega)], Ext.refl _ _⟩

def Q0k.M (a4 a5 : Int) (R : RW) (w : World) : Prop :=
 thenW (w.alloc (.cells #[.int .i64 a4, .int .i64 a5] 33)) fun a1 =>
 ∃ (T4 : Int), a1.cell? ((blk w.heap.size).add 0) = some (.int .i64 T4) ∧
 bif decide (T4 > 0) then (
 ∃ (T5 : Int), a1.cell? ((blk w.heap.size).add 0) = some (.int .i64 T5) ∧
 bif decide (T5 ≤ 1099511627776) then (
 ∃ (W6 : Int), a1.cell? ((blk w.heap.size).add 1) = some (.int .i64 W6) ∧
 Calls Try.prog 51 #[.int .i64 W6] a1 fun a3 a2 => ∃ (a0 : Bool), a3 = .returned (.bool a0) ∧
 R (.bool a0) a2) else (
 R (.bool false) a1)) else (
 R (.bool false) a1)

theorem Q0k.ok (a1 a0 : Int) {R : RW} {w : World} (h : Q0k.M a1 a0 R w) : Calls Try.prog 42 #[.agg #[.int .i64 a1, .int .i64 a0]] w fun e w' => ∃ v, e = .returned v ∧ R v w' :=
  Q0m follows (H := []) (args := [.agg #[.int .i64 a1, .int .i64 a0]]) (cast (by kernel_rfl) h)

def Q0k.N (a1 a3 : Int) (R : RW) (w : World) : Prop :=
 (a1 > 0 →
 (a1 ≤ 1099511627776 →
 ∀ (a2 : World), Ext no w a2 →
 R (.bool (Q0i.F a3)) a2) ∧
 ((1099511627776 : Int) < a1 →
 ∀ (a0 : World), Ext no w a0 →
 R (.bool false) a0)) ∧
 (a1 ≤ 0 →
 ∀ (a0 : World), Ext no w a0 →
 R (.bool false) a0)

theorem Q0k.up (a1 a0 : Int) {R : RW} {w : World} (h : Q0k.N a1 a0 R w) : Q0k.M a1 a0 R w := by
  unfold Q0k.M
  unfold Q0k.N at h
  refine Q01 fun a4 e3 => ?_
  have a2 := Blk.of_new e3
  have a6 := ((Ext.refl no w)).size
  have a3 := (Ext.refl no w).x_alloc e3
  refine ⟨a1, a2.celli 0 rfl rfl, ?_⟩
  refine bif_fo (fun c4 => ?_) (fun c4 => ?_)
  ·have h := h.2 (Int.not_lt.1 (of_decide_eq_false c4))
   have h := h a4 a3
   exact h
  have h := h.1 (of_decide_eq_true c4)
  refine ⟨a1, a2.celli 0 rfl rfl, ?_⟩
  refine bif_fo (fun c5 => ?_) (fun c5 => ?_)
  ·have h := h.2 (Int.not_le.1 (of_decide_eq_false c5))
   have h := h a4 a3
   exact h
  have h := h.1 (of_decide_eq_true c5)
  refine ⟨a0, a2.celli 1 rfl rfl, ?_⟩
  refine (Q0i.pure a0).mono fun ee ww6 ⟨he, hxx⟩ => ⟨(Q0i.F a0), he, ?_⟩
  have a5 := a3.trans hxx
  have h := h ww6 a5
  exact h

theorem Q0k.go (a1 a0 : Int) {R : RW} {w : World} (h : Q0k.N a1 a0 R w) : Calls Try.prog 42 #[.agg #[.int .i64 a1, .int .i64 a0]] w fun e w' => ∃ v, e = .returned v ∧ R v w' := Q0k.ok a1 a0 (Q0k.up a1 a0 h)
theorem Q0k.run (a1 a0 : Int) {V : Value} {Q : World → Prop} {w : World} (h : Q0k.N a1 a0 (fun v w' => v = V ∧ Q w') w) : Calls Try.prog 42 #[.agg #[.int .i64 a1, .int .i64 a0]] w (Ret V Q) := (Q0k.go a1 a0 h).mono fun e w' ⟨v, he, hv, hq⟩ => ⟨by rw [he, hv], hq⟩

def Q0k.F (a0 a1 : Int) : Bool :=
  if a0 > 0 then
    if a0 ≤ 1099511627776 then
      (Q0i.F a1)
    else
      false
  else
    false
theorem Q0k.pure (a0 a1 : Int) {w : World} : Calls Try.prog 42 #[.agg #[.int .i64 a0, .int .i64 a1]] w (Ret (.bool (Q0k.F a0 a1)) fun w' => Ext no w w') := by
  refine Q0k.run a0 a1 ?_
  unfold Q0k.N
  refine ⟨fun c0 => ?_, fun c0 => ?_⟩
  ·refine ⟨fun c1 => ?_, fun c1 => ?_⟩
   ·intro w' hx; exact ⟨by unfold Q0k.F; rw [if_pos c0, if_pos c1], hx⟩
   ·intro w' hx; exact ⟨by unfold Q0k.F; rw [if_pos c0, if_neg (show ¬ (a0 ≤ 1099511627776) from by omega)], hx⟩
  ·intro w' hx; exact ⟨by unfold Q0k.F; rw [if_neg (show ¬ (a0 > 0) from by omega)], hx⟩

def Q08.M (ay b9 bn bo bp bf : Int) (ba : Option Addr) (be b5 : Nat) (bq : Int) (R : RW) (w : World) : Prop :=
 thenW (w.alloc (.cells #[.int .i64 ay, .int .i64 b9, .int .u64 bn, .int .i64 bo, .int .i64 bp, .int .i64 bf, .slice ba be b5, .int .u64 bq] 36)) fun c1 =>
 ∃ (ac : Int), c1.cell? ((blk w.heap.size).add 0) = some (.int .i64 ac) ∧
 Calls Try.prog 41 #[.int .i64 ac, .int .i64 0, .int .i64 8] c1 fun bz b0 => ∃ (a4 : Bool), bz = .returned (.bool a4) ∧
 bif !a4 then (
 bif !a4 then (
 R (.bool false) b0) else (
 ∃ (bj bi : Int), cellsAt b0 ((blk w.heap.size).add 3) [.int .i64 bj, .int .i64 bi] 0 ∧
 Calls Try.prog 42 #[.agg #[.int .i64 bj, .int .i64 bi]] b0 fun bx a1 => ∃ (a9 : Bool), bx = .returned (.bool a9) ∧
 bif !a9 then (
 bif !a9 then (
 R (.bool false) a1) else (
 ∃ (ar : Int), a1.cell? ((blk w.heap.size).add 2) = some (.int .u64 ar) ∧
 ∃ (ad : Int), a1.cell? ((blk w.heap.size).add 1) = some (.int .i64 ad) ∧
 R (.bool ((ar == 0) == (ad == 0))) a1)) else (
 ∃ (br : Int), a1.cell? (((blk w.heap.size).add 3).add 1) = some (.int .i64 br) ∧
 ∃ (a3 : Int), a1.cell? ((blk w.heap.size).add 0) = some (.int .i64 a3) ∧
 bif br != a3 then (
 bif br != a3 then (
 R (.bool false) a1) else (
 ∃ (b2 : Int), a1.cell? ((blk w.heap.size).add 2) = some (.int .u64 b2) ∧
 ∃ (ai : Int), a1.cell? ((blk w.heap.size).add 1) = some (.int .i64 ai) ∧
 R (.bool ((b2 == 0) == (ai == 0))) a1)) else (
 ∃ (b7 : Option Addr) (al bc : Nat), a1.cell? ((blk w.heap.size).add 6) = some (.slice b7 al bc) ∧
 bif decide ((al : Int) > 1100) then (
 R (.bool false) a1) else (
 ∃ (b3 : Int), a1.cell? ((blk w.heap.size).add 2) = some (.int .u64 b3) ∧
 ∃ (ao : Int), a1.cell? ((blk w.heap.size).add 1) = some (.int .i64 ao) ∧
 R (.bool ((b3 == 0) == (ao == 0))) a1))))) else (
 ∃ (ak : Int), b0.cell? ((blk w.heap.size).add 1) = some (.int .i64 ak) ∧
 Calls Try.prog 41 #[.int .i64 ak, .int .i64 0, .int .i64 200] b0 fun bs av => ∃ (a7 : Bool), bs = .returned (.bool a7) ∧
 bif !a7 then (
 bif !a7 then (
 R (.bool false) av) else (
 ∃ (bh bl : Int), cellsAt av ((blk w.heap.size).add 3) [.int .i64 bh, .int .i64 bl] 0 ∧
 Calls Try.prog 42 #[.agg #[.int .i64 bh, .int .i64 bl]] av fun c0 a0 => ∃ (aa : Bool), c0 = .returned (.bool aa) ∧
 bif !aa then (
 bif !aa then (
 R (.bool false) a0) else (
 ∃ (b1 : Int), a0.cell? ((blk w.heap.size).add 2) = some (.int .u64 b1) ∧
 ∃ (ae : Int), a0.cell? ((blk w.heap.size).add 1) = some (.int .i64 ae) ∧
 R (.bool ((b1 == 0) == (ae == 0))) a0)) else (
 ∃ (bw : Int), a0.cell? (((blk w.heap.size).add 3).add 1) = some (.int .i64 bw) ∧
 ∃ (a6 : Int), a0.cell? ((blk w.heap.size).add 0) = some (.int .i64 a6) ∧
 bif bw != a6 then (
 bif bw != a6 then (
 R (.bool false) a0) else (
 ∃ (b4 : Int), a0.cell? ((blk w.heap.size).add 2) = some (.int .u64 b4) ∧
 ∃ (ag : Int), a0.cell? ((blk w.heap.size).add 1) = some (.int .i64 ag) ∧
 R (.bool ((b4 == 0) == (ag == 0))) a0)) else (
 ∃ (bb : Option Addr) (ah bd : Nat), a0.cell? ((blk w.heap.size).add 6) = some (.slice bb ah bd) ∧
 bif decide ((ah : Int) > 1100) then (
 R (.bool false) a0) else (
 ∃ (az : Int), a0.cell? ((blk w.heap.size).add 2) = some (.int .u64 az) ∧
 ∃ (am : Int), a0.cell? ((blk w.heap.size).add 1) = some (.int .i64 am) ∧
 R (.bool ((az == 0) == (am == 0))) a0))))) else (
 ∃ (aq : Int), av.cell? ((blk w.heap.size).add 5) = some (.int .i64 aq) ∧
 Calls Try.prog 41 #[.int .i64 aq, .int .i64 (-1), .int .i64 20] av fun bv bm => ∃ (ab : Bool), bv = .returned (.bool ab) ∧
 bif !ab then (
 R (.bool false) bm) else (
 ∃ (bk bg : Int), cellsAt bm ((blk w.heap.size).add 3) [.int .i64 bk, .int .i64 bg] 0 ∧
 Calls Try.prog 42 #[.agg #[.int .i64 bk, .int .i64 bg]] bm fun bt a2 => ∃ (a8 : Bool), bt = .returned (.bool a8) ∧
 bif !a8 then (
 bif !a8 then (
 R (.bool false) a2) else (
 ∃ (ax : Int), a2.cell? ((blk w.heap.size).add 2) = some (.int .u64 ax) ∧
 ∃ (af : Int), a2.cell? ((blk w.heap.size).add 1) = some (.int .i64 af) ∧
 R (.bool ((ax == 0) == (af == 0))) a2)) else (
 ∃ (bu : Int), a2.cell? (((blk w.heap.size).add 3).add 1) = some (.int .i64 bu) ∧
 ∃ (a5 : Int), a2.cell? ((blk w.heap.size).add 0) = some (.int .i64 a5) ∧
 bif bu != a5 then (
 bif bu != a5 then (
 R (.bool false) a2) else (
 ∃ (aw : Int), a2.cell? ((blk w.heap.size).add 2) = some (.int .u64 aw) ∧
 ∃ (an : Int), a2.cell? ((blk w.heap.size).add 1) = some (.int .i64 an) ∧
 R (.bool ((aw == 0) == (an == 0))) a2)) else (
 ∃ (b6 : Option Addr) (ap b8 : Nat), a2.cell? ((blk w.heap.size).add 6) = some (.slice b6 ap b8) ∧
 bif decide ((ap : Int) > 1100) then (
 R (.bool false) a2) else (
 ∃ (au : Int), a2.cell? ((blk w.heap.size).add 2) = some (.int .u64 au) ∧
 ∃ (aj : Int), a2.cell? ((blk w.heap.size).add 1) = some (.int .i64 aj) ∧
 R (.bool ((au == 0) == (aj == 0))) a2))))))

theorem Q08.ok (a0 a2 a6 a9 a7 a4 : Int) (a3 : Option Addr) (a5 a1 : Nat) (a8 : Int) {R : RW} {w : World} (h : Q08.M a0 a2 a6 a9 a7 a4 a3 a5 a1 a8 R w) : Calls Try.prog 32 #[.agg #[.int .i64 a0, .int .i64 a2, .int .u64 a6, .int .i64 a9, .int .i64 a7, .int .i64 a4, .slice a3 a5 a1, .int .u64 a8]] w fun e w' => ∃ v, e = .returned v ∧ R v w' :=
  Q0m follows (H := []) (args := [.agg #[.int .i64 a0, .int .i64 a2, .int .u64 a6, .int .i64 a9, .int .i64 a7, .int .i64 a4, .slice a3 a5 a1, .int .u64 a8]]) (cast (by kernel_rfl) h)

def Q08.N (a0 a2 a7 a6 a3 a4 : Int) (ac : Option Addr) (a5 ab : Nat) (ad : Int) (R : RW) (w : World) : Prop :=
 ((Q07.F a0 0 8) = false →
 ∀ (a8 : World), Ext no w a8 →
 R (.bool false) a8) ∧
 ((Q07.F a0 0 8) = true →
 ((Q07.F a2 0 200) = false →
 ∀ (a9 : World), Ext no w a9 →
 R (.bool false) a9) ∧
 ((Q07.F a2 0 200) = true →
 ((Q07.F a4 (-1) 20) = false →
 ∀ (aa : World), Ext no w aa →
 R (.bool false) aa) ∧
 ((Q07.F a4 (-1) 20) = true →
 ((Q0k.F a6 a3) = false →
 ∀ (a1 : World), Ext no w a1 →
 R (.bool false) a1) ∧
 ((Q0k.F a6 a3) = true →
 (a3 ≠ a0 →
 ∀ (a1 : World), Ext no w a1 →
 R (.bool false) a1) ∧
 (a3 = a0 →
 ((a5 : Int) > 1100 →
 ∀ (a1 : World), Ext no w a1 →
 R (.bool false) a1) ∧
 ((a5 : Int) ≤ 1100 →
 ∀ (a1 : World), Ext no w a1 →
 R (.bool ((a7 == 0) == (a2 == 0))) a1))))))

theorem Q08.up (a0 a1 a9 a8 a3 a2 : Int) (a5 : Option Addr) (a6 a4 : Nat) (ab : Int) {R : RW} {w : World} (h : Q08.N a0 a1 a9 a8 a3 a2 a5 a6 a4 ab R w) : Q08.M a0 a1 a9 a8 a3 a2 a5 a6 a4 ab R w := by
  unfold Q08.M
  unfold Q08.N at h
  refine Q01 fun an e9 => ?_
  have a7 := Blk.of_new e9
  have am := ((Ext.refl no w)).size
  have al := (Ext.refl no w).x_alloc e9
  refine ⟨a0, a7.celli 0 rfl rfl, ?_⟩
  refine (Q07.pure a0 0 8).mono fun ee ww10 ⟨he, hxx⟩ => ⟨(Q07.F a0 0 8), he, ?_⟩
  have ac := al.trans hxx
  have a7 := a7.ext hxx id
  refine bif_of (fun ag => ?_) (fun ag => ?_)
  ·have h := h.1 (not_t ag)
   refine bif_tt ag ?_
   have h := h ww10 ac
   exact h
  have h := h.2 (not_f ag)
  refine ⟨a1, a7.celli 1 rfl rfl, ?_⟩
  refine (Q07.pure a1 0 200).mono fun ee ww13 ⟨he, hxx⟩ => ⟨(Q07.F a1 0 200), he, ?_⟩
  have ae := ac.trans hxx
  have a7 := a7.ext hxx id
  refine bif_of (fun ai => ?_) (fun ai => ?_)
  ·have h := h.1 (not_t ai)
   refine bif_tt ai ?_
   have h := h ww13 ae
   exact h
  have h := h.2 (not_f ai)
  refine ⟨a2, a7.celli 5 rfl rfl, ?_⟩
  refine (Q07.pure a2 (-1) 20).mono fun ee ww16 ⟨he, hxx⟩ => ⟨(Q07.F a2 (-1) 20), he, ?_⟩
  have ad := ae.trans hxx
  have a7 := a7.ext hxx id
  refine bif_of (fun aj => ?_) (fun aj => ?_)
  ·have h := h.1 (not_t aj)
   have h := h ww16 ad
   exact h
  have h := h.2 (not_f aj)
  refine ⟨a8, a3, ⟨a7.celli 3 rfl rfl, a7.celli 4 rfl rfl, trivial⟩, ?_⟩
  refine (Q0k.pure a8 a3).mono fun ee ww19 ⟨he, hxx⟩ => ⟨(Q0k.F a8 a3), he, ?_⟩
  have aa := ad.trans hxx
  have a7 := a7.ext hxx id
  refine bif_of (fun ah => ?_) (fun ah => ?_)
  ·have h := h.1 (not_t ah)
   refine bif_tt ah ?_
   have h := h ww19 aa
   exact h
  have h := h.2 (not_f ah)
  refine ⟨a3, a7.celli 4 rfl rfl, ?_⟩
  refine ⟨a0, a7.celli 0 rfl rfl, ?_⟩
  refine bif_of (fun af => ?_) (fun af => ?_)
  ·have h := h.1 (bne_t af)
   refine bif_tt af ?_
   have h := h ww19 aa
   exact h
  have h := h.2 (bne_f af)
  refine ⟨a5, a6, a4, a7.celli 6 rfl rfl, ?_⟩
  refine bif_of (fun ak => ?_) (fun ak => ?_)
  ·have h := h.1 (of_decide_eq_true ak)
   have h := h ww19 aa
   exact h
  have h := h.2 (Int.not_lt.1 (of_decide_eq_false ak))
  refine ⟨a9, a7.celli 2 rfl rfl, ?_⟩
  refine ⟨a1, a7.celli 1 rfl rfl, ?_⟩
  have h := h ww19 aa
  exact h

theorem Q08.go (a0 a2 a6 a9 a7 a4 : Int) (a3 : Option Addr) (a5 a1 : Nat) (a8 : Int) {R : RW} {w : World} (h : Q08.N a0 a2 a6 a9 a7 a4 a3 a5 a1 a8 R w) : Calls Try.prog 32 #[.agg #[.int .i64 a0, .int .i64 a2, .int .u64 a6, .int .i64 a9, .int .i64 a7, .int .i64 a4, .slice a3 a5 a1, .int .u64 a8]] w fun e w' => ∃ v, e = .returned v ∧ R v w' := Q08.ok a0 a2 a6 a9 a7 a4 a3 a5 a1 a8 (Q08.up a0 a2 a6 a9 a7 a4 a3 a5 a1 a8 h)
theorem Q08.run (a0 a2 a6 a9 a7 a4 : Int) (a3 : Option Addr) (a5 a1 : Nat) (a8 : Int) {V : Value} {Q : World → Prop} {w : World} (h : Q08.N a0 a2 a6 a9 a7 a4 a3 a5 a1 a8 (fun v w' => v = V ∧ Q w') w) : Calls Try.prog 32 #[.agg #[.int .i64 a0, .int .i64 a2, .int .u64 a6, .int .i64 a9, .int .i64 a7, .int .i64 a4, .slice a3 a5 a1, .int .u64 a8]] w (Ret V Q) := (Q08.go a0 a2 a6 a9 a7 a4 a3 a5 a1 a8 h).mono fun e w' ⟨v, he, hv, hq⟩ => ⟨by rw [he, hv], hq⟩

def Q08.F (a0 a1 a5 a6 a4 a2 : Int) (a8 : Option Addr) (a3 a7 : Nat) (a9 : Int) : Bool :=
  if (Q07.F a0 0 8) = false then
    false
  else
    if (Q07.F a1 0 200) = false then
      false
    else
      if (Q07.F a2 (-1) 20) = false then
        false
      else
        if (Q0k.F a6 a4) = false then
          false
        else
          if a4 ≠ a0 then
            false
          else
            if (a3 : Int) > 1100 then
              false
            else
              ((a5 == 0) == (a1 == 0))
theorem Q08.pure (a1 a3 a6 a9 a7 a5 : Int) (a4 : Option Addr) (a0 a2 : Nat) (a8 : Int) {w : World} : Calls Try.prog 32 #[.agg #[.int .i64 a1, .int .i64 a3, .int .u64 a6, .int .i64 a9, .int .i64 a7, .int .i64 a5, .slice a4 a0 a2, .int .u64 a8]] w (Ret (.bool (Q08.F a1 a3 a6 a9 a7 a5 a4 a0 a2 a8)) fun w' => Ext no w w') := by
  refine Q08.run a1 a3 a6 a9 a7 a5 a4 a0 a2 a8 ?_
  unfold Q08.N
  refine ⟨fun c0 => ?_, fun c0 => ?_⟩
  ·intro w' hx; exact ⟨by unfold Q08.F; rw [if_pos c0], hx⟩
  ·refine ⟨fun c1 => ?_, fun c1 => ?_⟩
   ·intro w' hx; exact ⟨by unfold Q08.F; rw [if_neg (by rw [c0]; decide), if_pos c1], hx⟩
   ·refine ⟨fun c2 => ?_, fun c2 => ?_⟩
    ·intro w' hx; exact ⟨by unfold Q08.F; rw [if_neg (by rw [c0]; decide), if_neg (by rw [c1]; decide), if_pos c2], hx⟩
    ·refine ⟨fun c3 => ?_, fun c3 => ?_⟩
     ·intro w' hx; exact ⟨by unfold Q08.F; rw [if_neg (by rw [c0]; decide), if_neg (by rw [c1]; decide), if_neg (by rw [c2]; decide), if_pos c3], hx⟩
     ·refine ⟨fun c4 => ?_, fun c4 => ?_⟩
      ·intro w' hx; exact ⟨by unfold Q08.F; rw [if_neg (by rw [c0]; decide), if_neg (by rw [c1]; decide), if_neg (by rw [c2]; decide), if_neg (by rw [c3]; decide), if_pos c4], hx⟩
      ·refine ⟨fun c5 => ?_, fun c5 => ?_⟩
       ·intro w' hx; exact ⟨by unfold Q08.F; rw [if_neg (by rw [c0]; decide), if_neg (by rw [c1]; decide), if_neg (by rw [c2]; decide), if_neg (by rw [c3]; decide), if_neg (not_not_intro c4), if_pos c5], hx⟩
       ·intro w' hx; exact ⟨by unfold Q08.F; rw [if_neg (by rw [c0]; decide), if_neg (by rw [c1]; decide), if_neg (by rw [c2]; decide), if_neg (by rw [c3]; decide), if_neg (not_not_intro c4), if_neg (show ¬ ((a0 : Int) > 1100) from by omega)], hx⟩

structure Ent where
  w : Int
  i : Int
  pv : Int
  t : Int
  tw : Int
  ep : Int
  body : List UInt8
  sg : Int
deriving DecidableEq
def Ent.zero : Ent := ⟨0, 0, 0, 0, 0, 0, [], 0⟩
def entC (e : Ent) (a : Option Addr) (c : Nat) : List Value := [.int .i64 e.w, .int .i64 e.i, .int .u64 e.pv, .int .i64 e.t, .int .i64 e.tw, .int .i64 e.ep, .slice a e.body.length c, .int .u64 e.sg]
def entV (e : Ent) (a : Option Addr) (c : Nat) : Value := .agg #[.int .i64 e.w, .int .i64 e.i, .int .u64 e.pv, .int .i64 e.t, .int .i64 e.tw, .int .i64 e.ep, .slice a e.body.length c, .int .u64 e.sg]
structure Ent.fit (e : Ent) : Prop where
  pv0 : 0 ≤ e.pv
  pv1 : e.pv < 18446744073709551616
  sg0 : 0 ≤ e.sg
  sg1 : e.sg < 18446744073709551616
def Q0o (e : Ent) : Bool := decide (0 ≤ e.w ∧ e.w < 8 ∧ 0 ≤ e.i ∧ e.i < 200 ∧ -1 ≤ e.ep ∧ e.ep < 20 ∧ 0 < e.t ∧ e.t ≤ 1099511627776 ∧ e.tw = e.w ∧ e.body.length ≤ 1100 ∧ (e.pv = 0 ↔ e.i = 0))
theorem beq_dec (x y : Int) : ((x == 0) == (y == 0)) = decide (x = 0 ↔ y = 0) := by
  rw [Bool.eq_iff_iff, decide_eq_true_eq, beq_iff_eq, Bool.eq_iff_iff, beq_iff_eq, beq_iff_eq]
theorem Q4h (n a b : Int) : Q07.F n a b = decide (a ≤ n ∧ n < b) := by
  unfold Q07.F
  by_cases h : n ≥ a
  · rw [if_pos h, decide_eq_decide]; omega
  · rw [if_neg h, eq_comm, decide_eq_false_iff_not]; omega
theorem Q31 (t w : Int) : Q0k.F t w = decide (0 < t ∧ t ≤ 1099511627776 ∧ 0 ≤ w ∧ w < 8) := by
  unfold Q0k.F Q0i.F
  by_cases h : t > 0
  · rw [if_pos h]
    by_cases h1 : t ≤ 1099511627776
    · rw [if_pos h1]
      by_cases h2 : w ≥ 0
      · rw [if_pos h2, decide_eq_decide]; omega
      · rw [if_neg h2, eq_comm, decide_eq_false_iff_not]; omega
    · rw [if_neg h1, eq_comm, decide_eq_false_iff_not]; omega
  · rw [if_neg h, eq_comm, decide_eq_false_iff_not]; omega
theorem Q1G (e : Ent) (a : Option Addr) (c : Nat) : Q08.F e.w e.i e.pv e.t e.tw e.ep a e.body.length c e.sg = Q0o e := by
  unfold Q08.F Q0o
  rw [beq_dec]
  simp only [Q4h, Q31, decide_eq_false_iff_not]
  rw [Bool.eq_iff_iff, decide_eq_true_eq]
  (repeat' split) <;> simp only [Bool.false_eq_true, decide_eq_true_eq, false_iff] <;> omega
def stampL (t w : Int) : List UInt8 := numL (zig t) ++ numL w.toNat
def textL (e : Ent) : List UInt8 := numL e.w.toNat ++ numL e.i.toNat ++ numL e.pv.toNat ++ stampL e.t e.tw ++ numL (zig e.ep) ++ (numL e.body.length ++ e.body)
theorem Q4a (t w : Int) : (stampL t w).length ≤ 20 := by
  have h1 := W.numL_le (zig t); have h2 := W.numL_le w.toNat
  unfold stampL; rw [List.length_append]; omega
/-! ### the plain law -/
theorem Q1L (e : Ent) : Q0o e = true ↔ (0 ≤ e.w ∧ e.w < 8 ∧ 0 ≤ e.i ∧ e.i < 200 ∧ -1 ≤ e.ep ∧ e.ep < 20 ∧ 0 < e.t ∧ e.t ≤ 1099511627776 ∧ e.tw = e.w ∧ e.body.length ≤ 1100 ∧ (e.pv = 0 ↔ e.i = 0)) := decide_eq_true_iff
open W (OwnB GivesW numR countR doneR zig unzig intR)
def Q0r.M (a2 : Option Addr) (a3 a4 : Nat) (a1 : Option Addr) (a0 a5 : Nat) (R : RW) (w : World) : Prop :=
 ∃ (s3 : ByteArray), (convert 34 9 (.slice a2 a3 a4)).run Try.prog w = .ok (.string s3) w ∧
 ∃ (s4 : ByteArray), (convert 34 9 (.slice a1 a0 a5)).run Try.prog w = .ok (.string s4) w ∧
 R (.bool (s3.toList == s4.toList)) w

theorem Q0r.ok (a2 : Option Addr) (a3 a4 : Nat) (a1 : Option Addr) (a0 a5 : Nat) {R : RW} {w : World} (h : Q0r.M a2 a3 a4 a1 a0 a5 R w) : Calls Try.prog 47 #[.slice a2 a3 a4, .slice a1 a0 a5] w fun e w' => ∃ v, e = .returned v ∧ R v w' :=
  Q0m follows (H := []) (args := [.slice a2 a3 a4, .slice a1 a0 a5]) (cast (by kernel_rfl) h)

def Q0r.N (a2 : Option Addr) (a3 a4 : Nat) (a1 : Option Addr) (a0 a5 : Nat) (R : RW) (w : World) : Prop :=
 ∃ (s3 : ByteArray), (convert 34 9 (.slice a2 a3 a4)).run Try.prog w = .ok (.string s3) w ∧
 ∃ (s5 : ByteArray), (convert 34 9 (.slice a1 a0 a5)).run Try.prog w = .ok (.string s5) w ∧
 R (.bool (s3.toList == s5.toList)) w

theorem Q0r.up (a2 : Option Addr) (a3 a4 : Nat) (a1 : Option Addr) (a0 a5 : Nat) {R : RW} {w : World} (h : Q0r.N a2 a3 a4 a1 a0 a5 R w) : Q0r.M a2 a3 a4 a1 a0 a5 R w := by
  unfold Q0r.M
  unfold Q0r.N at h
  obtain ⟨s3, a6, h⟩ := h
  refine ⟨s3, a6, ?_⟩
  obtain ⟨s5, a7, h⟩ := h
  refine ⟨s5, a7, ?_⟩
  exact h

theorem Q0r.go (a2 : Option Addr) (a3 a4 : Nat) (a1 : Option Addr) (a0 a5 : Nat) {R : RW} {w : World} (h : Q0r.N a2 a3 a4 a1 a0 a5 R w) : Calls Try.prog 47 #[.slice a2 a3 a4, .slice a1 a0 a5] w fun e w' => ∃ v, e = .returned v ∧ R v w' := Q0r.ok a2 a3 a4 a1 a0 a5 (Q0r.up a2 a3 a4 a1 a0 a5 h)
theorem Q0r.run (a2 : Option Addr) (a3 a4 : Nat) (a1 : Option Addr) (a0 a5 : Nat) {V : Value} {Q : World → Prop} {w : World} (h : Q0r.N a2 a3 a4 a1 a0 a5 (fun v w' => v = V ∧ Q w') w) : Calls Try.prog 47 #[.slice a2 a3 a4, .slice a1 a0 a5] w (Ret V Q) := (Q0r.go a2 a3 a4 a1 a0 a5 h).mono fun e w' ⟨v, he, hv, hq⟩ => ⟨by rw [he, hv], hq⟩

def Q0E.M (ab : Option Addr) (ac ae : Nat) (ad af : Int) (R : RW) (w : World) : Prop :=
 thenW (w.alloc (.cells #[.int .i64 ad, .int .i64 af] 33)) fun ag =>
 thenW (ag.drew) fun a7 =>
 ∃ (T6 : Int), a7.cell? ((blk w.heap.size).add 0) = some (.int .i64 T6) ∧
 ∃ (W7 : Int), a7.cell? ((blk w.heap.size).add 1) = some (.int .i64 W7) ∧
 Calls Try.prog 44 #[.slice ab ac ae, .int .i64 T6] a7 fun aa a6 => ∃ (a5 : Option Addr) (a3 a4 : Nat), aa = .returned (.slice a5 a3 a4) ∧
 a6.cell? ((blk w.heap.size).add 1) = some (.int .i64 W7) ∧
 Calls Try.prog 52 #[.slice a5 a3 a4, .int .u64 (IntKind.u64.wrap (if (0 : Int) > W7 then 0 else W7))] a6 fun a8 a9 => ∃ (a1 : Option Addr) (a0 a2 : Nat), a8 = .returned (.slice a1 a0 a2) ∧
 R (.slice a1 a0 a2) a9

theorem Q0E.ok (a0 : Option Addr) (a1 a3 : Nat) (a2 a4 : Int) {R : RW} {w : World} (h : Q0E.M a0 a1 a3 a2 a4 R w) : Calls Try.prog 45 #[.slice a0 a1 a3, .agg #[.int .i64 a2, .int .i64 a4]] w fun e w' => ∃ v, e = .returned v ∧ R v w' :=
  Q0m follows (H := []) (args := [.slice a0 a1 a3, .agg #[.int .i64 a2, .int .i64 a4]]) (cast (by kernel_rfl) h)

def Q0E.N (ab : Option Addr) (ac af : Nat) (ad aa : Int) (R : RW) (w : World) : Prop :=
 ∀ (a6 : World) (p6 : Nat), Ext no w a6 → Priv w a6 [p6] →
 Calls Try.prog 44 #[.slice ab ac af, .int .i64 ad] a6 fun ae a9 => ∃ (a3 : Option Addr) (a5 a4 : Nat), ae = .returned (.slice a3 a5 a4) ∧
 Keep [p6] a6 a9 ∧
 Calls Try.prog 52 #[.slice a3 a5 a4, .int .u64 (IntKind.u64.wrap (if (0 : Int) > aa then 0 else aa))] a9 fun a8 a7 => ∃ (a2 : Option Addr) (a1 a0 : Nat), a8 = .returned (.slice a2 a1 a0) ∧
 R (.slice a2 a1 a0) a7

theorem Q0E.up (a9 : Option Addr) (ab aa : Nat) (a8 a7 : Int) {R : RW} {w : World} (h : Q0E.N a9 ab aa a8 a7 R w) : Q0E.M a9 ab aa a8 a7 R w := by
  unfold Q0E.M
  unfold Q0E.N at h
  refine Q01 fun ak e4 => ?_
  have a0 := Blk.of_new e4
  have ae := ((Ext.refl no w)).size
  have ag := (Ext.refl no w).x_alloc e4
  refine Q01 fun ac e5 => ?_
  have af := ag.x_drew e5
  have a0 := a0.x_drew e5
  refine ⟨a8, a0.celli 0 rfl rfl, ?_⟩
  refine ⟨a7, a0.celli 1 rfl rfl, ?_⟩
  have h := h ac (w.heap.size) af (Priv.cons ae a0.lt Priv.nil)
  refine h.mono fun aj ai h => ?_
  obtain ⟨a4, a6, a5, he, hk, h⟩ := h
  refine ⟨a4, a6, a5, he, ?_⟩
  have a0 := hk.blk a0 (by simp)
  refine ⟨a0.celli 1 rfl rfl, ?_⟩
  refine h.mono fun ah ad h => ?_
  obtain ⟨a3, a1, a2, he, h⟩ := h
  refine ⟨a3, a1, a2, he, ?_⟩
  exact h

theorem Q0E.go (a0 : Option Addr) (a1 a3 : Nat) (a2 a4 : Int) {R : RW} {w : World} (h : Q0E.N a0 a1 a3 a2 a4 R w) : Calls Try.prog 45 #[.slice a0 a1 a3, .agg #[.int .i64 a2, .int .i64 a4]] w fun e w' => ∃ v, e = .returned v ∧ R v w' := Q0E.ok a0 a1 a3 a2 a4 (Q0E.up a0 a1 a3 a2 a4 h)
abbrev Q0j.J1 (j8 : Int) (I0 : Nat → List Value → World → Prop) (ag : Option Addr) (ae m5 : Nat) (aa : Option Addr) (R : RW) (a7 : World) : Prop :=
 ag.elim False fun ah =>
 0 ≤ (j8 : Int) ∧ (j8 : Int) < (ae : Int) ∧
 ∃ (ab : Int), a7.cell? (ah.add (Int.toNat j8 * 1)) = some (.int .u64 ab) ∧
 aa.elim False fun af =>
 ∃ (a5 : Option Addr) (a4 a3 : Nat), a7.cell? af = some (.slice a5 a4 a3) ∧
 Calls Try.prog 52 #[.slice a5 a4 a3, .int .u64 ab] a7 fun a9 a6 => ∃ (a0 : Option Addr) (a1 a2 : Nat), a9 = .returned (.slice a0 a1 a2) ∧
 aa.elim False fun ad =>
 Q06 a6 (ad.add 0) ∧
 thenW (a6.setCell (ad.add 0) (.slice a0 a1 a2)) fun a8 =>
 ∃ ac, ac < m5 ∧ I0 ac [.int .i64 (IntKind.i64.wrap (j8 + 1))] a8

def Q0j.M (a3 a2 : Option Addr) (a1 a4 : Nat) (R : RW) (w : World) : Prop :=
 ∃ (I0 : Nat → List Value → World → Prop) (m4 : Nat), I0 m4 [.int .i64 0] w ∧ ∀ (m5 : Nat) (a0 : World) (t3 : Int), I0 m5 [.int .i64 t3] a0 →
 bif decide (t3 < (a1 : Int)) then (
 Q0j.J1 t3 I0 a2 a1 m5 a3 R a0) else (
 R (.tuple #[]) a0)

theorem Q0j.ok (a3 a0 : Option Addr) (a1 a2 : Nat) {R : RW} {w : World} (h : Q0j.M a3 a0 a1 a2 R w) : Calls Try.prog 43 #[.pointer a3, .slice a0 a1 a2] w fun e w' => ∃ v, e = .returned v ∧ R v w' :=
  Q0m follows (H := [(0, [0, 6, 7], [(8, (.one (.int .i64)))])]) (args := [.pointer a3, .slice a0 a1 a2]) (cast (by kernel_rfl) h)

def Q0j.N (ag af : Option Addr) (aa ah : Nat) (R : RW) (w : World) : Prop :=
 ∃ (I0 : Nat → List Value → World → Prop) (m4 : Nat), I0 m4 [.int .i64 0] w ∧ ∀ (m5 : Nat) (a7 : World) (t3 : Int), I0 m5 [.int .i64 t3] a7 →
 (t3 < (aa : Int) →
 ∃ a8 : Addr, af = some a8 ∧
 0 ≤ (t3 : Int) ∧ (t3 : Int) < (aa : Int) ∧
 ∃ (ae : Int), a7.cell? (a8.add (Int.toNat t3 * 1)) = some (.int .u64 ae) ∧
 ∃ a9 : Addr, ag = some a9 ∧
 ∃ (a5 : Option Addr) (a4 a3 : Nat), a7.cell? a9 = some (.slice a5 a4 a3) ∧
 Calls Try.prog 52 #[.slice a5 a4 a3, .int .u64 ae] a7 fun ac a6 => ∃ (a0 : Option Addr) (a1 a2 : Nat), ac = .returned (.slice a0 a1 a2) ∧
 Q06 a6 (a9.add 0) ∧
 thenW (a6.setCell (a9.add 0) (.slice a0 a1 a2)) fun ab =>
 (-9223372036854775808 : Int) ≤ (t3 + 1) ∧ (t3 + 1) < 9223372036854775808 ∧
 ∃ ad, ad < m5 ∧ I0 ad [.int .i64 (t3 + 1)] ab) ∧
 ((aa : Int) ≤ t3 →
 R (.tuple #[]) a7)

theorem Q0j.up (aa ac : Option Addr) (a9 ab : Nat) {R : RW} {w : World} (h : Q0j.N aa ac a9 ab R w) : Q0j.M aa ac a9 ab R w := by
  unfold Q0j.M
  unfold Q0j.N at h
  obtain ⟨I0, m4, h0, h⟩ := h
  refine ⟨I0, m4, h0, fun m5 ai t3 hI => ?_⟩
  have h := h m5 ai t3 hI
  refine bif_fo (fun c7 => ?_) (fun c7 => ?_)
  ·have h := h.2 (Int.not_lt.1 (of_decide_eq_false c7))
   exact h
  have h := h.1 (of_decide_eq_true c7)
  unfold Q0j.J1
  obtain ⟨a8, ag, h⟩ := h
  refine Q0F ag ?_
  obtain ⟨af, an, h⟩ := h
  refine ⟨af, an, ?_⟩
  obtain ⟨am, ae, h⟩ := h
  refine ⟨am, ae, ?_⟩
  obtain ⟨aq, a3, h⟩ := h
  refine Q0F a3 ?_
  obtain ⟨a7, a4, a6, a5, h⟩ := h
  refine ⟨a7, a4, a6, a5, ?_⟩
  refine h.mono fun aj al h => ?_
  obtain ⟨a2, a1, a0, he, h⟩ := h
  refine ⟨a2, a1, a0, he, ?_⟩
  refine Q0F a3 ?_
  obtain ⟨hcs, h⟩ := h
  refine ⟨hcs, Q01 fun ao ah => ?_⟩
  replace h := Q4f h ah
  obtain ⟨ak, ap, h⟩ := h
  try rw [w64 ak ap]
  obtain ⟨ad, hk, h⟩ := h
  exact ⟨ad, hk, h⟩

theorem Q0j.go (a3 a0 : Option Addr) (a1 a2 : Nat) {R : RW} {w : World} (h : Q0j.N a3 a0 a1 a2 R w) : Calls Try.prog 43 #[.pointer a3, .slice a0 a1 a2] w fun e w' => ∃ v, e = .returned v ∧ R v w' := Q0j.ok a3 a0 a1 a2 (Q0j.up a3 a0 a1 a2 h)
def Q0x.M (ad aj aq aw ay am : Int) (ak : Option Addr) (al ai : Nat) (b0 : Int) (R : RW) (w : World) : Prop :=
 thenW (w.alloc (.cells #[.int .i64 ad, .int .i64 aj, .int .u64 aq, .int .i64 aw, .int .i64 ay, .int .i64 am, .slice ak al ai, .int .u64 b0] 36)) fun b6 =>
 thenW (b6.alloc (.cells #[.slice none 0 0] 97)) fun aa =>
 ∃ (a2 : Int), aa.cell? ((blk w.heap.size).add 0) = some (.int .i64 a2) ∧
 ∃ (a5 : Int), aa.cell? ((blk w.heap.size).add 1) = some (.int .i64 a5) ∧
 ∃ (ag : Int), aa.cell? ((blk w.heap.size).add 2) = some (.int .u64 ag) ∧
 thenW (aa.alloc (.cells #[.int .u64 (IntKind.u64.wrap a2), .int .u64 (IntKind.u64.wrap a5), .int .u64 ag] 27)) fun b4 =>
 Calls Try.prog 43 #[.pointer (some (blk b6.heap.size)), .slice (some (blk aa.heap.size)) 3 3] b4 fun b7 b8 => b7 = .returned (.tuple #[]) ∧
 thenW (b8.drew) fun an =>
 ∃ (au : Option Addr) (ax az : Nat), an.cell? (blk b6.heap.size) = some (.slice au ax az) ∧
 ∃ (ap ao : Int), cellsAt an ((blk w.heap.size).add 3) [.int .i64 ap, .int .i64 ao] 0 ∧
 ∃ (a0 : Int), an.cell? ((blk w.heap.size).add 5) = some (.int .i64 a0) ∧
 Calls Try.prog 45 #[.slice au ax az, .agg #[.int .i64 ap, .int .i64 ao]] an fun b5 av => ∃ (a9 : Option Addr) (ac ah : Nat), b5 = .returned (.slice a9 ac ah) ∧
 av.cell? ((blk w.heap.size).add 5) = some (.int .i64 a0) ∧
 Calls Try.prog 44 #[.slice a9 ac ah, .int .i64 a0] av fun b1 ar => ∃ (af : Option Addr) (ae ab : Nat), b1 = .returned (.slice af ae ab) ∧
 ∃ (a6 : Option Addr) (a8 a7 : Nat), ar.cell? ((blk w.heap.size).add 6) = some (.slice a6 a8 a7) ∧
 Calls Try.prog 46 #[.slice af ae ab, .slice a6 a8 a7] ar fun b3 b2 => ∃ (a1 : Option Addr) (a4 a3 : Nat), b3 = .returned (.slice a1 a4 a3) ∧
 R (.slice a1 a4 a3) b2

theorem Q0x.ok (a0 a2 a6 a9 a7 a4 : Int) (a3 : Option Addr) (a5 a1 : Nat) (a8 : Int) {R : RW} {w : World} (h : Q0x.M a0 a2 a6 a9 a7 a4 a3 a5 a1 a8 R w) : Calls Try.prog 33 #[.agg #[.int .i64 a0, .int .i64 a2, .int .u64 a6, .int .i64 a9, .int .i64 a7, .int .i64 a4, .slice a3 a5 a1, .int .u64 a8]] w fun e w' => ∃ v, e = .returned v ∧ R v w' :=
  Q0m follows (H := []) (args := [.agg #[.int .i64 a0, .int .i64 a2, .int .u64 a6, .int .i64 a9, .int .i64 a7, .int .i64 a4, .slice a3 a5 a1, .int .u64 a8]]) (cast (by kernel_rfl) h)

def Q0x.N (a5 ad ah ao aq ag : Int) (ae : Option Addr) (af ac : Nat) (b1 : Int) (R : RW) (w : World) : Prop :=
 ∀ (a3 : World) (al av : Nat), Ext no w a3 → Blk a3 al 97 [.slice none 0 0] → w.heap.size ≤ al → al < a3.heap.size → Privq w al [av] →
 ∀ (a6 : World) (au : Nat), Ext no a3 a6 → Blk a6 au 27 [.int .u64 (IntKind.u64.wrap a5), .int .u64 (IntKind.u64.wrap ad), .int .u64 ah] → a3.heap.size ≤ au → au < a6.heap.size →
 Calls Try.prog 43 #[.pointer (some (blk al)), .slice (some (blk au)) 3 3] a6 fun az ak => az = .returned (.tuple #[]) ∧
 Keep [av] a6 ak ∧
 ∃ (ar : Option Addr) (am an : Nat), ak.cell? (blk al) = some (.slice ar am an) ∧
 ∀ (aj : World), Ext no ak aj →
 Calls Try.prog 45 #[.slice ar am an, .agg #[.int .i64 ao, .int .i64 aq]] aj fun ay ai => ∃ (a4 : Option Addr) (a9 aa : Nat), ay = .returned (.slice a4 a9 aa) ∧
 Keep [av] aj ai ∧
 Calls Try.prog 44 #[.slice a4 a9 aa, .int .i64 ag] ai fun b0 ap => ∃ (ab : Option Addr) (a8 a7 : Nat), b0 = .returned (.slice ab a8 a7) ∧
 Keep [av] ai ap ∧
 Calls Try.prog 46 #[.slice ab a8 a7, .slice ae af ac] ap fun ax aw => ∃ (a0 : Option Addr) (a2 a1 : Nat), ax = .returned (.slice a0 a2 a1) ∧
 R (.slice a0 a2 a1) aw

theorem Q0x.up (a0 a3 a7 ab ac a6 : Int) (a4 : Option Addr) (a5 a2 : Nat) (ae : Int) {R : RW} {w : World} (h : Q0x.N a0 a3 a7 ab ac a6 a4 a5 a2 ae R w) : Q0x.M a0 a3 a7 ab ac a6 a4 a5 a2 ae R w := by
  unfold Q0x.M
  unfold Q0x.N at h
  refine Q01 fun b5 e9 => ?_
  have a1 := Blk.of_new e9
  have b4 := ((Ext.refl no w)).size
  have ax := (Ext.refl no w).x_alloc e9
  refine Q01 fun ad an => ?_
  have b2 := a1.lt
  have a1 := a1.x_alloc an
  have h := h ad b5.heap.size (w.heap.size) (ax.x_alloc an) (Blk.of_new an) (ax).size (Q0C an) (Privq.cons b4 b2 Privq.nil)
  refine ⟨a0, a1.celli 0 rfl rfl, ?_⟩
  refine ⟨a3, a1.celli 1 rfl rfl, ?_⟩
  refine ⟨a7, a1.celli 2 rfl rfl, ?_⟩
  refine Q01 fun ar am => ?_
  have a1 := a1.x_alloc am
  have h := h ar ad.heap.size ((Ext.refl no ad).x_alloc am) (Blk.of_new am) ((Ext.refl no ad)).size (Q0C am)
  refine h.mono fun b6 av h => ?_
  obtain ⟨he, hk, h⟩ := h
  refine ⟨he, ?_⟩
  have a1 := hk.blk a1 (by simp)
  refine Q01 fun aw ay => ?_
  have al := (Ext.refl no av).x_drew ay
  have a1 := a1.x_drew ay
  obtain ⟨aq, ao, ap, au, h⟩ := h
  refine ⟨aq, ao, ap, (al).cell au id, ?_⟩
  refine ⟨ab, ac, ⟨a1.celli 3 rfl rfl, a1.celli 4 rfl rfl, trivial⟩, ?_⟩
  refine ⟨a6, a1.celli 5 rfl rfl, ?_⟩
  have h := h aw al
  refine h.mono fun b1 b3 h => ?_
  obtain ⟨af, ai, ak, he, hk, h⟩ := h
  refine ⟨af, ai, ak, he, ?_⟩
  have a1 := hk.blk a1 (by simp)
  refine ⟨a1.celli 5 rfl rfl, ?_⟩
  refine h.mono fun b8 b7 h => ?_
  obtain ⟨aj, ah, ag, he, hk, h⟩ := h
  refine ⟨aj, ah, ag, he, ?_⟩
  have a1 := hk.blk a1 (by simp)
  refine ⟨a4, a5, a2, a1.celli 6 rfl rfl, ?_⟩
  refine h.mono fun b0 az h => ?_
  obtain ⟨a8, aa, a9, he, h⟩ := h
  refine ⟨a8, aa, a9, he, ?_⟩
  exact h

theorem Q0x.go (a0 a2 a6 a9 a7 a4 : Int) (a3 : Option Addr) (a5 a1 : Nat) (a8 : Int) {R : RW} {w : World} (h : Q0x.N a0 a2 a6 a9 a7 a4 a3 a5 a1 a8 R w) : Calls Try.prog 33 #[.agg #[.int .i64 a0, .int .i64 a2, .int .u64 a6, .int .i64 a9, .int .i64 a7, .int .i64 a4, .slice a3 a5 a1, .int .u64 a8]] w fun e w' => ∃ v, e = .returned v ∧ R v w' := Q0x.ok a0 a2 a6 a9 a7 a4 a3 a5 a1 a8 (Q0x.up a0 a2 a6 a9 a7 a4 a3 a5 a1 a8 h)
def Q0y.M (an ar ax az b0 aq : Int) (au : Option Addr) (av ap : Nat) (ay : Int) (R : RW) (w : World) : Prop :=
 thenW (w.alloc (.cells #[.int .i64 an, .int .i64 ar, .int .u64 ax, .int .i64 az, .int .i64 b0, .int .i64 aq, .slice au av ap, .int .u64 ay] 36)) fun b4 =>
 ∃ (a1 a7 ag al ak a4 : Int) (a2 : Option Addr) (a8 aa : Nat) (ao : Int), cellsAt b4 (blk w.heap.size) [.int .i64 a1, .int .i64 a7, .int .u64 ag, .int .i64 al, .int .i64 ak, .int .i64 a4, .slice a2 a8 aa, .int .u64 ao] 0 ∧
 Calls Try.prog 32 #[.agg #[.int .i64 a1, .int .i64 a7, .int .u64 ag, .int .i64 al, .int .i64 ak, .int .i64 a4, .slice a2 a8 aa, .int .u64 ao]] b4 fun b3 aw => ∃ (af : Bool), b3 = .returned (.bool af) ∧
 bif !af then (
 R (.tuple #[.slice none 0 0, .int .i64 1]) aw) else (
 ∃ (a0 a6 ac aj ai a5 : Int) (a3 : Option Addr) (ab a9 : Nat) (am : Int), cellsAt aw (blk w.heap.size) [.int .i64 a0, .int .i64 a6, .int .u64 ac, .int .i64 aj, .int .i64 ai, .int .i64 a5, .slice a3 ab a9, .int .u64 am] 0 ∧
 Calls Try.prog 33 #[.agg #[.int .i64 a0, .int .i64 a6, .int .u64 ac, .int .i64 aj, .int .i64 ai, .int .i64 a5, .slice a3 ab a9, .int .u64 am]] aw fun b2 b1 => ∃ (ae : Option Addr) (ah ad : Nat), b2 = .returned (.slice ae ah ad) ∧
 R (.tuple #[.slice ae ah ad, .int .i64 0]) b1)

theorem Q0y.ok (a0 a2 a6 a9 a7 a4 : Int) (a3 : Option Addr) (a5 a1 : Nat) (a8 : Int) {R : RW} {w : World} (h : Q0y.M a0 a2 a6 a9 a7 a4 a3 a5 a1 a8 R w) : Calls Try.prog 19 #[.agg #[.int .i64 a0, .int .i64 a2, .int .u64 a6, .int .i64 a9, .int .i64 a7, .int .i64 a4, .slice a3 a5 a1, .int .u64 a8]] w fun e w' => ∃ v, e = .returned v ∧ R v w' :=
  Q0m follows (H := []) (args := [.agg #[.int .i64 a0, .int .i64 a2, .int .u64 a6, .int .i64 a9, .int .i64 a7, .int .i64 a4, .slice a3 a5 a1, .int .u64 a8]]) (cast (by kernel_rfl) h)

def Q0y.N (a0 a2 a6 ad ab a4 : Int) (a3 : Option Addr) (a5 a1 : Nat) (ac : Int) (R : RW) (w : World) : Prop :=
 ((Q08.F a0 a2 a6 ad ab a4 a3 a5 a1 ac) = false →
 ∀ (aa : World), Ext no w aa →
 R (.tuple #[.slice none 0 0, .int .i64 1]) aa) ∧
 ((Q08.F a0 a2 a6 ad ab a4 a3 a5 a1 ac) = true →
 ∀ (aa : World), Ext no w aa →
 Calls Try.prog 33 #[.agg #[.int .i64 a0, .int .i64 a2, .int .u64 a6, .int .i64 ad, .int .i64 ab, .int .i64 a4, .slice a3 a5 a1, .int .u64 ac]] aa fun af ae => ∃ (a7 : Option Addr) (a9 a8 : Nat), af = .returned (.slice a7 a9 a8) ∧
 R (.tuple #[.slice a7 a9 a8, .int .i64 0]) ae)

theorem Q0y.up (a0 a2 a6 a7 a8 a5 : Int) (a3 : Option Addr) (a4 a1 : Nat) (a9 : Int) {R : RW} {w : World} (h : Q0y.N a0 a2 a6 a7 a8 a5 a3 a4 a1 a9 R w) : Q0y.M a0 a2 a6 a7 a8 a5 a3 a4 a1 a9 R w := by
  unfold Q0y.M
  unfold Q0y.N at h
  refine Q01 fun ak e9 => ?_
  have aa := Blk.of_new e9
  have aj := ((Ext.refl no w)).size
  have ag := (Ext.refl no w).x_alloc e9
  refine ⟨a0, a2, a6, a7, a8, a5, a3, a4, a1, a9, ⟨aa.celli 0 rfl rfl, aa.celli 1 rfl rfl, aa.celli 2 rfl rfl, aa.celli 3 rfl rfl, aa.celli 4 rfl rfl, aa.celli 5 rfl rfl, aa.celli 6 rfl rfl, aa.celli 7 rfl rfl, trivial⟩, ?_⟩
  refine (Q08.pure a0 a2 a6 a7 a8 a5 a3 a4 a1 a9).mono fun ee ww10 ⟨he, hxx⟩ => ⟨(Q08.F a0 a2 a6 a7 a8 a5 a3 a4 a1 a9), he, ?_⟩
  have ae := ag.trans hxx
  have aa := aa.ext hxx id
  refine bif_of (fun af => ?_) (fun af => ?_)
  ·have h := h.1 (not_t af)
   have h := h ww10 ae
   exact h
  have h := h.2 (not_f af)
  refine ⟨a0, a2, a6, a7, a8, a5, a3, a4, a1, a9, ⟨aa.celli 0 rfl rfl, aa.celli 1 rfl rfl, aa.celli 2 rfl rfl, aa.celli 3 rfl rfl, aa.celli 4 rfl rfl, aa.celli 5 rfl rfl, aa.celli 6 rfl rfl, aa.celli 7 rfl rfl, trivial⟩, ?_⟩
  have h := h ww10 ae
  refine h.mono fun ah ai h => ?_
  obtain ⟨ab, ac, ad, he, h⟩ := h
  refine ⟨ab, ac, ad, he, ?_⟩
  exact h

theorem Q0y.go (a0 a2 a6 a9 a7 a4 : Int) (a3 : Option Addr) (a5 a1 : Nat) (a8 : Int) {R : RW} {w : World} (h : Q0y.N a0 a2 a6 a9 a7 a4 a3 a5 a1 a8 R w) : Calls Try.prog 19 #[.agg #[.int .i64 a0, .int .i64 a2, .int .u64 a6, .int .i64 a9, .int .i64 a7, .int .i64 a4, .slice a3 a5 a1, .int .u64 a8]] w fun e w' => ∃ v, e = .returned v ∧ R v w' := Q0y.ok a0 a2 a6 a9 a7 a4 a3 a5 a1 a8 (Q0y.up a0 a2 a6 a9 a7 a4 a3 a5 a1 a8 h)
def Q0v.M (af av b3 b7 b8 ao : Int) (au : Option Addr) (aq ar : Nat) (b9 ak al ap b2 b5 am : Int) (aj : Option Addr) (ag ai : Nat) (b4 : Int) (R : RW) (w : World) : Prop :=
 thenW (w.alloc (.cells #[.int .i64 af, .int .i64 av, .int .u64 b3, .int .i64 b7, .int .i64 b8, .int .i64 ao, .slice au aq ar, .int .u64 b9] 36)) fun a3 =>
 thenW (a3.alloc (.cells #[.int .i64 ak, .int .i64 al, .int .u64 ap, .int .i64 b2, .int .i64 b5, .int .i64 am, .slice aj ag ai, .int .u64 b4] 36)) fun bb =>
 thenW (bb.drew) fun b6 =>
 ∃ (ae : Option Addr) (ad aa : Nat), b6.cell? ((blk w.heap.size).add 6) = some (.slice ae ad aa) ∧
 ∃ (a8 : Option Addr) (a7 a9 : Nat), b6.cell? ((blk a3.heap.size).add 6) = some (.slice a8 a7 a9) ∧
 Calls Try.prog 47 #[.slice ae ad aa, .slice a8 a7 a9] b6 fun ba a0 => ∃ (a4 : Bool), ba = .returned (.bool a4) ∧
 bif a4 then (
 ∃ (a1 : Int), a0.cell? ((blk w.heap.size).add 0) = some (.int .i64 a1) ∧
 ∃ (a2 : Int), a0.cell? ((blk a3.heap.size).add 0) = some (.int .i64 a2) ∧
 bif a1 == a2 then (
 ∃ (ab : Int), a0.cell? ((blk w.heap.size).add 1) = some (.int .i64 ab) ∧
 ∃ (a6 : Int), a0.cell? ((blk a3.heap.size).add 1) = some (.int .i64 a6) ∧
 bif ab == a6 then (
 ∃ (an : Int), a0.cell? ((blk w.heap.size).add 2) = some (.int .u64 an) ∧
 ∃ (ah : Int), a0.cell? ((blk a3.heap.size).add 2) = some (.int .u64 ah) ∧
 bif an == ah then (
 ∃ (ax aw : Int), cellsAt a0 ((blk w.heap.size).add 3) [.int .i64 ax, .int .i64 aw] 0 ∧
 ∃ (ay az : Int), cellsAt a0 ((blk a3.heap.size).add 3) [.int .i64 ay, .int .i64 az] 0 ∧
 ∃ (bc : Bool), (binOp .eql 33 (.agg #[.int .i64 ax, .int .i64 aw]) (.agg #[.int .i64 ay, .int .i64 az])).run Try.prog a0 = .ok (.bool bc) a0 ∧
 bif bc then (
 ∃ (ac : Int), a0.cell? ((blk w.heap.size).add 5) = some (.int .i64 ac) ∧
 ∃ (a5 : Int), a0.cell? ((blk a3.heap.size).add 5) = some (.int .i64 a5) ∧
 bif ac == a5 then (
 ∃ (b1 : Int), a0.cell? ((blk w.heap.size).add 7) = some (.int .u64 b1) ∧
 ∃ (b0 : Int), a0.cell? ((blk a3.heap.size).add 7) = some (.int .u64 b0) ∧
 R (.bool (b1 == b0)) a0) else (
 R (.bool false) a0)) else (
 R (.bool false) a0)) else (
 R (.bool false) a0)) else (
 R (.bool false) a0)) else (
 R (.bool false) a0)) else (
 R (.bool false) a0)

theorem Q0v.ok (a0 ac ae ah ai a7 : Int) (ab : Option Addr) (a9 aa : Nat) (aj a4 a5 a8 ad ag a6 : Int) (a3 : Option Addr) (a1 a2 : Nat) (af : Int) {R : RW} {w : World} (h : Q0v.M a0 ac ae ah ai a7 ab a9 aa aj a4 a5 a8 ad ag a6 a3 a1 a2 af R w) : Calls Try.prog 35 #[.agg #[.int .i64 a0, .int .i64 ac, .int .u64 ae, .int .i64 ah, .int .i64 ai, .int .i64 a7, .slice ab a9 aa, .int .u64 aj], .agg #[.int .i64 a4, .int .i64 a5, .int .u64 a8, .int .i64 ad, .int .i64 ag, .int .i64 a6, .slice a3 a1 a2, .int .u64 af]] w fun e w' => ∃ v, e = .returned v ∧ R v w' :=
  Q0m follows (H := []) (args := [.agg #[.int .i64 a0, .int .i64 ac, .int .u64 ae, .int .i64 ah, .int .i64 ai, .int .i64 a7, .slice ab a9 aa, .int .u64 aj], .agg #[.int .i64 a4, .int .i64 a5, .int .u64 a8, .int .i64 ad, .int .i64 ag, .int .i64 a6, .slice a3 a1 a2, .int .u64 af]]) (cast (by kernel_rfl) h)

def Q0v.N (a1 a8 aa aj ak a6 : Int) (ah : Option Addr) (af ag : Nat) (am a2 a4 a7 a9 ae a5 : Int) (ad : Option Addr) (ab ac : Nat) (al : Int) (R : RW) (w : World) : Prop :=
 ∀ (ai : World) (ao ap : Nat), Ext no w ai → Priv w ai [ao, ap] →
 Calls Try.prog 47 #[.slice ah af ag, .slice ad ab ac] ai fun an a3 => ∃ (a0 : Bool), an = .returned (.bool a0) ∧
 Keep [ao, ap] ai a3 ∧
 (a0 = true →
 (a1 = a2 →
 (a8 = a4 →
 (aa = a7 →
 (aj = a9 ∧ ak = ae →
 (a6 = a5 →
 R (.bool (am == al)) a3) ∧
 (a6 ≠ a5 →
 R (.bool false) a3)) ∧
 (¬ (aj = a9 ∧ ak = ae) →
 R (.bool false) a3)) ∧
 (aa ≠ a7 →
 R (.bool false) a3)) ∧
 (a8 ≠ a4 →
 R (.bool false) a3)) ∧
 (a1 ≠ a2 →
 R (.bool false) a3)) ∧
 (a0 = false →
 R (.bool false) a3)

theorem Q0v.up (a0 ae ag ai aj a7 : Int) (ac : Option Addr) (aa ab : Nat) (al a4 a5 a9 a8 ad a6 : Int) (a3 : Option Addr) (a1 a2 : Nat) (ah : Int) {R : RW} {w : World} (h : Q0v.N a0 ae ag ai aj a7 ac aa ab al a4 a5 a9 a8 ad a6 a3 a1 a2 ah R w) : Q0v.M a0 ae ag ai aj a7 ac aa ab al a4 a5 a9 a8 ad a6 a3 a1 a2 ah R w := by
  unfold Q0v.M
  unfold Q0v.N at h
  refine Q01 fun b0 b3 => ?_
  have af := Blk.of_new b3
  have b6 := ((Ext.refl no w)).size
  have an := (Ext.refl no w).x_alloc b3
  refine Q01 fun b8 ax => ?_
  have ak := Blk.of_new ax
  have b4 := (an).size
  have b2 := Nat.ne_of_lt af.lt
  have af := af.x_alloc ax
  have ap := an.x_alloc ax
  refine Q01 fun ay au => ?_
  have az := ap.x_drew au
  have af := af.x_drew au
  have ak := ak.x_drew au
  refine ⟨ac, aa, ab, af.celli 6 rfl rfl, ?_⟩
  refine ⟨a3, a1, a2, ak.celli 6 rfl rfl, ?_⟩
  have h := h ay (w.heap.size) (b0.heap.size) az (Priv.cons b6 af.lt (Priv.cons b4 ak.lt Priv.nil))
  refine h.mono fun b5 b7 h => ?_
  obtain ⟨am, he, hk, h⟩ := h
  refine ⟨am, he, ?_⟩
  have af := hk.blk af (by simp)
  have ak := hk.blk ak (by simp)
  refine bif_fo (fun b1 => ?_) (fun b1 => ?_)
  ·have h := h.2 b1
   exact h
  have h := h.1 b1
  refine ⟨a0, af.celli 0 rfl rfl, ?_⟩
  refine ⟨a4, ak.celli 0 rfl rfl, ?_⟩
  refine bif_fo (fun av => ?_) (fun av => ?_)
  ·have h := h.2 (beq_f av)
   exact h
  have h := h.1 (beq_t av)
  refine ⟨ae, af.celli 1 rfl rfl, ?_⟩
  refine ⟨a5, ak.celli 1 rfl rfl, ?_⟩
  refine bif_fo (fun aq => ?_) (fun aq => ?_)
  ·have h := h.2 (beq_f aq)
   exact h
  have h := h.1 (beq_t aq)
  refine ⟨ag, af.celli 2 rfl rfl, ?_⟩
  refine ⟨a9, ak.celli 2 rfl rfl, ?_⟩
  refine bif_fo (fun ar => ?_) (fun ar => ?_)
  ·have h := h.2 (beq_f ar)
   exact h
  have h := h.1 (beq_t ar)
  refine ⟨ai, aj, ⟨af.celli 3 rfl rfl, af.celli 4 rfl rfl, trivial⟩, ?_⟩
  refine ⟨a8, ad, ⟨ak.celli 3 rfl rfl, ak.celli 4 rfl rfl, trivial⟩, ?_⟩
  refine ⟨_, Q3t ai aj a8 ad _, ?_⟩
  refine bif_fo (fun aw => ?_) (fun aw => ?_)
  ·have h := h.2 (of_decide_eq_false aw)
   exact h
  have h := h.1 (of_decide_eq_true aw)
  refine ⟨a7, af.celli 5 rfl rfl, ?_⟩
  refine ⟨a6, ak.celli 5 rfl rfl, ?_⟩
  refine bif_fo (fun ao => ?_) (fun ao => ?_)
  ·have h := h.2 (beq_f ao)
   exact h
  have h := h.1 (beq_t ao)
  refine ⟨al, af.celli 7 rfl rfl, ?_⟩
  refine ⟨ah, ak.celli 7 rfl rfl, ?_⟩
  exact h

theorem Q0v.go (a0 ac ae ah ai a7 : Int) (ab : Option Addr) (a9 aa : Nat) (aj a4 a5 a8 ad ag a6 : Int) (a3 : Option Addr) (a1 a2 : Nat) (af : Int) {R : RW} {w : World} (h : Q0v.N a0 ac ae ah ai a7 ab a9 aa aj a4 a5 a8 ad ag a6 a3 a1 a2 af R w) : Calls Try.prog 35 #[.agg #[.int .i64 a0, .int .i64 ac, .int .u64 ae, .int .i64 ah, .int .i64 ai, .int .i64 a7, .slice ab a9 aa, .int .u64 aj], .agg #[.int .i64 a4, .int .i64 a5, .int .u64 a8, .int .i64 ad, .int .i64 ag, .int .i64 a6, .slice a3 a1 a2, .int .u64 af]] w fun e w' => ∃ v, e = .returned v ∧ R v w' := Q0v.ok a0 ac ae ah ai a7 ab a9 aa aj a4 a5 a8 ad ag a6 a3 a1 a2 af (Q0v.up a0 ac ae ah ai a7 ab a9 aa aj a4 a5 a8 ad ag a6 a3 a1 a2 af h)
theorem Q0v.run (a0 ac ae ah ai a7 : Int) (ab : Option Addr) (a9 aa : Nat) (aj a4 a5 a8 ad ag a6 : Int) (a3 : Option Addr) (a1 a2 : Nat) (af : Int) {V : Value} {Q : World → Prop} {w : World} (h : Q0v.N a0 ac ae ah ai a7 ab a9 aa aj a4 a5 a8 ad ag a6 a3 a1 a2 af (fun v w' => v = V ∧ Q w') w) : Calls Try.prog 35 #[.agg #[.int .i64 a0, .int .i64 ac, .int .u64 ae, .int .i64 ah, .int .i64 ai, .int .i64 a7, .slice ab a9 aa, .int .u64 aj], .agg #[.int .i64 a4, .int .i64 a5, .int .u64 a8, .int .i64 ad, .int .i64 ag, .int .i64 a6, .slice a3 a1 a2, .int .u64 af]] w (Ret V Q) := (Q0v.go a0 ac ae ah ai a7 ab a9 aa aj a4 a5 a8 ad ag a6 a3 a1 a2 af h).mono fun e w' ⟨v, he, hv, hq⟩ => ⟨by rw [he, hv], hq⟩

theorem keep1 {w w' : World} {m : Nat → Prop} {p : Nat} (h : Ext m w w') (hp : ¬ m p) : Keep [p] w w' := h.keep fun q hq _ => by simp at hq; subst hq; exact hp
theorem keep2 {w w' : World} {m : Nat → Prop} {p q : Nat} (h : Ext m w w') (hp : ¬ m p) (hq : ¬ m q) : Keep [p, q] w w' := h.keep fun r hr _ => by
  simp at hr
  rcases hr with rfl | rfl
  · exact hp
  · exact hq
theorem OwnB.up {N M : Nat} {w : World} {a : Option Addr} {c : Nat} {bs : List UInt8} (h : OwnB N w a c bs) (hM : M ≤ N) : OwnB M w a c bs := ⟨h.own, fun ad ha => ⟨Nat.le_trans hM (h.fr ad ha).1, (h.fr ad ha).2⟩⟩
theorem app {w0 wi w1 : World} {N : Nat} {a xa : Option Addr} {c xc : Nat} {l x : List UInt8} (hB : OwnB N wi a c l) (X : Ext no w0 wi) (h0 : w0.heap.size ≤ N) (hN : N ≤ wi.heap.size) (hx : Ext no wi w1) (hO : RowAt w1 xa (bytesV x)) (hl : l.length + x.length ≤ 100000000) :
    ∃ a' c' w', (Builtin.append_ #[34, 34] 34 #[.slice a l.length c, .slice xa x.length xc]).run Try.prog w1 = .ok (.slice a' (l ++ x).length c') w' ∧ OwnB N w' a' c' (l ++ x) ∧ Ext no w0 w' ∧ Ext (fun b => N ≤ b) w1 w' ∧ N ≤ w'.heap.size := by
  obtain ⟨a', c', w', hr, hO2, hx2⟩ := (hB.no hx).append (t := 34) (ty := 34) Try.underlying34 (Nat.le_trans hN hx.size) (xc := xc) hO hl
  exact ⟨a', c', w', hr, hO2, (X.trans hx).then hx2 fun b hb => .inr (Nat.le_trans h0 hb), hx2, Nat.le_trans hN (Nat.le_trans hx.size hx2.size)⟩
section
variable {w w' : World} {a : Option Addr} {c N p : Nat} {bs : List UInt8} {k : Int}
theorem Q4m (h : RowAt w a (bytesV bs)) (hl : bs.length ≤ 900000) {t s : Int} (h0 : -9223372036854775808 ≤ t) (h1 : t < 9223372036854775808) (hs : s < 9223372036854775808) :
    Calls Try.prog 45 #[.slice a bs.length c, .agg #[.int .i64 t, .int .i64 s]] w (fun e w' => ∃ a' c', e = .returned (.slice a' (bs ++ stampL t s).length c') ∧ OwnB w.heap.size w' a' c' (bs ++ stampL t s) ∧ Ext no w w') := by
  refine (Q0E.go _ _ _ _ _ (R := fun v w' => ∃ a' c', v = (.slice a' (bs ++ stampL t s).length c') ∧ OwnB w.heap.size w' a' c' (bs ++ stampL t s) ∧ Ext no w w') ?_).mono fun e w' ⟨v, he, a, c, hv, hw⟩ => ⟨a, c, by rw [he, hv], hw⟩
  unfold Q0E.N
  intro w5 p6 hx5 hp
  refine (W.Int_spec (h.no hx5) (by omega) h0 h1).mono fun e w9 ⟨a9, c9, he, hO, hx9⟩ => ⟨a9, _, c9, he, hx9.kept, ?_⟩
  have e1 : IntKind.u64.wrap (if (0 : Int) > s then 0 else s) = ((s.toNat : Nat) : Int) := by split <;> rw [wu64 (by omega) (by omega)] <;> omega
  rw [e1]
  have hz := W.numL_le (zig t)
  refine (W.Num_spec hO.row (by rw [List.length_append]; omega) (n := s.toNat) (by omega)).mono fun e w12 ⟨a12, c12, he, hO2, hx12⟩ => ⟨a12, _, c12, he, a12, c12, ?_, ?_, (hx5.trans hx9).trans hx12⟩
  · unfold stampL; rw [List.append_assoc]
  · unfold stampL; rw [← List.append_assoc]; exact OwnB.up hO2 (Nat.le_trans hx5.size hx9.size)
theorem Q3W {q : Nat} (hq : Blk w q 97 [.slice a bs.length c]) (h : RowAt w a (bytesV bs)) (ho : ∀ ad, a = some ad → ad.block ≠ q) {la : Option Addr} {lc : Nat} {xs : List Nat} (hx : RowAt w la (xs.map fun (n : Nat) => Value.int .u64 (n : Int))) (hla : ∀ ad, la = some ad → ad.block ≠ q)
    (hxs : ∀ n ∈ xs, n < 18446744073709551616) (hl : bs.length + xs.length * 10 ≤ 900000) :
    Calls Try.prog 43 #[.pointer (some (blk q)), .slice la xs.length lc] w (fun e w' => e = .returned (.tuple #[]) ∧ ∃ a' c', Blk w' q 97 [.slice a' (bs ++ xs.flatMap numL).length c'] ∧ RowAt w' a' (bytesV (bs ++ xs.flatMap numL)) ∧ (∀ ad, a' = some ad → ad.block ≠ q ∧ (a' = a ∨ w.heap.size ≤ ad.block)) ∧ Ext (fun b => b = q) w w') := by
  refine (Q0j.go _ _ _ _ (R := fun v w' => v = .tuple #[] ∧ ∃ a' c', Blk w' q 97 [.slice a' (bs ++ xs.flatMap numL).length c'] ∧ RowAt w' a' (bytesV (bs ++ xs.flatMap numL)) ∧ (∀ ad, a' = some ad → ad.block ≠ q ∧ (a' = a ∨ w.heap.size ≤ ad.block)) ∧ Ext (fun b => b = q) w w') ?_).mono fun e w' ⟨v, he, hv, hw⟩ => ⟨by rw [he, hv], hw⟩
  unfold Q0j.N
  refine ⟨fun k vs w1 => ∃ (t : Nat) (a1 : Option Addr) (c1 : Nat) (l1 : List UInt8), vs = [.int .i64 t] ∧ k + t = xs.length ∧ l1 = bs ++ (xs.take t).flatMap numL ∧ l1.length ≤ bs.length + t * 10 ∧ Blk w1 q 97 [.slice a1 l1.length c1] ∧ RowAt w1 a1 (bytesV l1) ∧ (∀ ad, a1 = some ad → ad.block ≠ q ∧ (a1 = a ∨ w.heap.size ≤ ad.block)) ∧ Ext (fun b => b = q) w w1, xs.length,
    ⟨0, a, c, bs, rfl, rfl, by simp, by omega, hq, h, fun ad ha => ⟨ho ad ha, .inl rfl⟩, Ext.refl _ _⟩, ?_⟩
  rintro k w1 i ⟨t, a1, c1, l1, hi, hk, hl1, hlen, hb, hr, hf, X⟩
  simp only [List.cons.injEq, Value.int.injEq, true_and, and_true] at hi
  subst hi
  refine ⟨fun ht => ?_, fun ht => ?_⟩
  · have htl : t < xs.length := by omega
    have hx1 := hx.ext' X fun _ ad ha => hla ad ha
    obtain ⟨ad, rfl⟩ := hx1.addr (by intro e; rw [List.map_eq_nil_iff] at e; subst e; simp at htl)
    have hnb := hxs xs[t] (List.getElem_mem htl)
    refine ⟨ad, rfl, by omega, by omega, xs[t], by rw [Int.toNat_natCast, Nat.mul_one]; exact hx1.at_ (by simp [htl]), blk q, rfl, a1, _, c1, hb.cella (i := 0) rfl, ?_⟩
    refine (W.Num_spec hr (by omega) hnb).mono fun e w16 ⟨a2, c2, he, hO, hx16⟩ => ⟨a2, _, c2, he, (hb.ext hx16 id).cana (i := 0) rfl, Q01 fun w18 e18 => ?_⟩
    have hb18 := (hb.ext hx16 id).seti 0 rfl e18
    have x18 : Ext (fun b => b = q) w16 w18 := (Ext.refl (fun b => b = q) w16).x_set (q := q) (i := 0) rfl (.inl rfl) e18
    have hne : ∀ ad, a2 = some ad → ad.block ≠ q := fun ad ha e => by have := (hO.fr ad ha).1; have := hb.lt; omega
    have htk : xs.take (t + 1) = xs.take t ++ [xs[t]] := by rw [List.take_add_one]; simp [htl]
    have hnl := W.numL_le xs[t]
    refine ⟨by omega, by omega, k - 1, by omega, t + 1, a2, c2, l1 ++ numL xs[t], rfl, by omega, ?_, by rw [List.length_append]; omega, hb18, hO.row.ext' x18 fun _ ad ha => hne ad ha, fun ad ha => ⟨hne ad ha, .inr (Nat.le_trans X.size (hO.fr ad ha).1)⟩, (X.trans hx16.none).trans x18⟩
    rw [hl1, htk, List.flatMap_append, List.append_assoc]; simp
  · obtain rfl : t = xs.length := by omega
    rw [List.take_length] at hl1
    subst hl1
    exact ⟨rfl, a1, c1, hb, hr, hf, X⟩
theorem Q45 {e : Ent} (hr : Q0o e = true) (hf : e.fit) {ba : Option Addr} {bc : Nat} (hb : RowAt w ba (bytesV e.body)) :
    Calls Try.prog 33 #[entV e ba bc] w (fun x w' => ∃ a' c', x = .returned (.slice a' (textL e).length c') ∧ OwnB w.heap.size w' a' c' (textL e) ∧ Ext no w w') := by
  obtain ⟨h1, h2, h3, h4, h5, h6, h7, h8, h9, h10, h11⟩ := (Q1L e).1 hr
  have f1 := hf.pv0; have f2 := hf.pv1
  refine (Q0x.go e.w e.i e.pv e.t e.tw e.ep ba e.body.length bc e.sg (R := fun v w' => ∃ a' c', v = (.slice a' (textL e).length c') ∧ OwnB w.heap.size w' a' c' (textL e) ∧ Ext no w w') ?_).mono fun x w' ⟨v, he, a, c, hv, hw⟩ => ⟨a, c, by rw [he, hv], hw⟩
  unfold Q0x.N
  intro w10 q p X10 hq hq1 hq2 hp w13 q2 X13 hq3 hq4 hq5
  rw [wu64 (n := e.w) h1 (by omega), wu64 (n := e.i) h3 (by omega)] at hq3
  have hrow : RowAt w13 (some (blk q2)) (([e.w.toNat, e.i.toNat, e.pv.toNat] : List Nat).map fun (n : Nat) => Value.int .u64 (n : Int)) := by
    have := RowAt.of_blk hq3
    simp only [List.map_cons, List.map_nil, Int.toNat_of_nonneg h1, Int.toNat_of_nonneg h3, Int.toNat_of_nonneg f1]
    exact this
  have hp1 := hp.one
  refine (Q3W (bs := []) (q := q) (hq.ext X13 id) (RowAt.nil _ _) (fun ad ha => by cases ha) hrow (fun ad ha => by cases ha; simp only [blk]; omega) (by simp; omega) (by simp)).mono fun x w16 ⟨he, a1, c1, hb1, hr1, hf1, X16⟩ => ?_
  have hw16 : Ext no w w16 := (X10.trans X13).then X16 fun b hb => .inr (by omega)
  have hpq : p ≠ q := by omega
  have e1 : ([] ++ [e.w.toNat, e.i.toNat, e.pv.toNat].flatMap numL) = numL e.w.toNat ++ numL e.i.toNat ++ numL e.pv.toNat := by simp
  rw [e1] at hr1 hb1
  refine ⟨he, keep1 X16 hpq, a1, _, c1, hb1.cell (i := 0) rfl, fun w17 X17 => ?_⟩
  have g1 := W.numL_le e.w.toNat; have g2 := W.numL_le e.i.toNat; have g3 := W.numL_le e.pv.toNat; have g4 := Q4a e.t e.tw; have g5 := W.numL_le (zig e.ep)
  have h17 := hw16.trans X17
  refine (Q4m (hr1.no X17) (by simp only [List.length_append]; omega) (by omega) (by omega) (by omega)).mono fun x w22 ⟨a2, c2, he, hO2, X22⟩ => ⟨a2, _, c2, he, X22.kept, ?_⟩
  refine (W.Int_spec hO2.row (by simp only [List.length_append]; omega) (by omega) (by omega)).mono fun x w25 ⟨a3, c3, he, hO3, X25⟩ => ⟨a3, _, c3, he, X25.kept, ?_⟩
  have h25 := (h17.trans X22).trans X25
  refine (W.Bytes_spec hO3.row (by simp only [List.length_append]; omega) (hb.no h25) (by omega)).mono fun x w28 ⟨a4, c4, he, hO4, X28⟩ => ⟨a4, _, c4, he, a4, c4, ?_, ?_, h25.trans X28⟩
  · unfold textL; simp only [List.append_assoc]
  · unfold textL; rw [← List.append_assoc]; exact OwnB.up hO4 h25.size
theorem Q3T {e : Ent} (hf : Q0o e = true → e.fit) {ba : Option Addr} {bc : Nat} (hb : RowAt w ba (bytesV e.body)) :
    Calls Try.prog 19 #[entV e ba bc] w (fun x w' => Ext no w w' ∧ ((Q0o e = false ∧ x = .returned (.tuple #[.slice none 0 0, .int .i64 1])) ∨ (Q0o e = true ∧ ∃ a' c', x = .returned (.tuple #[.slice a' (textL e).length c', .int .i64 0]) ∧ OwnB w.heap.size w' a' c' (textL e)))) := by
  refine (Q0y.go e.w e.i e.pv e.t e.tw e.ep ba e.body.length bc e.sg (R := fun v w' => Ext no w w' ∧ ((Q0o e = false ∧ v = (.tuple #[.slice none 0 0, .int .i64 1])) ∨ (Q0o e = true ∧ ∃ a' c', v = (.tuple #[.slice a' (textL e).length c', .int .i64 0]) ∧ OwnB w.heap.size w' a' c' (textL e)))) ?_).mono fun x w' ⟨v, he, hx, hv⟩ => ⟨hx, hv.imp (fun ⟨h1, h2⟩ => ⟨h1, by rw [he, h2]⟩) fun ⟨h1, a, c, h2, h3⟩ => ⟨h1, a, c, by rw [he, h2], h3⟩⟩
  unfold Q0y.N
  rw [Q1G]
  refine ⟨fun h w10 X => ⟨X, .inl ⟨h, rfl⟩⟩, fun h w10 X => ?_⟩
  exact (Q45 h (hf h) (hb.no X)).mono fun x w16 ⟨a1, c1, he, hO, X16⟩ => ⟨a1, _, c1, he, X.trans X16, .inr ⟨h, a1, c1, rfl, OwnB.up hO X.size⟩⟩
/-! ### reading -/
end
open W (OwnB GivesW numR countR doneR zig unzig intR)
theorem litB {w w1 : World} {t e : TypeId} (hs : Try.prog.underlying t = some (.slice e)) (he : Try.prog.underlying e = some (.int .u8)) (bs : List UInt8) {q : Nat} (X : Ext no w w1) (hb : Blk w1 q e (bytesV bs)) (hq : w.heap.size ≤ q) :
    ∃ w2, (convert t t (.slice (some (blk q)) bs.length bs.length)).run Try.prog w1 = .ok (.slice (some (blk q)) bs.length bs.length) w2 ∧ RowAt w2 (some (blk q)) (bytesV bs) ∧ Ext no w w2 :=
  ⟨_, Q2U hs he hb, (RowAt.of_blk hb).freeze _ _, X.freeze (.inr hq) _⟩
section
variable {w w' : World} {a : Option Addr} {c N p : Nat} {bs : List UInt8} {k : Int}
theorem Q3G {b : Option Addr} {d : Nat} {x y : List UInt8} (ha : RowAt w a (bytesV x)) (hb : RowAt w b (bytesV y)) :
    Calls Try.prog 47 #[.slice a x.length c, .slice b y.length d] w (Ret (.bool (decide (x = y))) fun w' => w' = w) := by
  refine Q0r.run _ _ _ _ _ _ ?_
  unfold Q0r.N
  refine ⟨_, Q1Q Try.underlying34 Try.underlying5 Try.underlying9 ha, _, Q1Q Try.underlying34 Try.underlying5 Try.underlying9 hb, ?_, rfl⟩
  have key := Q1W x y
  have e : ∀ s : List UInt8, (ByteArray.mk s.toArray).toList = s := fun s => by
    simp
  congr 1
  rw [e, e, Bool.eq_iff_iff]
  simp
theorem Q3L {e f : Ent} {b : Option Addr} {d : Nat} (ha : RowAt w a (bytesV e.body)) (hb : RowAt w b (bytesV f.body)) :
    Calls Try.prog 35 #[entV e a c, entV f b d] w (Ret (.bool (decide (e = f))) fun w' => Ext no w w') := by
  refine Q0v.run _ _ _ _ _ _ _ _ _ _ _ _ _ _ _ _ _ _ _ _ ?_
  unfold Q0v.N
  intro w19 p20 p21 X hp
  refine (Q3G (ha.no X) (hb.no X)).mono fun x w24 ⟨he, hw⟩ => ⟨_, he, by subst hw; exact Keep.refl _ _, ?_⟩
  subst hw
  obtain ⟨e1, e2, e3, e4, e5, e6, e7, e8⟩ := e
  obtain ⟨f1, f2, f3, f4, f5, f6, f7, f8⟩ := f
  simp only [Ent.mk.injEq]
  refine ⟨fun h => ?_, fun h => ?_⟩
  · have h := of_decide_eq_true h
    subst h
    refine ⟨fun c1 => ⟨fun c2 => ⟨fun c3 => ⟨fun c4 => ⟨fun c5 => ?_, fun c5 => ?_⟩, fun c4 => ?_⟩, fun c3 => ?_⟩, fun c2 => ?_⟩, fun c1 => ?_⟩ <;> refine ⟨?_, X⟩
    · congr 1; rw [Bool.eq_iff_iff, beq_iff_eq, decide_eq_true_eq]; exact ⟨fun h => ⟨c1, c2, c3, c4.1, c4.2, c5, rfl, h⟩, fun h => h.2.2.2.2.2.2.2⟩
    · rw [decide_eq_false fun h => c5 h.2.2.2.2.2.1]
    · rw [decide_eq_false fun h => c4 ⟨h.2.2.2.1, h.2.2.2.2.1⟩]
    · rw [decide_eq_false fun h => c3 h.2.2.1]
    · rw [decide_eq_false fun h => c2 h.2.1]
    · rw [decide_eq_false fun h => c1 h.1]
  · have h := of_decide_eq_false h
    exact ⟨by rw [decide_eq_false fun q => h q.2.2.2.2.2.2.1], X⟩
end
open W (OwnB GivesW numR countR doneR zig unzig intR)
def Q0h.M (af av b3 b6 b7 ao : Int) (au : Option Addr) (aq ar : Nat) (b8 al am ap b2 b5 an : Int) (ak : Option Addr) (ag ai : Nat) (b4 : Int) (R : RW) (w : World) : Prop :=
 thenW (w.alloc (.cells #[.int .i64 af, .int .i64 av, .int .u64 b3, .int .i64 b6, .int .i64 b7, .int .i64 ao, .slice au aq ar, .int .u64 b8] 36)) fun a3 =>
 thenW (a3.alloc (.cells #[.int .i64 al, .int .i64 am, .int .u64 ap, .int .i64 b2, .int .i64 b5, .int .i64 an, .slice ak ag ai, .int .u64 b4] 36)) fun a0 =>
 ∃ (a1 : Int), a0.cell? ((blk w.heap.size).add 0) = some (.int .i64 a1) ∧
 ∃ (a2 : Int), a0.cell? ((blk a3.heap.size).add 0) = some (.int .i64 a2) ∧
 bif a1 == a2 then (
 ∃ (ac : Int), a0.cell? ((blk w.heap.size).add 1) = some (.int .i64 ac) ∧
 ∃ (a6 : Int), a0.cell? ((blk a3.heap.size).add 1) = some (.int .i64 a6) ∧
 bif ac == a6 then (
 ∃ (aj : Int), a0.cell? ((blk w.heap.size).add 2) = some (.int .u64 aj) ∧
 ∃ (ae : Int), a0.cell? ((blk a3.heap.size).add 2) = some (.int .u64 ae) ∧
 bif aj == ae then (
 ∃ (aw b0 : Int), cellsAt a0 ((blk w.heap.size).add 3) [.int .i64 aw, .int .i64 b0] 0 ∧
 ∃ (ay b1 : Int), cellsAt a0 ((blk a3.heap.size).add 3) [.int .i64 ay, .int .i64 b1] 0 ∧
 ∃ (bb : Bool), (binOp .eql 33 (.agg #[.int .i64 aw, .int .i64 b0]) (.agg #[.int .i64 ay, .int .i64 b1])).run Try.prog a0 = .ok (.bool bb) a0 ∧
 bif bb then (
 ∃ (ad : Int), a0.cell? ((blk w.heap.size).add 5) = some (.int .i64 ad) ∧
 ∃ (a9 : Int), a0.cell? ((blk a3.heap.size).add 5) = some (.int .i64 a9) ∧
 bif ad == a9 then (
 ∃ (ax : Int), a0.cell? ((blk w.heap.size).add 7) = some (.int .u64 ax) ∧
 ∃ (az : Int), a0.cell? ((blk a3.heap.size).add 7) = some (.int .u64 az) ∧
 bif ax == az then (
 ∃ (aa : Option Addr) (ab a8 : Nat), a0.cell? ((blk w.heap.size).add 6) = some (.slice aa ab a8) ∧
 ∃ (a7 : Option Addr) (a4 a5 : Nat), a0.cell? ((blk a3.heap.size).add 6) = some (.slice a7 a4 a5) ∧
 Calls Try.prog 40 #[.slice aa ab a8, .slice a7 a4 a5] a0 fun ba b9 => ∃ (ah : Bool), ba = .returned (.bool ah) ∧
 R (.bool ah) b9) else (
 R (.bool false) a0)) else (
 R (.bool false) a0)) else (
 R (.bool false) a0)) else (
 R (.bool false) a0)) else (
 R (.bool false) a0)) else (
 R (.bool false) a0)

theorem Q0h.ok (a0 ac ae ah ai a7 : Int) (ab : Option Addr) (a9 aa : Nat) (aj a4 a5 a8 ad ag a6 : Int) (a3 : Option Addr) (a1 a2 : Nat) (af : Int) {R : RW} {w : World} (h : Q0h.M a0 ac ae ah ai a7 ab a9 aa aj a4 a5 a8 ad ag a6 a3 a1 a2 af R w) : Calls Try.prog 30 #[.agg #[.int .i64 a0, .int .i64 ac, .int .u64 ae, .int .i64 ah, .int .i64 ai, .int .i64 a7, .slice ab a9 aa, .int .u64 aj], .agg #[.int .i64 a4, .int .i64 a5, .int .u64 a8, .int .i64 ad, .int .i64 ag, .int .i64 a6, .slice a3 a1 a2, .int .u64 af]] w fun e w' => ∃ v, e = .returned v ∧ R v w' :=
  Q0m follows (H := []) (args := [.agg #[.int .i64 a0, .int .i64 ac, .int .u64 ae, .int .i64 ah, .int .i64 ai, .int .i64 a7, .slice ab a9 aa, .int .u64 aj], .agg #[.int .i64 a4, .int .i64 a5, .int .u64 a8, .int .i64 ad, .int .i64 ag, .int .i64 a6, .slice a3 a1 a2, .int .u64 af]]) (cast (by kernel_rfl) h)

def Q0h.N (a1 a7 a9 aj ak a5 : Int) (ai : Option Addr) (ag ah : Nat) (al a2 a3 a6 a8 ae a4 : Int) (ad : Option Addr) (aa ac : Nat) (ab : Int) (R : RW) (w : World) : Prop :=
 (a1 = a2 →
 (a7 = a3 →
 (a9 = a6 →
 (aj = a8 ∧ ak = ae →
 (a5 = a4 →
 (al = ab →
 ∀ (a0 : World), Ext no w a0 →
 Calls Try.prog 40 #[.slice ai ag ah, .slice ad aa ac] a0 fun an am => ∃ (af : Bool), an = .returned (.bool af) ∧
 R (.bool af) am) ∧
 (al ≠ ab →
 ∀ (a0 : World), Ext no w a0 →
 R (.bool false) a0)) ∧
 (a5 ≠ a4 →
 ∀ (a0 : World), Ext no w a0 →
 R (.bool false) a0)) ∧
 (¬ (aj = a8 ∧ ak = ae) →
 ∀ (a0 : World), Ext no w a0 →
 R (.bool false) a0)) ∧
 (a9 ≠ a6 →
 ∀ (a0 : World), Ext no w a0 →
 R (.bool false) a0)) ∧
 (a7 ≠ a3 →
 ∀ (a0 : World), Ext no w a0 →
 R (.bool false) a0)) ∧
 (a1 ≠ a2 →
 ∀ (a0 : World), Ext no w a0 →
 R (.bool false) a0)

theorem Q0h.up (a0 ae af aj ak a7 : Int) (ac : Option Addr) (aa ab : Nat) (al a4 a5 a9 a8 ad a6 : Int) (a3 : Option Addr) (a1 a2 : Nat) (ah : Int) {R : RW} {w : World} (h : Q0h.N a0 ae af aj ak a7 ac aa ab al a4 a5 a9 a8 ad a6 a3 a1 a2 ah R w) : Q0h.M a0 ae af aj ak a7 ac aa ab al a4 a5 a9 a8 ad a6 a3 a1 a2 ah R w := by
  unfold Q0h.M
  unfold Q0h.N at h
  refine Q01 fun b2 b0 => ?_
  have am := Blk.of_new b0
  have b5 := ((Ext.refl no w)).size
  have ap := (Ext.refl no w).x_alloc b0
  refine Q01 fun ai ay => ?_
  have an := Blk.of_new ay
  have b4 := (ap).size
  have az := Nat.ne_of_lt am.lt
  have am := am.x_alloc ay
  have ag := ap.x_alloc ay
  refine ⟨a0, am.celli 0 rfl rfl, ?_⟩
  refine ⟨a4, an.celli 0 rfl rfl, ?_⟩
  refine bif_fo (fun aq => ?_) (fun aq => ?_)
  ·have h := h.2 (beq_f aq)
   have h := h ai ag
   exact h
  have h := h.1 (beq_t aq)
  refine ⟨ae, am.celli 1 rfl rfl, ?_⟩
  refine ⟨a5, an.celli 1 rfl rfl, ?_⟩
  refine bif_fo (fun au => ?_) (fun au => ?_)
  ·have h := h.2 (beq_f au)
   have h := h ai ag
   exact h
  have h := h.1 (beq_t au)
  refine ⟨af, am.celli 2 rfl rfl, ?_⟩
  refine ⟨a9, an.celli 2 rfl rfl, ?_⟩
  refine bif_fo (fun ax => ?_) (fun ax => ?_)
  ·have h := h.2 (beq_f ax)
   have h := h ai ag
   exact h
  have h := h.1 (beq_t ax)
  refine ⟨aj, ak, ⟨am.celli 3 rfl rfl, am.celli 4 rfl rfl, trivial⟩, ?_⟩
  refine ⟨a8, ad, ⟨an.celli 3 rfl rfl, an.celli 4 rfl rfl, trivial⟩, ?_⟩
  refine ⟨_, Q3t aj ak a8 ad _, ?_⟩
  refine bif_fo (fun ar => ?_) (fun ar => ?_)
  ·have h := h.2 (of_decide_eq_false ar)
   have h := h ai ag
   exact h
  have h := h.1 (of_decide_eq_true ar)
  refine ⟨a7, am.celli 5 rfl rfl, ?_⟩
  refine ⟨a6, an.celli 5 rfl rfl, ?_⟩
  refine bif_fo (fun aw => ?_) (fun aw => ?_)
  ·have h := h.2 (beq_f aw)
   have h := h ai ag
   exact h
  have h := h.1 (beq_t aw)
  refine ⟨al, am.celli 7 rfl rfl, ?_⟩
  refine ⟨ah, an.celli 7 rfl rfl, ?_⟩
  refine bif_fo (fun av => ?_) (fun av => ?_)
  ·have h := h.2 (beq_f av)
   have h := h ai ag
   exact h
  have h := h.1 (beq_t av)
  refine ⟨ac, aa, ab, am.celli 6 rfl rfl, ?_⟩
  refine ⟨a3, a1, a2, an.celli 6 rfl rfl, ?_⟩
  have h := h ai ag
  refine h.mono fun b3 b1 h => ?_
  obtain ⟨ao, he, h⟩ := h
  refine ⟨ao, he, ?_⟩
  exact h

theorem Q0h.go (a0 ac ae ah ai a7 : Int) (ab : Option Addr) (a9 aa : Nat) (aj a4 a5 a8 ad ag a6 : Int) (a3 : Option Addr) (a1 a2 : Nat) (af : Int) {R : RW} {w : World} (h : Q0h.N a0 ac ae ah ai a7 ab a9 aa aj a4 a5 a8 ad ag a6 a3 a1 a2 af R w) : Calls Try.prog 30 #[.agg #[.int .i64 a0, .int .i64 ac, .int .u64 ae, .int .i64 ah, .int .i64 ai, .int .i64 a7, .slice ab a9 aa, .int .u64 aj], .agg #[.int .i64 a4, .int .i64 a5, .int .u64 a8, .int .i64 ad, .int .i64 ag, .int .i64 a6, .slice a3 a1 a2, .int .u64 af]] w fun e w' => ∃ v, e = .returned v ∧ R v w' := Q0h.ok a0 ac ae ah ai a7 ab a9 aa aj a4 a5 a8 ad ag a6 a3 a1 a2 af (Q0h.up a0 ac ae ah ai a7 ab a9 aa aj a4 a5 a8 ad ag a6 a3 a1 a2 af h)
theorem Q0h.run (a0 ac ae ah ai a7 : Int) (ab : Option Addr) (a9 aa : Nat) (aj a4 a5 a8 ad ag a6 : Int) (a3 : Option Addr) (a1 a2 : Nat) (af : Int) {V : Value} {Q : World → Prop} {w : World} (h : Q0h.N a0 ac ae ah ai a7 ab a9 aa aj a4 a5 a8 ad ag a6 a3 a1 a2 af (fun v w' => v = V ∧ Q w') w) : Calls Try.prog 30 #[.agg #[.int .i64 a0, .int .i64 ac, .int .u64 ae, .int .i64 ah, .int .i64 ai, .int .i64 a7, .slice ab a9 aa, .int .u64 aj], .agg #[.int .i64 a4, .int .i64 a5, .int .u64 a8, .int .i64 ad, .int .i64 ag, .int .i64 a6, .slice a3 a1 a2, .int .u64 af]] w (Ret V Q) := (Q0h.go a0 ac ae ah ai a7 ab a9 aa aj a4 a5 a8 ad ag a6 a3 a1 a2 af h).mono fun e w' ⟨v, he, hv, hq⟩ => ⟨by rw [he, hv], hq⟩

section
variable {w w' : World} {a : Option Addr} {c N p : Nat} {bs : List UInt8} {k : Int}
theorem Q28 {e f : Ent} {b : Option Addr} {d : Nat} (ha : RowAt w a (bytesV e.body)) (hb : RowAt w b (bytesV f.body)) (hl : e.body.length < 1000000) :
    Calls Try.prog 30 #[entV e a c, entV f b d] w (Ret (.bool (decide (e = f))) fun w' => Ext no w w') := by
  refine Q0h.run _ _ _ _ _ _ _ _ _ _ _ _ _ _ _ _ _ _ _ _ ?_
  unfold Q0h.N
  obtain ⟨e1, e2, e3, e4, e5, e6, e7, e8⟩ := e
  obtain ⟨f1, f2, f3, f4, f5, f6, f7, f8⟩ := f
  simp only [Ent.mk.injEq]
  refine ⟨fun c1 => ⟨fun c2 => ⟨fun c3 => ⟨fun c4 => ⟨fun c5 => ⟨fun c6 w18 X => ?_, fun c6 w18 X => ⟨?_, X⟩⟩, fun c5 w18 X => ⟨?_, X⟩⟩, fun c4 w18 X => ⟨?_, X⟩⟩, fun c3 w18 X => ⟨?_, X⟩⟩, fun c2 w18 X => ⟨?_, X⟩⟩, fun c1 w18 X => ⟨?_, X⟩⟩
  · refine (W.sameB_spec (ha.no X) (hb.no X) hl).mono fun x w31 ⟨he, X31⟩ => ⟨_, he, ?_, X.trans X31⟩
    congr 1; rw [Bool.eq_iff_iff, decide_eq_true_eq, decide_eq_true_eq]; exact ⟨fun h => ⟨c1, c2, c3, c4.1, c4.2, c5, h, c6⟩, fun h => h.2.2.2.2.2.2.1⟩
  · rw [decide_eq_false fun h => c6 h.2.2.2.2.2.2.2]
  · rw [decide_eq_false fun h => c5 h.2.2.2.2.2.1]
  · rw [decide_eq_false fun h => c4 ⟨h.2.2.2.1, h.2.2.2.2.1⟩]
  · rw [decide_eq_false fun h => c3 h.2.2.1]
  · rw [decide_eq_false fun h => c2 h.2.1]
  · rw [decide_eq_false fun h => c1 h.1]
end
structure Ent.wide (e : Ent) : Prop where
  w : -9223372036854775808 ≤ e.w ∧ e.w < 9223372036854775808
  i : -9223372036854775808 ≤ e.i ∧ e.i < 9223372036854775808
  t : -9223372036854775808 ≤ e.t ∧ e.t < 9223372036854775808
  tw : -9223372036854775808 ≤ e.tw ∧ e.tw < 9223372036854775808
  ep : -9223372036854775808 ≤ e.ep ∧ e.ep < 9223372036854775808
def EntQ (W : World) (cs : List Value) : Prop := ∃ (e : Ent) (a : Option Addr) (c : Nat), cs = entC e a c ∧ e.fit ∧ e.wide ∧ e.body.length ≤ c ∧ c ≤ maxLen ∧ RowAt W a (bytesV e.body)
theorem list8 {α : Type} : ∀ {l : List α}, l.length = 8 → ∃ a b c d e f g h, l = [a, b, c, d, e, f, g, h]
  | [a, b, c, d, e, f, g, h], _ => ⟨a, b, c, d, e, f, g, h, rfl⟩
theorem Q2D : Try.prog.cellsOf 36 = 8 := by kernel_rfl
theorem Q18 : Try.prog.cellsOf 33 = 2 := by kernel_rfl
theorem Q2h : Opens Try.prog 36 EntQ := (Q1d Try.underlying36 Q2D).mono fun W cs ⟨hl, hf⟩ => by
  obtain ⟨c0, c1, c2, c3, c4, c5, c6, c7, rfl⟩ := list8 hl
  have e0 : ∃ n, (([c0, c1, c2, c3, c4, c5, c6, c7] : List Value).drop 0).take (Try.prog.cellsOf 3) = [.int .i64 n] ∧ _ := hf 0 _ rfl _ (Q0I Try.underlying3)
  have e1 : ∃ n, (([c0, c1, c2, c3, c4, c5, c6, c7] : List Value).drop 1).take (Try.prog.cellsOf 3) = [.int .i64 n] ∧ _ := hf 1 _ rfl _ (Q0I Try.underlying3)
  have e2 : ∃ n, (([c0, c1, c2, c3, c4, c5, c6, c7] : List Value).drop 2).take (Try.prog.cellsOf 27) = [.int .u64 n] ∧ _ := hf 2 _ rfl _ (Q0I Try.underlying27)
  have e3 := hf 3 _ rfl _ (Q1d Try.underlying33 Q18)
  change (((([c0, c1, c2, c3, c4, c5, c6, c7] : List Value).drop 3).take (Try.prog.cellsOf 33)).length = 2 ∧ _) at e3
  have e4 : ∃ n, (([c0, c1, c2, c3, c4, c5, c6, c7] : List Value).drop 5).take (Try.prog.cellsOf 3) = [.int .i64 n] ∧ _ := hf 4 _ rfl _ (Q0I Try.underlying3)
  have e5 : BytesQ W ((([c0, c1, c2, c3, c4, c5, c6, c7] : List Value).drop 6).take (Try.prog.cellsOf 34)) := hf 5 _ rfl _ (Q3i Try.underlying34 (by kernel_rfl) Try.underlying5)
  have e6 : ∃ n, (([c0, c1, c2, c3, c4, c5, c6, c7] : List Value).drop 7).take (Try.prog.cellsOf 27) = [.int .u64 n] ∧ _ := hf 6 _ rfl _ (Q0I Try.underlying27)
  have o1 : Try.prog.cellsOf 3 = 1 := by kernel_rfl
  have o2 : Try.prog.cellsOf 27 = 1 := by kernel_rfl
  have o3 : Try.prog.cellsOf 34 = 1 := by kernel_rfl
  have o4 : Try.prog.cellsOf 2 = 1 := by kernel_rfl
  simp only [o1, o2, o3, Q18, List.drop_zero, List.drop_succ_cons, List.take_succ_cons, List.take_zero] at e0 e1 e2 e4 e5 e6
  obtain ⟨_, hs⟩ := e3
  have s0 : ∃ n, ((((([c0, c1, c2, c3, c4, c5, c6, c7] : List Value).drop 3).take (Try.prog.cellsOf 33)).drop 0).take (Try.prog.cellsOf 2)) = [.int .i64 n] ∧ _ := hs 0 _ rfl _ (Q0I Try.underlying2)
  have s1 : ∃ n, ((((([c0, c1, c2, c3, c4, c5, c6, c7] : List Value).drop 3).take (Try.prog.cellsOf 33)).drop 1).take (Try.prog.cellsOf 3)) = [.int .i64 n] ∧ _ := hs 1 _ rfl _ (Q0I Try.underlying3)
  simp only [o1, o4, Q18, List.drop_zero, List.drop_succ_cons, List.take_succ_cons, List.take_zero] at s0 s1
  obtain ⟨n0, q0, w0⟩ := e0
  obtain ⟨n1, q1, w1⟩ := e1
  obtain ⟨n2, q2, w2⟩ := e2
  obtain ⟨n3, q3, w3⟩ := s0
  obtain ⟨n4, q4, w4⟩ := s1
  obtain ⟨n5, q5, w5⟩ := e4
  obtain ⟨a, c, bs, q6, l1, l2, r⟩ := e5
  obtain ⟨n7, q7, w7⟩ := e6
  simp only [List.cons.injEq, and_true] at q0 q1 q2 q3 q4 q5 q6 q7
  subst q0; subst q1; subst q2; subst q3; subst q4; subst q5; subst q6; subst q7
  exact ⟨⟨n0, n1, n2, n3, n4, n5, bs, n7⟩, a, c, rfl, ⟨(wf_u64 w2).1, (wf_u64 w2).2, (wf_u64 w7).1, (wf_u64 w7).2⟩, ⟨wf_i64 w0, wf_i64 w1, wf_i64 w3, wf_i64 w4, wf_i64 w5⟩, l1, l2, r⟩
open W (OwnB GivesW numR countR doneR zig unzig intR)
def textK (e : Ent) : List UInt8 × Int := if Q0o e = true then (textL e, 0) else ([], 1)
def Tup (w : World) (k : List UInt8 × Int) (x : Ending) (w' : World) : Prop := ∃ a' c', x = .returned (.tuple #[.slice a' k.1.length c', .int .i64 k.2]) ∧ OwnB w.heap.size w' a' c' k.1 ∧ Ext no w w'
section
variable {w w' : World} {a : Option Addr} {c N p : Nat} {bs : List UInt8} {k : Int}
theorem Q2z {e : Ent} (hf : Q0o e = true → e.fit) {ba : Option Addr} {bc : Nat} (hb : RowAt w ba (bytesV e.body)) : Calls Try.prog 19 #[entV e ba bc] w (Tup w (textK e)) :=
  (Q3T hf hb).mono fun x w' ⟨X, h⟩ => by
    unfold textK
    rcases h with ⟨h, he⟩ | ⟨h, a', c', he, hO⟩
    · rw [if_neg (by simp [h])]; exact ⟨none, 0, he, OwnB.nil _ _, X⟩
    · rw [if_pos h]; exact ⟨a', c', he, hO, X⟩
end
open W (OwnB GivesW numR countR doneR zig unzig intR)
abbrev Q0s.J1 (j8 : Option Addr) (j9 a6 : Nat) (R : RW) (a1 : World) : Prop :=
 thenW (a1.alloc (.cells #[] 5)) fun a5 =>
 ∃ (a4 : Option Addr) (a2 a3 : Nat) (a0 : World), (Builtin.append_ #[34, 34] 34 #[.slice (some (blk a1.heap.size)) 0 0, .slice j8 j9 a6]).run Try.prog a5 = .ok (.slice a4 a2 a3) a0 ∧
 R (.slice a4 a2 a3) a0

def Q0s.M (a0 : Option Addr) (a1 a2 : Nat) (R : RW) (w : World) : Prop :=
 bif Option.isNone a0 then (
 R (.slice none 0 0) w) else (
 Q0s.J1 a0 a1 a2 R w)

theorem Q0s.ok (a0 : Option Addr) (a1 a2 : Nat) {R : RW} {w : World} (h : Q0s.M a0 a1 a2 R w) : Calls Try.prog 21 #[.slice a0 a1 a2] w fun e w' => ∃ v, e = .returned v ∧ R v w' :=
  Q0m follows (H := []) (args := [.slice a0 a1 a2]) (cast (by kernel_rfl) h)

def Q0s.N (a1 : Option Addr) (a6 a7 : Nat) (R : RW) (w : World) : Prop :=
 (a1 = none →
 R (.slice none 0 0) w) ∧
 (a1 ≠ none →
 ∀ (a0 : World) (q4 : Nat), Ext no w a0 → Blk a0 q4 5 [] → w.heap.size ≤ q4 → q4 < a0.heap.size →
 ∃ (a2 : Option Addr) (a5 a4 : Nat) (a3 : World), (Builtin.append_ #[34, 34] 34 #[.slice (some (blk q4)) 0 0, .slice a1 a6 a7]).run Try.prog a0 = .ok (.slice a2 a5 a4) a3 ∧
 R (.slice a2 a5 a4) a3)

theorem Q0s.up (a0 : Option Addr) (a1 a2 : Nat) {R : RW} {w : World} (h : Q0s.N a0 a1 a2 R w) : Q0s.M a0 a1 a2 R w := by
  unfold Q0s.M
  unfold Q0s.N at h
  refine bif_of (fun c2 => ?_) (fun c2 => ?_)
  ·have h := h.1 (Q1j c2)
   exact h
  have h := h.2 (Q1i c2)
  unfold Q0s.J1
  refine Q01 fun a5 e3 => ?_
  have h := h a5 w.heap.size ((Ext.refl no w).x_alloc e3) (Blk.of_new e3) ((Ext.refl no w)).size (Q0C e3)
  obtain ⟨a4, a3, a6, a7, hr, h⟩ := h
  refine ⟨a4, a3, a6, a7, hr, ?_⟩
  exact h

theorem Q0s.go (a0 : Option Addr) (a1 a2 : Nat) {R : RW} {w : World} (h : Q0s.N a0 a1 a2 R w) : Calls Try.prog 21 #[.slice a0 a1 a2] w fun e w' => ∃ v, e = .returned v ∧ R v w' := Q0s.ok a0 a1 a2 (Q0s.up a0 a1 a2 h)
abbrev Q0q.J1 (a0 au : Addr) (R : RW) (b1 : World) : Prop :=
 ∃ (an : Option Addr) (al ak : Nat), b1.cell? (au.add 6) = some (.slice an al ak) ∧
 Calls Try.prog 21 #[.slice an al ak] b1 fun b5 av => ∃ (ag : Option Addr) (ai af : Nat), b5 = .returned (.slice ag ai af) ∧
 Q06 av ((au.add 6).add 0) ∧
 thenW (av.setCell ((au.add 6).add 0) (.slice ag ai af)) fun ar =>
 ∃ (a7 ah am ap aq ae : Int) (ac : Option Addr) (aj a9 : Nat) (ao : Int), cellsAt ar au [.int .i64 a7, .int .i64 ah, .int .u64 am, .int .i64 ap, .int .i64 aq, .int .i64 ae, .slice ac aj a9, .int .u64 ao] 0 ∧
 Q06 ar (a0.add 0) ∧
 thenW (ar.setCell (a0.add 0) (.int .i64 a7)) fun b4 =>
 Q06 b4 (a0.add 1) ∧
 thenW (b4.setCell (a0.add 1) (.int .i64 ah)) fun b2 =>
 Q06 b2 (a0.add 2) ∧
 thenW (b2.setCell (a0.add 2) (.int .u64 am)) fun b3 =>
 Q06 b3 (a0.add 3) ∧
 thenW (b3.setCell (a0.add 3) (.int .i64 ap)) fun aw =>
 Q06 aw (a0.add 4) ∧
 thenW (aw.setCell (a0.add 4) (.int .i64 aq)) fun ax =>
 Q06 ax (a0.add 5) ∧
 thenW (ax.setCell (a0.add 5) (.int .i64 ae)) fun ay =>
 Q06 ay (a0.add 6) ∧
 thenW (ay.setCell (a0.add 6) (.slice ac aj a9)) fun az =>
 Q06 az (a0.add 7) ∧
 thenW (az.setCell (a0.add 7) (.int .u64 ao)) fun b0 =>
 ∃ (a1 a5 a8 ad aa a4 : Int) (a3 : Option Addr) (a6 a2 : Nat) (ab : Int), cellsAt b0 a0 [.int .i64 a1, .int .i64 a5, .int .u64 a8, .int .i64 ad, .int .i64 aa, .int .i64 a4, .slice a3 a6 a2, .int .u64 ab] 0 ∧
 R (.tuple #[.agg #[.int .i64 a1, .int .i64 a5, .int .u64 a8, .int .i64 ad, .int .i64 aa, .int .i64 a4, .slice a3 a6 a2, .int .u64 ab], .int .i64 0]) b0

abbrev Q0q.J2 (aq : Option Addr) (av aw : Nat) (aa ap : Addr) (ar : Option Addr) (au : Int) (R : RW) (an : World) : Prop :=
 Calls Try.prog 20 #[.pointer ar, .int .u64 au, .slice aq av aw] an fun ao af => ∃ (ac ab : Int), ao = .returned (.tuple #[.int .u64 ac, .int .i64 ab]) ∧
 Q06 af ((ap.add 7).add 0) ∧
 thenW (af.setCell ((ap.add 7).add 0) (.int .u64 ac)) fun ad =>
 bif ab != 0 then (
 Q06 ad (aa.add 0) ∧
 thenW (ad.setCell (aa.add 0) (.int .i64 0)) fun ai =>
 Q06 ai (aa.add 1) ∧
 thenW (ai.setCell (aa.add 1) (.int .i64 0)) fun am =>
 Q06 am (aa.add 2) ∧
 thenW (am.setCell (aa.add 2) (.int .u64 0)) fun al =>
 Q06 al (aa.add 3) ∧
 thenW (al.setCell (aa.add 3) (.int .i64 0)) fun aj =>
 Q06 aj (aa.add 4) ∧
 thenW (aj.setCell (aa.add 4) (.int .i64 0)) fun ae =>
 Q06 ae (aa.add 5) ∧
 thenW (ae.setCell (aa.add 5) (.int .i64 0)) fun ah =>
 Q06 ah (aa.add 6) ∧
 thenW (ah.setCell (aa.add 6) (.slice none 0 0)) fun ak =>
 Q06 ak (aa.add 7) ∧
 thenW (ak.setCell (aa.add 7) (.int .u64 0)) fun ag =>
 ∃ (a1 a6 a5 a7 a9 a0 : Int) (a2 : Option Addr) (a3 a4 : Nat) (a8 : Int), cellsAt ag aa [.int .i64 a1, .int .i64 a6, .int .u64 a5, .int .i64 a7, .int .i64 a9, .int .i64 a0, .slice a2 a3 a4, .int .u64 a8] 0 ∧
 R (.tuple #[.agg #[.int .i64 a1, .int .i64 a6, .int .u64 a5, .int .i64 a7, .int .i64 a9, .int .i64 a0, .slice a2 a3 a4, .int .u64 a8], .int .i64 ab]) ag) else (
 Q0q.J1 aa ap R ad)

def Q0q.M (o1 : Option Addr) (aq ap av ay b7 b5 ar : Int) (aw : Option Addr) (ax au : Nat) (b0 : Int) (R : RW) (w : World) : Prop :=
 thenW (w.alloc (.cells #[.int .i64 ap, .int .i64 av, .int .u64 ay, .int .i64 b7, .int .i64 b5, .int .i64 ar, .slice aw ax au, .int .u64 b0] 36)) fun a0 =>
 thenW (a0.alloc (.cells #[.int .i64 0, .int .i64 0, .int .u64 0, .int .i64 0, .int .i64 0, .int .i64 0, .slice none 0 0, .int .u64 0] 36)) fun b2 =>
 ∃ (a8 ae ak ao am a9 : Int) (aa : Option Addr) (ac ad : Nat) (an : Int), cellsAt b2 (blk w.heap.size) [.int .i64 a8, .int .i64 ae, .int .u64 ak, .int .i64 ao, .int .i64 am, .int .i64 a9, .slice aa ac ad, .int .u64 an] 0 ∧
 Calls Try.prog 19 #[.agg #[.int .i64 a8, .int .i64 ae, .int .u64 ak, .int .i64 ao, .int .i64 am, .int .i64 a9, .slice aa ac ad, .int .u64 an]] b2 fun bc az => ∃ (ai : Option Addr) (al aj : Nat) (ah : Int), bc = .returned (.tuple #[.slice ai al aj, .int .i64 ah]) ∧
 bif ah != 0 then (
 Q06 az ((blk a0.heap.size).add 0) ∧
 thenW (az.setCell ((blk a0.heap.size).add 0) (.int .i64 0)) fun ba =>
 Q06 ba ((blk a0.heap.size).add 1) ∧
 thenW (ba.setCell ((blk a0.heap.size).add 1) (.int .i64 0)) fun b9 =>
 Q06 b9 ((blk a0.heap.size).add 2) ∧
 thenW (b9.setCell ((blk a0.heap.size).add 2) (.int .u64 0)) fun b6 =>
 Q06 b6 ((blk a0.heap.size).add 3) ∧
 thenW (b6.setCell ((blk a0.heap.size).add 3) (.int .i64 0)) fun b4 =>
 Q06 b4 ((blk a0.heap.size).add 4) ∧
 thenW (b4.setCell ((blk a0.heap.size).add 4) (.int .i64 0)) fun b8 =>
 Q06 b8 ((blk a0.heap.size).add 5) ∧
 thenW (b8.setCell ((blk a0.heap.size).add 5) (.int .i64 0)) fun b1 =>
 Q06 b1 ((blk a0.heap.size).add 6) ∧
 thenW (b1.setCell ((blk a0.heap.size).add 6) (.slice none 0 0)) fun b3 =>
 Q06 b3 ((blk a0.heap.size).add 7) ∧
 thenW (b3.setCell ((blk a0.heap.size).add 7) (.int .u64 0)) fun bb =>
 ∃ (a1 a2 a7 af ag a4 : Int) (a3 : Option Addr) (a6 a5 : Nat) (ab : Int), cellsAt bb (blk a0.heap.size) [.int .i64 a1, .int .i64 a2, .int .u64 a7, .int .i64 af, .int .i64 ag, .int .i64 a4, .slice a3 a6 a5, .int .u64 ab] 0 ∧
 R (.tuple #[.agg #[.int .i64 a1, .int .i64 a2, .int .u64 a7, .int .i64 af, .int .i64 ag, .int .i64 a4, .slice a3 a6 a5, .int .u64 ab], .int .i64 ah]) bb) else (
 Q0q.J2 ai al aj (blk a0.heap.size) (blk w.heap.size) o1 aq R az)

theorem Q0q.ok (o1 : Option Addr) (a1 a0 a4 a7 a9 aa a2 : Int) (a5 : Option Addr) (a6 a3 : Nat) (a8 : Int) {R : RW} {w : World} (h : Q0q.M o1 a1 a0 a4 a7 a9 aa a2 a5 a6 a3 a8 R w) : Calls Try.prog 9 #[.pointer o1, .int .u64 a1, .agg #[.int .i64 a0, .int .i64 a4, .int .u64 a7, .int .i64 a9, .int .i64 aa, .int .i64 a2, .slice a5 a6 a3, .int .u64 a8]] w fun e w' => ∃ v, e = .returned v ∧ R v w' :=
  Q0m follows (H := []) (args := [.pointer o1, .int .u64 a1, .agg #[.int .i64 a0, .int .i64 a4, .int .u64 a7, .int .i64 a9, .int .i64 aa, .int .i64 a2, .slice a5 a6 a3, .int .u64 a8]]) (cast (by kernel_rfl) h)

def Q0q.N (o1 : Option Addr) (ah a2 a9 af ak aj a7 : Int) (ab : Option Addr) (ac a8 : Nat) (an : Int) (R : RW) (w : World) : Prop :=
 ∀ (ag : World) (ao al : Nat), Ext no w ag → Priv w ag [ao, al] →
 Calls Try.prog 19 #[.agg #[.int .i64 a2, .int .i64 a9, .int .u64 af, .int .i64 ak, .int .i64 aj, .int .i64 a7, .slice ab ac a8, .int .u64 an]] ag fun ay ai => ∃ (a6 : Option Addr) (aa ad : Nat) (a0 : Int), ay = .returned (.tuple #[.slice a6 aa ad, .int .i64 a0]) ∧
 Keep [ao, al] ag ai ∧
 (a0 ≠ 0 →
 ∀ (aq : World), Ext (fun b => b = al) ai aq →
 R (.tuple #[.agg #[.int .i64 0, .int .i64 0, .int .u64 0, .int .i64 0, .int .i64 0, .int .i64 0, .slice none 0 0, .int .u64 0], .int .i64 a0]) aq) ∧
 (a0 = 0 →
 Calls Try.prog 20 #[.pointer o1, .int .u64 ah, .slice a6 aa ad] ai fun aw am => ∃ (ae a1 : Int), aw = .returned (.tuple #[.int .u64 ae, .int .i64 a1]) ∧
 Keep [ao, al] ai am ∧
 (a1 ≠ 0 →
 ∀ (au : World), Ext (fun b => b = al ∨ b = ao) am au →
 R (.tuple #[.agg #[.int .i64 0, .int .i64 0, .int .u64 0, .int .i64 0, .int .i64 0, .int .i64 0, .slice none 0 0, .int .u64 0], .int .i64 a1]) au) ∧
 (a1 = 0 →
 ∀ (ap : World), Ext (fun b => b = ao) am ap →
 Calls Try.prog 21 #[.slice ab ac a8] ap fun ax ar => ∃ (a3 : Option Addr) (a4 a5 : Nat), ax = .returned (.slice a3 a4 a5) ∧
 Keep [ao, al] ap ar ∧
 ∀ (av : World), Ext (fun b => b = al ∨ b = ao) ar av →
 R (.tuple #[.agg #[.int .i64 a2, .int .i64 a9, .int .u64 af, .int .i64 ak, .int .i64 aj, .int .i64 a7, .slice a3 a4 a5, .int .u64 ae], .int .i64 0]) av))

theorem Q0q.up (o1 : Option Addr) (ah a2 a3 a4 a9 aa a5 : Int) (ae : Option Addr) (ac ad : Nat) (ag : Int) {R : RW} {w : World} (h : Q0q.N o1 ah a2 a3 a4 a9 aa a5 ae ac ad ag R w) : Q0q.M o1 ah a2 a3 a4 a9 aa a5 ae ac ad ag R w := by
  unfold Q0q.M
  unfold Q0q.N at h
  refine Q01 fun a1 d2 => ?_
  have ab := Blk.of_new d2
  have dg := ((Ext.refl no w)).size
  have aw := (Ext.refl no w).x_alloc d2
  refine Q01 fun c8 bw => ?_
  have a0 := Blk.of_new bw
  have dc := (aw).size
  have an := Nat.ne_of_lt ab.lt
  have ab := ab.x_alloc bw
  have c1 := aw.x_alloc bw
  refine ⟨a2, a3, a4, a9, aa, a5, ae, ac, ad, ag, ⟨ab.celli 0 rfl rfl, ab.celli 1 rfl rfl, ab.celli 2 rfl rfl, ab.celli 3 rfl rfl, ab.celli 4 rfl rfl, ab.celli 5 rfl rfl, ab.celli 6 rfl rfl, ab.celli 7 rfl rfl, trivial⟩, ?_⟩
  have h := h c8 (w.heap.size) (a1.heap.size) c1 (Priv.cons dg ab.lt (Priv.cons dc a0.lt Priv.nil))
  refine h.mono fun df ap h => ?_
  obtain ⟨ai, ak, al, ar, he, hk, h⟩ := h
  refine ⟨ai, ak, al, ar, he, ?_⟩
  have ab := hk.blk ab (by simp)
  have a0 := hk.blk a0 (by simp)
  refine bif_of (fun bj => ?_) (fun bj => ?_)
  ·have h := h.1 (bne_t bj)
   have cd : Ext (fun b => b = a1.heap.size) ap ap := ((Ext.refl no ap)).none
   refine ⟨a0.cani 0 rfl rfl, Q01 fun b3 d9 => ?_⟩
   have c2 := cd.x_set (q := a1.heap.size) (i := 0) rfl (.inl rfl) d9
   have a0 : Blk b3 a1.heap.size 36 [.int .i64 0, .int .i64 0, .int .u64 0, .int .i64 0, .int .i64 0, .int .i64 0, .slice none 0 0, .int .u64 0] := a0.seti 0 rfl d9
   refine ⟨a0.cani 1 rfl rfl, Q01 fun c4 cx => ?_⟩
   have bm := c2.x_set (q := a1.heap.size) (i := 1) rfl (.inl rfl) cx
   have a0 : Blk c4 a1.heap.size 36 [.int .i64 0, .int .i64 0, .int .u64 0, .int .i64 0, .int .i64 0, .int .i64 0, .slice none 0 0, .int .u64 0] := a0.seti 1 rfl cx
   refine ⟨a0.cani 2 rfl rfl, Q01 fun c0 d4 => ?_⟩
   have b9 := bm.x_set (q := a1.heap.size) (i := 2) rfl (.inl rfl) d4
   have a0 : Blk c0 a1.heap.size 36 [.int .i64 0, .int .i64 0, .int .u64 0, .int .i64 0, .int .i64 0, .int .i64 0, .slice none 0 0, .int .u64 0] := a0.seti 2 rfl d4
   refine ⟨a0.cani 3 rfl rfl, Q01 fun b2 ct => ?_⟩
   have bx := b9.x_set (q := a1.heap.size) (i := 3) rfl (.inl rfl) ct
   have a0 : Blk b2 a1.heap.size 36 [.int .i64 0, .int .i64 0, .int .u64 0, .int .i64 0, .int .i64 0, .int .i64 0, .slice none 0 0, .int .u64 0] := a0.seti 3 rfl ct
   refine ⟨a0.cani 4 rfl rfl, Q01 fun ch da => ?_⟩
   have b1 := bx.x_set (q := a1.heap.size) (i := 4) rfl (.inl rfl) da
   have a0 : Blk ch a1.heap.size 36 [.int .i64 0, .int .i64 0, .int .u64 0, .int .i64 0, .int .i64 0, .int .i64 0, .slice none 0 0, .int .u64 0] := a0.seti 4 rfl da
   refine ⟨a0.cani 5 rfl rfl, Q01 fun ba cr => ?_⟩
   have ck := b1.x_set (q := a1.heap.size) (i := 5) rfl (.inl rfl) cr
   have a0 : Blk ba a1.heap.size 36 [.int .i64 0, .int .i64 0, .int .u64 0, .int .i64 0, .int .i64 0, .int .i64 0, .slice none 0 0, .int .u64 0] := a0.seti 5 rfl cr
   refine ⟨a0.cani 6 rfl rfl, Q01 fun b4 cu => ?_⟩
   have c6 := ck.x_set (q := a1.heap.size) (i := 6) rfl (.inl rfl) cu
   have a0 : Blk b4 a1.heap.size 36 [.int .i64 0, .int .i64 0, .int .u64 0, .int .i64 0, .int .i64 0, .int .i64 0, .slice none 0 0, .int .u64 0] := a0.seti 6 rfl cu
   refine ⟨a0.cani 7 rfl rfl, Q01 fun au cv => ?_⟩
   have ca := c6.x_set (q := a1.heap.size) (i := 7) rfl (.inl rfl) cv
   have a0 : Blk au a1.heap.size 36 [.int .i64 0, .int .i64 0, .int .u64 0, .int .i64 0, .int .i64 0, .int .i64 0, .slice none 0 0, .int .u64 0] := a0.seti 7 rfl cv
   refine ⟨0, 0, 0, 0, 0, 0, none, 0, 0, 0, ⟨a0.celli 0 rfl rfl, a0.celli 1 rfl rfl, a0.celli 2 rfl rfl, a0.celli 3 rfl rfl, a0.celli 4 rfl rfl, a0.celli 5 rfl rfl, a0.celli 6 rfl rfl, a0.celli 7 rfl rfl, trivial⟩, ?_⟩
   have h := h au ca
   exact h
  have h := h.2 (bne_f bj)
  unfold Q0q.J2
  refine h.mono fun dd aj h => ?_
  obtain ⟨af, ao, he, hk, h⟩ := h
  refine ⟨af, ao, he, ?_⟩
  have ab := hk.blk ab (by simp)
  have a0 := hk.blk a0 (by simp)
  have bh : Ext (fun b => b = w.heap.size) aj aj := ((Ext.refl no aj)).none
  refine ⟨ab.cani 7 rfl rfl, Q01 fun aq bp => ?_⟩
  have ay := bh.x_set (q := w.heap.size) (i := 7) rfl (.inl rfl) bp
  have ab : Blk aq w.heap.size 36 [.int .i64 a2, .int .i64 a3, .int .u64 a4, .int .i64 a9, .int .i64 aa, .int .i64 a5, .slice ae ac ad, .int .u64 af] := ab.seti 7 rfl bp
  have a0 := a0.oth (q := w.heap.size) (i := 7) rfl (Ne.symm an) bp
  refine bif_of (fun bl => ?_) (fun bl => ?_)
  ·have h := h.1 (bne_t bl)
   have bk : Ext (fun b => b = a1.heap.size ∨ b = w.heap.size) aj aq := (ay).mono fun _ h _ => .inr h
   refine ⟨a0.cani 0 rfl rfl, Q01 fun bz db => ?_⟩
   have bu := bk.x_set (q := a1.heap.size) (i := 0) rfl (.inl (.inl rfl)) db
   have a0 : Blk bz a1.heap.size 36 [.int .i64 0, .int .i64 0, .int .u64 0, .int .i64 0, .int .i64 0, .int .i64 0, .slice none 0 0, .int .u64 0] := a0.seti 0 rfl db
   refine ⟨a0.cani 1 rfl rfl, Q01 fun b5 d6 => ?_⟩
   have cl := bu.x_set (q := a1.heap.size) (i := 1) rfl (.inl (.inl rfl)) d6
   have a0 : Blk b5 a1.heap.size 36 [.int .i64 0, .int .i64 0, .int .u64 0, .int .i64 0, .int .i64 0, .int .i64 0, .slice none 0 0, .int .u64 0] := a0.seti 1 rfl d6
   refine ⟨a0.cani 2 rfl rfl, Q01 fun b7 d8 => ?_⟩
   have br := cl.x_set (q := a1.heap.size) (i := 2) rfl (.inl (.inl rfl)) d8
   have a0 : Blk b7 a1.heap.size 36 [.int .i64 0, .int .i64 0, .int .u64 0, .int .i64 0, .int .i64 0, .int .i64 0, .slice none 0 0, .int .u64 0] := a0.seti 2 rfl d8
   refine ⟨a0.cani 3 rfl rfl, Q01 fun bs cn => ?_⟩
   have bg := br.x_set (q := a1.heap.size) (i := 3) rfl (.inl (.inl rfl)) cn
   have a0 : Blk bs a1.heap.size 36 [.int .i64 0, .int .i64 0, .int .u64 0, .int .i64 0, .int .i64 0, .int .i64 0, .slice none 0 0, .int .u64 0] := a0.seti 3 rfl cn
   refine ⟨a0.cani 4 rfl rfl, Q01 fun b8 d5 => ?_⟩
   have cm := bg.x_set (q := a1.heap.size) (i := 4) rfl (.inl (.inl rfl)) d5
   have a0 : Blk b8 a1.heap.size 36 [.int .i64 0, .int .i64 0, .int .u64 0, .int .i64 0, .int .i64 0, .int .i64 0, .slice none 0 0, .int .u64 0] := a0.seti 4 rfl d5
   refine ⟨a0.cani 5 rfl rfl, Q01 fun bv d7 => ?_⟩
   have bb := cm.x_set (q := a1.heap.size) (i := 5) rfl (.inl (.inl rfl)) d7
   have a0 : Blk bv a1.heap.size 36 [.int .i64 0, .int .i64 0, .int .u64 0, .int .i64 0, .int .i64 0, .int .i64 0, .slice none 0 0, .int .u64 0] := a0.seti 5 rfl d7
   refine ⟨a0.cani 6 rfl rfl, Q01 fun b6 cp => ?_⟩
   have cf := bb.x_set (q := a1.heap.size) (i := 6) rfl (.inl (.inl rfl)) cp
   have a0 : Blk b6 a1.heap.size 36 [.int .i64 0, .int .i64 0, .int .u64 0, .int .i64 0, .int .i64 0, .int .i64 0, .slice none 0 0, .int .u64 0] := a0.seti 6 rfl cp
   refine ⟨a0.cani 7 rfl rfl, Q01 fun az cy => ?_⟩
   have cb := cf.x_set (q := a1.heap.size) (i := 7) rfl (.inl (.inl rfl)) cy
   have a0 : Blk az a1.heap.size 36 [.int .i64 0, .int .i64 0, .int .u64 0, .int .i64 0, .int .i64 0, .int .i64 0, .slice none 0 0, .int .u64 0] := a0.seti 7 rfl cy
   refine ⟨0, 0, 0, 0, 0, 0, none, 0, 0, 0, ⟨a0.celli 0 rfl rfl, a0.celli 1 rfl rfl, a0.celli 2 rfl rfl, a0.celli 3 rfl rfl, a0.celli 4 rfl rfl, a0.celli 5 rfl rfl, a0.celli 6 rfl rfl, a0.celli 7 rfl rfl, trivial⟩, ?_⟩
   have h := h az cb
   exact h
  have h := h.2 (bne_f bl)
  unfold Q0q.J1
  refine ⟨ae, ac, ad, ab.celli 6 rfl rfl, ?_⟩
  have h := h aq ay
  refine h.mono fun de am h => ?_
  obtain ⟨a7, a6, a8, he, hk, h⟩ := h
  refine ⟨a7, a6, a8, he, ?_⟩
  have ab := hk.blk ab (by simp)
  have a0 := hk.blk a0 (by simp)
  have be : Ext (fun b => b = w.heap.size) am am := ((Ext.refl no am)).none
  refine ⟨ab.cani 6 rfl rfl, Q01 fun ax c7 => ?_⟩
  have cg := be.x_set (q := w.heap.size) (i := 6) rfl (.inl rfl) c7
  have ab : Blk ax w.heap.size 36 [.int .i64 a2, .int .i64 a3, .int .u64 a4, .int .i64 a9, .int .i64 aa, .int .i64 a5, .slice a7 a6 a8, .int .u64 af] := ab.seti 6 rfl c7
  have a0 := a0.oth (q := w.heap.size) (i := 6) rfl (Ne.symm an) c7
  refine ⟨a2, a3, a4, a9, aa, a5, a7, a6, a8, af, ⟨ab.celli 0 rfl rfl, ab.celli 1 rfl rfl, ab.celli 2 rfl rfl, ab.celli 3 rfl rfl, ab.celli 4 rfl rfl, ab.celli 5 rfl rfl, ab.celli 6 rfl rfl, ab.celli 7 rfl rfl, trivial⟩, ?_⟩
  have ci : Ext (fun b => b = a1.heap.size ∨ b = w.heap.size) am ax := (cg).mono fun _ h _ => .inr h
  refine ⟨a0.cani 0 rfl rfl, Q01 fun c5 d0 => ?_⟩
  have c3 := ci.x_set (q := a1.heap.size) (i := 0) rfl (.inl (.inl rfl)) d0
  have a0 : Blk c5 a1.heap.size 36 [.int .i64 a2, .int .i64 0, .int .u64 0, .int .i64 0, .int .i64 0, .int .i64 0, .slice none 0 0, .int .u64 0] := a0.seti 0 rfl d0
  refine ⟨a0.cani 1 rfl rfl, Q01 fun bo cs => ?_⟩
  have ce := c3.x_set (q := a1.heap.size) (i := 1) rfl (.inl (.inl rfl)) cs
  have a0 : Blk bo a1.heap.size 36 [.int .i64 a2, .int .i64 a3, .int .u64 0, .int .i64 0, .int .i64 0, .int .i64 0, .slice none 0 0, .int .u64 0] := a0.seti 1 rfl cs
  refine ⟨a0.cani 2 rfl rfl, Q01 fun bt d3 => ?_⟩
  have bq := ce.x_set (q := a1.heap.size) (i := 2) rfl (.inl (.inl rfl)) d3
  have a0 : Blk bt a1.heap.size 36 [.int .i64 a2, .int .i64 a3, .int .u64 a4, .int .i64 0, .int .i64 0, .int .i64 0, .slice none 0 0, .int .u64 0] := a0.seti 2 rfl d3
  refine ⟨a0.cani 3 rfl rfl, Q01 fun bi cq => ?_⟩
  have bn := bq.x_set (q := a1.heap.size) (i := 3) rfl (.inl (.inl rfl)) cq
  have a0 : Blk bi a1.heap.size 36 [.int .i64 a2, .int .i64 a3, .int .u64 a4, .int .i64 a9, .int .i64 0, .int .i64 0, .slice none 0 0, .int .u64 0] := a0.seti 3 rfl cq
  refine ⟨a0.cani 4 rfl rfl, Q01 fun bd co => ?_⟩
  have bc := bn.x_set (q := a1.heap.size) (i := 4) rfl (.inl (.inl rfl)) co
  have a0 : Blk bd a1.heap.size 36 [.int .i64 a2, .int .i64 a3, .int .u64 a4, .int .i64 a9, .int .i64 aa, .int .i64 0, .slice none 0 0, .int .u64 0] := a0.seti 4 rfl co
  refine ⟨a0.cani 5 rfl rfl, Q01 fun cj cw => ?_⟩
  have c9 := bc.x_set (q := a1.heap.size) (i := 5) rfl (.inl (.inl rfl)) cw
  have a0 : Blk cj a1.heap.size 36 [.int .i64 a2, .int .i64 a3, .int .u64 a4, .int .i64 a9, .int .i64 aa, .int .i64 a5, .slice none 0 0, .int .u64 0] := a0.seti 5 rfl cw
  refine ⟨a0.cani 6 rfl rfl, Q01 fun cc cz => ?_⟩
  have bf := c9.x_set (q := a1.heap.size) (i := 6) rfl (.inl (.inl rfl)) cz
  have a0 : Blk cc a1.heap.size 36 [.int .i64 a2, .int .i64 a3, .int .u64 a4, .int .i64 a9, .int .i64 aa, .int .i64 a5, .slice a7 a6 a8, .int .u64 0] := a0.seti 6 rfl cz
  refine ⟨a0.cani 7 rfl rfl, Q01 fun av d1 => ?_⟩
  have b0 := bf.x_set (q := a1.heap.size) (i := 7) rfl (.inl (.inl rfl)) d1
  have a0 : Blk av a1.heap.size 36 [.int .i64 a2, .int .i64 a3, .int .u64 a4, .int .i64 a9, .int .i64 aa, .int .i64 a5, .slice a7 a6 a8, .int .u64 af] := a0.seti 7 rfl d1
  refine ⟨a2, a3, a4, a9, aa, a5, a7, a6, a8, af, ⟨a0.celli 0 rfl rfl, a0.celli 1 rfl rfl, a0.celli 2 rfl rfl, a0.celli 3 rfl rfl, a0.celli 4 rfl rfl, a0.celli 5 rfl rfl, a0.celli 6 rfl rfl, a0.celli 7 rfl rfl, trivial⟩, ?_⟩
  have h := h av b0
  exact h

theorem Q0q.go (o1 : Option Addr) (a1 a0 a4 a7 a9 aa a2 : Int) (a5 : Option Addr) (a6 a3 : Nat) (a8 : Int) {R : RW} {w : World} (h : Q0q.N o1 a1 a0 a4 a7 a9 aa a2 a5 a6 a3 a8 R w) : Calls Try.prog 9 #[.pointer o1, .int .u64 a1, .agg #[.int .i64 a0, .int .i64 a4, .int .u64 a7, .int .i64 a9, .int .i64 aa, .int .i64 a2, .slice a5 a6 a3, .int .u64 a8]] w fun e w' => ∃ v, e = .returned v ∧ R v w' := Q0q.ok o1 a1 a0 a4 a7 a9 aa a2 a5 a6 a3 a8 (Q0q.up o1 a1 a0 a4 a7 a9 aa a2 a5 a6 a3 a8 h)
def Q0t.M (o1 : Option Addr) (ae ad aj ao au aq ah : Int) (ak : Option Addr) (al ai : Nat) (ap : Int) (R : RW) (w : World) : Prop :=
 thenW (w.alloc (.cells #[.int .i64 ad, .int .i64 aj, .int .u64 ao, .int .i64 au, .int .i64 aq, .int .i64 ah, .slice ak al ai, .int .u64 ap] 36)) fun ar =>
 ∃ (a0 a4 a7 ag af a6 : Int) (a5 : Option Addr) (a2 a1 : Nat) (ab : Int), cellsAt ar (blk w.heap.size) [.int .i64 a0, .int .i64 a4, .int .u64 a7, .int .i64 ag, .int .i64 af, .int .i64 a6, .slice a5 a2 a1, .int .u64 ab] 0 ∧
 Calls Try.prog 19 #[.agg #[.int .i64 a0, .int .i64 a4, .int .u64 a7, .int .i64 ag, .int .i64 af, .int .i64 a6, .slice a5 a2 a1, .int .u64 ab]] ar fun aw an => ∃ (a8 : Option Addr) (aa a9 : Nat) (ac : Int), aw = .returned (.tuple #[.slice a8 aa a9, .int .i64 ac]) ∧
 bif ac == 0 then (
 ∃ (am : Int), an.cell? ((blk w.heap.size).add 7) = some (.int .u64 am) ∧
 Calls Try.prog 36 #[.pointer o1, .int .u64 ae, .slice a8 aa a9, .int .u64 am] an fun ax av => ∃ (a3 : Bool), ax = .returned (.bool a3) ∧
 R (.bool a3) av) else (
 R (.bool false) an)

theorem Q0t.ok (o1 : Option Addr) (a1 a0 a4 a7 a9 aa a2 : Int) (a5 : Option Addr) (a6 a3 : Nat) (a8 : Int) {R : RW} {w : World} (h : Q0t.M o1 a1 a0 a4 a7 a9 aa a2 a5 a6 a3 a8 R w) : Calls Try.prog 27 #[.pointer o1, .int .u64 a1, .agg #[.int .i64 a0, .int .i64 a4, .int .u64 a7, .int .i64 a9, .int .i64 aa, .int .i64 a2, .slice a5 a6 a3, .int .u64 a8]] w fun e w' => ∃ v, e = .returned v ∧ R v w' :=
  Q0m follows (H := []) (args := [.pointer o1, .int .u64 a1, .agg #[.int .i64 a0, .int .i64 a4, .int .u64 a7, .int .i64 a9, .int .i64 aa, .int .i64 a2, .slice a5 a6 a3, .int .u64 a8]]) (cast (by kernel_rfl) h)

def Q0t.N (o1 : Option Addr) (a7 a6 ab ae ah ag a9 : Int) (ac : Option Addr) (ad aa : Nat) (a5 : Int) (R : RW) (w : World) : Prop :=
 ∀ (a8 : World) (al : Nat), Ext no w a8 → Priv w a8 [al] →
 Calls Try.prog 19 #[.agg #[.int .i64 a6, .int .i64 ab, .int .u64 ae, .int .i64 ah, .int .i64 ag, .int .i64 a9, .slice ac ad aa, .int .u64 a5]] a8 fun aj af => ∃ (a4 : Option Addr) (a2 a3 : Nat) (a1 : Int), aj = .returned (.tuple #[.slice a4 a2 a3, .int .i64 a1]) ∧
 Keep [al] a8 af ∧
 (a1 = 0 →
 Calls Try.prog 36 #[.pointer o1, .int .u64 a7, .slice a4 a2 a3, .int .u64 a5] af fun ak ai => ∃ (a0 : Bool), ak = .returned (.bool a0) ∧
 R (.bool a0) ai) ∧
 (a1 ≠ 0 →
 R (.bool false) af)

theorem Q0t.up (o1 : Option Addr) (a7 a0 a3 a8 ab aa a1 : Int) (a5 : Option Addr) (a6 a2 : Nat) (a4 : Int) {R : RW} {w : World} (h : Q0t.N o1 a7 a0 a3 a8 ab aa a1 a5 a6 a2 a4 R w) : Q0t.M o1 a7 a0 a3 a8 ab aa a1 a5 a6 a2 a4 R w := by
  unfold Q0t.M
  unfold Q0t.N at h
  refine Q01 fun ah ak => ?_
  have a9 := Blk.of_new ak
  have am := ((Ext.refl no w)).size
  have aj := (Ext.refl no w).x_alloc ak
  refine ⟨a0, a3, a8, ab, aa, a1, a5, a6, a2, a4, ⟨a9.celli 0 rfl rfl, a9.celli 1 rfl rfl, a9.celli 2 rfl rfl, a9.celli 3 rfl rfl, a9.celli 4 rfl rfl, a9.celli 5 rfl rfl, a9.celli 6 rfl rfl, a9.celli 7 rfl rfl, trivial⟩, ?_⟩
  have h := h ah (w.heap.size) aj (Priv.cons am a9.lt Priv.nil)
  refine h.mono fun an ap h => ?_
  obtain ⟨af, ad, ae, ag, he, hk, h⟩ := h
  refine ⟨af, ad, ae, ag, he, ?_⟩
  have a9 := hk.blk a9 (by simp)
  refine bif_fo (fun ai => ?_) (fun ai => ?_)
  ·have h := h.2 (beq_f ai)
   exact h
  have h := h.1 (beq_t ai)
  refine ⟨a4, a9.celli 7 rfl rfl, ?_⟩
  refine h.mono fun ao al h => ?_
  obtain ⟨ac, he, h⟩ := h
  refine ⟨ac, he, ?_⟩
  exact h

theorem Q0t.go (o1 : Option Addr) (a1 a0 a4 a7 a9 aa a2 : Int) (a5 : Option Addr) (a6 a3 : Nat) (a8 : Int) {R : RW} {w : World} (h : Q0t.N o1 a1 a0 a4 a7 a9 aa a2 a5 a6 a3 a8 R w) : Calls Try.prog 27 #[.pointer o1, .int .u64 a1, .agg #[.int .i64 a0, .int .i64 a4, .int .u64 a7, .int .i64 a9, .int .i64 aa, .int .i64 a2, .slice a5 a6 a3, .int .u64 a8]] w fun e w' => ∃ v, e = .returned v ∧ R v w' := Q0t.ok o1 a1 a0 a4 a7 a9 aa a2 a5 a6 a3 a8 (Q0t.up o1 a1 a0 a4 a7 a9 aa a2 a5 a6 a3 a8 h)
theorem Q0t.run (o1 : Option Addr) (a1 a0 a4 a7 a9 aa a2 : Int) (a5 : Option Addr) (a6 a3 : Nat) (a8 : Int) {V : Value} {Q : World → Prop} {w : World} (h : Q0t.N o1 a1 a0 a4 a7 a9 aa a2 a5 a6 a3 a8 (fun v w' => v = V ∧ Q w') w) : Calls Try.prog 27 #[.pointer o1, .int .u64 a1, .agg #[.int .i64 a0, .int .i64 a4, .int .u64 a7, .int .i64 a9, .int .i64 aa, .int .i64 a2, .slice a5 a6 a3, .int .u64 a8]] w (Ret V Q) := (Q0t.go o1 a1 a0 a4 a7 a9 aa a2 a5 a6 a3 a8 h).mono fun e w' ⟨v, he, hv, hq⟩ => ⟨by rw [he, hv], hq⟩

def signE (S : OS) (s : Int) (e : Ent) : (Ent × Int) × OS :=
  if Q0o e = true then (if (signOf S s (textL e)).1.2 = true then (({ e with sg := (signOf S s (textL e)).1.1 }, 0), (signOf S s (textL e)).2) else ((Ent.zero, 11), (signOf S s (textL e)).2)) else ((Ent.zero, 1), S)
def holdsE (S : OS) (p : Int) (e : Ent) : Bool := Q0o e && Q1t S p (textL e) e.sg
section
variable {w w' : World} {o o' : Own} {k : Nat} {S : OS} {K : Nat → Prop}
theorem OwnB.tight {N : Nat} {a : Option Addr} {c : Nat} {l : List UInt8} (h : OwnB N w' a c l) (hN : w.heap.size ≤ N) : Row w' (grow w o) a (bytesV l) := Row.fresh h.row fun ad ha => Nat.le_trans hN (h.fr ad ha).1
theorem Q3j {a : Option Addr} {c : Nat} {bs : List UInt8} (h : RowAt w a (bytesV bs)) (hl : bs.length ≤ 1000000) :
    Calls Try.prog 21 #[.slice a bs.length c] w (fun e w' => ∃ a' c', e = .returned (.slice a' bs.length c') ∧ OwnB w.heap.size w' a' c' bs ∧ Ext no w w') := by
  refine (Q0s.go _ _ _ (R := fun v w' => ∃ a' c', v = (.slice a' bs.length c') ∧ OwnB w.heap.size w' a' c' bs ∧ Ext no w w') ?_).mono fun e w' ⟨v, he, a, c, hv, hw⟩ => ⟨a, c, by rw [he, hv], hw⟩
  unfold Q0s.N
  refine ⟨fun hn => ?_, fun hn w2 q X hb hq hq' => ?_⟩
  · subst hn
    have : bs = [] := by simpa [bytesV] using h.none_nil
    subst this
    exact ⟨none, 0, rfl, OwnB.nil _ _, Ext.refl _ _⟩
  · have hO : OwnB w.heap.size w2 (some (blk q)) 0 [] := ⟨Q13 hb rfl (Nat.zero_le _), fun ad ha => by cases ha; exact ⟨hq, hq'⟩⟩
    obtain ⟨a', c', w', hr, hO', hx⟩ := hO.append (t := 34) (ty := 34) Try.underlying34 X.size (xc := c) (h.no X) (by simp; omega)
    rw [List.nil_append] at hr hO'
    exact ⟨a', _, c', w', hr, a', c', rfl, hO', X.then hx fun b hb => .inr hb⟩
theorem SignE (h : POrc w o k S) (ok : Tags w o) (hok : S.ok) (hlen : S.used.length < 1000000) (s : Int) {e : Ent} (hf : Q0o e = true → e.fit) {ba : Option Addr} {bc : Nat} (hb : Row w o ba (bytesV e.body)) :
    Calls Try.prog 9 #[.pointer (some (blk k)), .int .u64 s, entV e ba bc] w (fun x w' => ∃ o' a' c', x = .returned (.tuple #[entV (signE S s e).1.1 a' c', .int .i64 (signE S s e).1.2]) ∧ Step (fun j => j = k) w o w' o' ∧ POrc w' o' k (signE S s e).2 ∧ Row w' o' a' (bytesV (signE S s e).1.1.body) ∧ (signE S s e).1.1.body.length ≤ c') := by
  refine (Q0q.go (some (blk k)) s e.w e.i e.pv e.t e.tw e.ep ba e.body.length bc e.sg (R := fun v w' => ∃ o' a' c', v = (.tuple #[entV (signE S s e).1.1 a' c', .int .i64 (signE S s e).1.2]) ∧ Step (fun j => j = k) w o w' o' ∧ POrc w' o' k (signE S s e).2 ∧ Row w' o' a' (bytesV (signE S s e).1.1.body) ∧ (signE S s e).1.1.body.length ≤ c') ?_).mono fun x w' ⟨v, he, o', a', c', hv, hw⟩ => ⟨o', a', c', by rw [he, hv], hw⟩
  unfold Q0q.N
  intro w12 p13 p14 X12 hp
  obtain ⟨hp1, hp2⟩ := hp.two
  obtain ⟨o12, s12, t13, t14⟩ := Step.priv2 X12 hp ok
  have hkl := h.lt
  refine (Q2z hf (hb.step s12).1).mono fun x w18 ⟨a, c, he, hO, X⟩ => ⟨_, _, _, _, he, X.kept, ?_⟩
  have s18' := Step.of_no X s12.ok
  have s18 := s12.trans s18'
  have t13 : grow w12 o12 p13 = some p13 := (s18'.own hp1.2).trans t13
  have t14 : grow w12 o12 p14 = some p14 := (s18'.own hp2.2).trans t14
  have h18 := h.step s18 id
  have l18 := X.size
  unfold textK signE at *
  by_cases hr : Q0o e = true
  · rw [if_pos hr] at hO ⊢
    rw [if_pos hr]
    refine ⟨fun h => absurd rfl h, fun _ => ?_⟩
    refine (SignO h18 s18.ok hok hlen s (OwnB.tight hO (Nat.le_refl _))).mono fun x w31 ⟨o31, he, s31', h31⟩ => ⟨_, _, he, s31'.keep2 t13 (by omega) t14 (by omega), ?_⟩
    have s31 := s18.none.trans s31'
    have t13 := (s31'.own (by omega)).trans t13
    have t14 := (s31'.own (by omega)).trans t14
    have l31 := s31'.size
    cases hs : (signOf S s (textL e)).1.2
    · simp only [if_false, Bool.false_eq_true]
      refine ⟨fun _ w41 X41 => ?_, fun h => absurd h (by decide)⟩
      obtain ⟨o41, s41⟩ := Step.store2 X41 s31.ok t14 t13
      exact ⟨o41, none, 0, rfl, s31.trans' s41 fun j hj => .inr (by omega), h31.step s41 (by omega), Row.nil _ _ _, Nat.le_refl _⟩
    · simp only [if_true]
      refine ⟨fun h => absurd rfl h, fun _ w32 X32 => ?_⟩
      obtain ⟨o32, s32'⟩ := Step.store1 X32 s31.ok t13
      have s32 := s31.trans' s32' fun j hj => .inr (by omega)
      have hbl := ((Q1L _).1 hr).2.2.2.2.2.2.2.2.2.1
      have t13 := (s32'.own (by omega)).trans t13
      have t14 := (s32'.own (by omega)).trans t14
      have l32 := s32'.size
      refine (Q3j (hb.step s32).1 (by omega)).mono fun x w44 ⟨ca, cc, he, hO, X44⟩ => ⟨_, _, _, he, X44.kept, fun w53 X53 => ?_⟩
      have s44' := Step.of_no X44 s32.ok
      have s44 := s32.trans s44'.none
      have t13 := (s44'.own (by omega)).trans t13
      have t14 := (s44'.own (by omega)).trans t14
      obtain ⟨o53, s53⟩ := Step.store2 X53 s44.ok t14 t13
      exact ⟨o53, ca, cc, rfl, s44.trans' s53 fun j hj => .inr (by omega), ((h31.step s32' (by omega)).step s44' id).step s53 (by omega), (OwnB.tight hO (Nat.le_refl _)).step s53, hO.le⟩
  · rw [if_neg hr]
    rw [if_neg hr]
    refine ⟨fun _ w27 X27 => ?_, fun h => absurd h (by decide)⟩
    obtain ⟨o27, s27⟩ := Step.store1 X27 s18.ok t14
    exact ⟨o27, none, 0, rfl, s18.none.trans' s27 fun j hj => .inr (by omega), h18.step s27 (by omega), Row.nil _ _ _, Nat.le_refl _⟩
theorem HoldsO (h : POrc w o k S) (ok : Tags w o) (p : Int) {e : Ent} (hf : Q0o e = true → e.fit) {ba : Option Addr} {bc : Nat} (hb : RowAt w ba (bytesV e.body)) :
    Calls Try.prog 27 #[.pointer (some (blk k)), .int .u64 p, entV e ba bc] w (Ret (.bool (holdsE S p e)) fun w' => Ext no w w') := by
  refine Q0t.run (some (blk k)) p e.w e.i e.pv e.t e.tw e.ep ba e.body.length bc e.sg ?_
  unfold Q0t.N
  intro w11 p12 X11 hp
  refine (Q2z hf (hb.no X11)).mono fun x w16 ⟨a, c, he, hO, X⟩ => ⟨_, _, _, _, he, X.kept, ?_⟩
  have s := (Step.of_no X11 ok).trans (Step.of_no X (Step.of_no X11 ok).ok)
  unfold textK holdsE at *
  by_cases hr : Q0o e = true
  · rw [if_pos hr] at hO ⊢
    rw [hr, Bool.true_and]
    refine ⟨fun _ => ?_, fun h => absurd rfl h⟩
    exact (VerifyO (h.step s id) s.ok p e.sg (OwnB.tight hO (Nat.le_refl _))).mono fun x w20 ⟨he, X20⟩ => ⟨_, he, rfl, (X11.trans X).trans X20⟩
  · rw [if_neg hr]
    rw [show Q0o e = false by simpa using hr, Bool.false_and]
    exact ⟨fun h => absurd h (by decide), fun _ => ⟨rfl, X11.trans X⟩⟩
end
structure OInv (S : OS) : Prop where
  ok : S.ok
  rng : ∀ x ∈ S.used, 0 < x ∧ (x < 18446744073709551616 ∨ x ≤ 2 * S.used.length)
  hu : ∀ b h, alook S.hashes b = some h → h ∈ S.used
  hi : ∀ b c h, alook S.hashes b = some h → alook S.hashes c = some h → b = c
  sg : ∀ q x, alook S.signs q = some x → alook S.signed x = some q
  gs : ∀ x q, alook S.signed x = some q → alook S.signs q = some x
  su : ∀ x q, alook S.signed x = some q → x ∈ S.used
  pu : ∀ p s, alook S.publics p = some s → p ∈ S.used
  ps : ∀ p s, alook S.publics p = some s → s ∈ S.secrets
  eu : ∀ s ∈ S.secrets, s ∈ S.used
theorem OInv.fit {S : OS} (h : OInv S) (hl : S.used.length < 1000000000) {x : Int} (hx : x ∈ S.used) : 0 ≤ x ∧ x < 18446744073709551616 := by
  have := h.rng x hx
  omega
theorem Q29 {S : OS} (h : S.ok) : 0 < (freshOf S).1 ∧ ((freshOf S).1 < 18446744073709551616 ∨ (freshOf S).1 ≤ 2 * ((S.used.length : Int) + 1)) := by
  obtain ⟨h1, h2, h3, h4⟩ := h
  unfold freshOf
  cases hp : pickD S.draws S.used with
  | some q =>
    obtain ⟨x, r⟩ := q
    obtain ⟨a, b, c⟩ := Q1E hp
    have := h4 x c
    exact ⟨by show 0 < x; omega, .inl this.2⟩
  | none =>
    obtain ⟨a, b, c, d, e⟩ := Q11 S.used (S.used.length + 1) S.next h1 (gap S.used _ _ (by omega))
    exact ⟨by show 0 < pickN _ _ _; omega, .inr (by show pickN _ _ _ ≤ _; omega)⟩
structure OS.le (S S' : OS) : Prop where
  hashes : ∀ b h, alook S.hashes b = some h → alook S'.hashes b = some h
  signs : ∀ q x, alook S.signs q = some x → alook S'.signs q = some x
  signed : ∀ x q, alook S.signed x = some q → alook S'.signed x = some q
  publics : ∀ p s, alook S.publics p = some s → alook S'.publics p = some s
  secrets : ∀ s ∈ S.secrets, s ∈ S'.secrets
  used : ∀ x ∈ S.used, x ∈ S'.used
theorem OS.le.refl (S : OS) : OS.le S S := ⟨fun _ _ h => h, fun _ _ h => h, fun _ _ h => h, fun _ _ h => h, fun _ h => h, fun _ h => h⟩
theorem OInv.init {l : List Int} (hl : ∀ d ∈ l, 0 ≤ d ∧ d < 18446744073709551616) : OInv (OS.init l) :=
  ⟨OS.init_ok l hl, fun x h => by simp [OS.init] at h, fun b h e => by simp [OS.init, alook] at e, fun b c h e => by simp [OS.init, alook] at e, fun q x e => by simp [OS.init, alook] at e, fun x q e => by simp [OS.init, alook] at e,
    fun x q e => by simp [OS.init, alook] at e, fun p s e => by simp [OS.init, alook] at e, fun p s e => by simp [OS.init, alook] at e, fun s h => by simp [OS.init] at h⟩
theorem Q3U {S : OS} (h : OInv S) : OInv (freshOf S).2 ∧ OS.le S (freshOf S).2 ∧ (freshOf S).1 ∉ S.used ∧ (freshOf S).1 ∈ (freshOf S).2.used ∧ (freshOf S).1 ≠ 0 := by
  obtain ⟨a1, a2, a3, a4⟩ := Q0D h.ok
  obtain ⟨c1, c2, c3, c4, c5, c6, c7, c8⟩ := Q0A S
  have hsub : ∀ x ∈ S.used, x ∈ (freshOf S).2.used := fun x hx => by rw [a3]; simp [hx]
  refine ⟨⟨a4, fun x hx => ?_, fun b k e => hsub _ (h.hu b k (by rw [← c1]; exact e)), fun b c k e1 e2 => h.hi b c k (by rw [← c1]; exact e1) (by rw [← c1]; exact e2), fun q x e => ?_, fun x q e => ?_, fun x q e => ?_, fun p s e => ?_, fun p s e => ?_, fun s hs => ?_⟩,
    ⟨fun b k e => by rw [c1]; exact e, fun q x e => by rw [c5]; exact e, fun x q e => by rw [c6]; exact e, fun p s e => by rw [c4]; exact e, fun s hs => by rw [c3]; exact hs, hsub⟩, a2, by rw [a3]; simp, a1⟩
  · have hl : (freshOf S).2.used.length = S.used.length + 1 := by rw [a3]; simp
    rw [hl]
    rw [a3] at hx
    rcases List.mem_append.1 hx with hx | hx
    · have := h.rng x hx; omega
    · simp at hx; rw [hx]; have := Q29 h.ok; omega
  · rw [c5] at e; rw [c6]; exact h.sg q x e
  · rw [c6] at e; rw [c5]; exact h.gs x q e
  · rw [c6] at e; exact hsub _ (h.su x q e)
  · rw [c4] at e; exact hsub _ (h.pu p s e)
  · rw [c4] at e; rw [c3]; exact h.ps p s e
  · rw [c3] at hs; exact hsub _ (h.eu s hs)
theorem Q1w {l : List Int} {x y : Int} : y ∈ badd l x ↔ y ∈ l ∨ y = x := by
  unfold badd
  split
  · constructor
    · exact .inl
    · rintro (h | rfl)
      · exact h
      · assumption
  · simp
theorem Q3v {S : OS} (h : OInv S) : OInv (pairOf S).2 ∧ OS.le S (pairOf S).2 ∧ alook (pairOf S).2.publics (pairOf S).1.2 = some (pairOf S).1.1 ∧ (pairOf S).1.1 ∈ (pairOf S).2.secrets ∧ (pairOf S).1.2 ∉ (pairOf S).2.secrets ∧ (pairOf S).1.1 ∉ S.secrets ∧
    (pairOf S).2.hashes = S.hashes ∧ (pairOf S).2.signs = S.signs ∧ (pairOf S).2.signed = S.signed := by
  obtain ⟨a1, a2, a3, a4, a5, a6, a7, a8, a9, a10, a11, a12, a13, a14⟩ := Q38 h.ok
  obtain ⟨k1, _⟩ := Q1Z h.ok
  have hsub : ∀ x ∈ S.used, x ∈ (pairOf S).2.used := fun x hx => by rw [a6]; simp [hx]
  have hl : ∀ c k, alook (pairOf S).2.publics c = some k → ((pairOf S).1.2 = c ∧ k = (pairOf S).1.1) ∨ alook S.publics c = some k := fun c k e => by
    rw [a8, Q0z] at e
    split at e
    · rename_i hbc; cases e; exact .inl ⟨hbc, rfl⟩
    · exact .inr e
  have hall : ∀ x ∈ (pairOf S).2.used, 0 < x ∧ (x < 18446744073709551616 ∨ x ≤ 2 * ((pairOf S).2.used.length : Int)) := fun x hx => by
    have h5 : OS.ok { (freshOf S).2 with secrets := badd S.secrets (freshOf S).1 } := (Q0D h.ok).2.2.2
    have r1 := Q29 h.ok
    have r2 : 0 < (pairOf S).1.2 ∧ ((pairOf S).1.2 < 18446744073709551616 ∨ (pairOf S).1.2 ≤ 2 * (((freshOf S).2.used.length : Int) + 1)) := Q29 h5
    have r3 : (freshOf S).2.used.length = S.used.length + 1 := by rw [(Q0D h.ok).2.2.1]; simp
    have r4 : (pairOf S).2.used.length = S.used.length + 2 := by rw [a6]; simp
    rw [r4]
    rw [a6] at hx
    rcases List.mem_append.1 hx with hx | hx
    · rcases List.mem_append.1 hx with hx | hx
      · have := h.rng x hx; omega
      · simp at hx; rw [hx]; show 0 < (freshOf S).1 ∧ ((freshOf S).1 < _ ∨ (freshOf S).1 ≤ _); omega
    · simp at hx; rw [hx]; omega
  refine ⟨⟨k1, hall, fun b k e => hsub _ (h.hu b k (by rw [← a9]; exact e)), fun b c k e1 e2 => h.hi b c k (by rw [← a9]; exact e1) (by rw [← a9]; exact e2), fun q x e => by rw [a11] at e; rw [a12]; exact h.sg q x e, fun x q e => by rw [a12] at e; rw [a11]; exact h.gs x q e,
    fun x q e => by rw [a12] at e; exact hsub _ (h.su x q e), fun p s e => ?_, fun p s e => ?_, fun s hs => ?_⟩, ⟨fun b k e => by rw [a9]; exact e, fun q x e => by rw [a11]; exact e, fun x q e => by rw [a12]; exact e, fun p s e => ?_, fun s hs => by rw [a7, Q1w]; exact .inl hs, hsub⟩, ?_, by rw [a7, Q1w]; exact .inr rfl, fun hs => ?_, fun hs => a3 (h.eu _ hs), a9, a11, a12⟩
  · rcases hl p s e with ⟨rfl, _⟩ | e
    · rw [a6]; simp
    · exact hsub _ (h.pu p s e)
  · rw [a7, Q1w]
    rcases hl p s e with ⟨_, rfl⟩ | e
    · exact .inr rfl
    · exact .inl (h.ps p s e)
  · rw [a7, Q1w] at hs
    rcases hs with hs | rfl
    · exact hsub _ (h.eu s hs)
    · rw [a6]; simp
  · rw [a8, Q0z, if_neg (fun e' => a4 (by rw [e']; exact h.pu p s e))]; exact e
  · rw [a8, Q0z, if_pos rfl]
  · rw [a7, Q1w] at hs
    rcases hs with hs | hs
    · exact a4 (h.eu _ hs)
    · exact a5 hs.symm
theorem Q3q {S : OS} (h : OInv S) {k : Int} (hk : k ∈ S.secrets) (b : List UInt8) : OInv (signOf S k b).2 ∧ OS.le S (signOf S k b).2 ∧ (signOf S k b).1.2 = true ∧ alook (signOf S k b).2.signed (signOf S k b).1.1 = some (k, b) ∧ alook (signOf S k b).2.signs (k, b) = some (signOf S k b).1.1 ∧
    (signOf S k b).2.hashes = S.hashes ∧ (signOf S k b).2.publics = S.publics ∧ (signOf S k b).2.secrets = S.secrets := by
  obtain ⟨c1, c2, c3, c4, c5, c6, c7, c8⟩ := Q0A S
  obtain ⟨f1, f2, f3, f4, f5⟩ := Q3U h
  unfold signOf
  rw [if_pos hk]
  cases hs : alook S.signs (k, b) with
  | some x => exact ⟨h, OS.le.refl _, rfl, h.sg _ _ hs, hs, rfl, rfl, rfl⟩
  | none =>
    have hl : ∀ c z, alook (aput S.signs (k, b) (freshOf S).1) c = some z → ((k, b) = c ∧ z = (freshOf S).1) ∨ alook S.signs c = some z := fun c z e => by
      rw [Q0z] at e
      split at e
      · rename_i hbc; cases e; exact .inl ⟨hbc, rfl⟩
      · exact .inr e
    have hg : ∀ c z, alook (aput S.signed (freshOf S).1 (k, b)) c = some z → ((freshOf S).1 = c ∧ z = (k, b)) ∨ alook S.signed c = some z := fun c z e => by
      rw [Q0z] at e
      split at e
      · rename_i hbc; cases e; exact .inl ⟨hbc, rfl⟩
      · exact .inr e
    have hn : ∀ x q, alook S.signed x = some q → (freshOf S).1 ≠ x := fun x q e e' => f3 (by rw [e']; exact h.su x q e)
    refine ⟨⟨f1.ok, f1.rng, f1.hu, f1.hi, fun q x e => ?_, fun x q e => ?_, fun x q e => ?_, f1.pu, f1.ps, f1.eu⟩, ⟨f2.hashes, fun q x e => ?_, fun x q e => ?_, f2.publics, f2.secrets, f2.used⟩, rfl, ?_, ?_, c1, c4, c3⟩
    · show alook (aput S.signed (freshOf S).1 (k, b)) x = some q
      rcases hl q x e with ⟨rfl, rfl⟩ | e
      · rw [Q0z, if_pos rfl]
      · rw [Q0z, if_neg (hn x q (h.sg q x e))]; exact h.sg q x e
    · show alook (aput S.signs (k, b) (freshOf S).1) q = some x
      rcases hg x q e with ⟨rfl, rfl⟩ | e
      · rw [Q0z, if_pos rfl]
      · rw [Q0z, if_neg (fun e' => by subst e'; have := h.gs x _ e; rw [hs] at this; cases this)]; exact h.gs x q e
    · rcases hg x q e with ⟨rfl, rfl⟩ | e
      · exact f4
      · exact f2.used _ (h.su x q e)
    · show alook (aput S.signs (k, b) (freshOf S).1) q = some x
      rw [Q0z, if_neg (fun e' => by subst e'; rw [hs] at e; cases e)]; exact e
    · show alook (aput S.signed (freshOf S).1 (k, b)) x = some q
      rw [Q0z, if_neg (hn x q e)]; exact e
    · show alook (aput S.signed (freshOf S).1 (k, b)) (freshOf S).1 = _
      rw [Q0z, if_pos rfl]
    · show alook (aput S.signs (k, b) (freshOf S).1) (k, b) = _
      rw [Q0z, if_pos rfl]
theorem sign_no {S : OS} {k : Int} (hk : k ∉ S.secrets) (b : List UInt8) : signOf S k b = ((0, false), S) := by unfold signOf; rw [if_neg hk]
theorem sign_inv' {S : OS} (h : OInv S) (k : Int) (b : List UInt8) : OInv (signOf S k b).2 ∧ OS.le S (signOf S k b).2 ∧ (signOf S k b).2.hashes = S.hashes ∧ (signOf S k b).2.publics = S.publics ∧ (signOf S k b).2.secrets = S.secrets := by
  by_cases hk : k ∈ S.secrets
  · obtain ⟨a1, a2, a3, a4, a5, a6, a7, a8⟩ := Q3q h hk b; exact ⟨a1, a2, a6, a7, a8⟩
  · rw [sign_no hk]; exact ⟨h, OS.le.refl _, rfl, rfl, rfl⟩
section
variable {S : OS}
theorem Q2K (h : OInv S) (s : Int) (e : Ent) : OInv (signE S s e).2 := by
  unfold signE
  split
  · split <;> exact (sign_inv' h s _).1
  · exact h
theorem Q2Y (h : OInv S) (hl : S.used.length < 1000000) (s : Int) {e : Ent} (he : e.fit) : (signE S s e).1.1.fit := by
  have z : Ent.zero.fit := ⟨by decide, by decide, by decide, by decide⟩
  unfold signE
  split
  · split
    · rename_i ht
      by_cases hk : s ∈ S.secrets
      · obtain ⟨a1, a2, a3, a4, _⟩ := Q3q h hk (textL e)
        have hx := a1.fit (by have := (Q1X h.ok s (textL e)).2; omega) (a1.su _ _ a4)
        exact ⟨he.pv0, he.pv1, hx.1, hx.2⟩
      · rw [sign_no hk] at ht; cases ht
    · exact z
  · exact z
end
end Go.Proofs.Ytebghegecofmhaa
set_option linter.unusedSectionVars false
namespace Go.Mx
section
variable {K K1 : Nat → Prop} {w w1 w' : World} {o o1 o' : Own} {p q j : Nat}
def Mine (L : List Nat) (w : World) (o : Own) : Prop := ∀ p ∈ L, p < w.heap.size ∧ o p = some p
theorem Mine.step {L : List Nat} (h : Mine L w o) (s : Step K w o w' o') : Mine L w' o' := fun p hp => ⟨Nat.lt_of_lt_of_le (h p hp).1 s.size, by rw [s.own (h p hp).1]; exact (h p hp).2⟩
theorem Mine.keep {L : List Nat} (h : Mine L w o) (s : Step K w o w' o') (hk : ∀ p ∈ L, ¬ K p) : Keep L w w' := s.keep fun p hp _ k hk' => by
  rw [(h p hp).2] at hk'; cases hk'; exact hk p hp
def tags (w : World) (o : Own) (L : List Nat) : Own := fun b => if b < w.heap.size then o b else if b ∈ L then some b else none
theorem Step.priv {L : List Nat} (h : Ext no w w') (hp : Priv w w' L) (ok : Tags w o) : Step no w o w' (tags w o L) ∧ Mine L w' (tags w o L) := by
  refine ⟨⟨h.mono fun _ h _ => h.elim, fun b hb => if_pos hb, ok, fun b j hb hj => ?_⟩, fun p hq => ⟨(hp p hq).2, ?_⟩⟩
  · unfold tags at hj
    split at hj
    · rename_i hl; exact Nat.lt_of_lt_of_le (ok b j hl hj) h.size
    · split at hj
      · cases hj; exact hb
      · cases hj
  · unfold tags
    rw [if_neg (by have := (hp p hq).1; omega), if_pos hq]
theorem Step.stores {L : List Nat} {m : Nat → Prop} (h : Ext m w w') (ok : Tags w o) (hL : Mine L w o) (hm : ∀ b, m b → b ∈ L) : Step (fun j => j ∈ L) w o w' (grow w o) :=
  Step.of_exts h ok fun b hb _ => ⟨b, (hL b (hm b hb)).2, hm b hb⟩
def setAll : List Value → Nat → List Value → List Value
  | cs, _, [] => cs
  | cs, k, v :: r => setAll (cs.set k v) (k + 1) r
def putsK (w : World) (a : Addr) : List Value → Nat → (World → Prop) → Prop
  | [], _, Φ => Φ w
  | v :: r, j, Φ => Q06 w (a.add j) ∧ thenW (w.setCell (a.add j) v) fun w' => putsK w' a r (j + 1) Φ
theorem Q0T : ∀ {vs u cs : List Value} {k : Nat}, setAll (u ++ cs) (u.length + k) vs = u ++ setAll cs k vs
  | [], _, _, _ => rfl
  | v :: r, u, cs, k => by
    simp only [setAll]
    rw [show (u ++ cs).set (u.length + k) v = u ++ cs.set k v by rw [List.set_append_right _ _ (by omega)]; congr 2; omega, Nat.add_assoc, Q0T]
theorem Q0P : ∀ {vs u cs : List Value}, vs.length = u.length → setAll (u ++ cs) 0 vs = vs ++ cs
  | [], [], _, _ => rfl
  | v :: r, x :: u, cs, h => by
    have := Q0T (vs := r) (u := [v]) (cs := u ++ cs) (k := 0)
    simp only [setAll, List.cons_append, List.set_cons_zero]
    simp only [List.length_cons, List.length_nil, List.cons_append, List.nil_append, Nat.add_zero] at this
    rw [this, Q0P (by simpa using h)]
  | [], _ :: _, _, h => by simp at h
  | _ :: _, [], _, h => by simp at h
theorem Q25 {α : Type} {f : α → List Value} {n : Nat} (hf : ∀ x, (f x).length = n) (x : α) : ∀ {l : List α} {i : Nat}, i < l.length → setAll (l.flatMap f) (i * n) (f x) = (l.set i x).flatMap f
  | [], i, h => by simp at h
  | a :: l, 0, _ => by
    simp only [List.flatMap_cons, Nat.zero_mul, List.set_cons_zero]
    exact Q0P (by rw [hf, hf])
  | a :: l, i + 1, h => by
    simp only [List.flatMap_cons, List.set_cons_succ]
    rw [show (i + 1) * n = (f a).length + i * n by rw [hf, Nat.add_mul, Nat.one_mul, Nat.add_comm], Q0T, Q25 hf x (by simpa using h)]
theorem Q0H {q k : Nat} {t : TypeId} : ∀ {vs cs : List Value} {j : Nat} {w : World} {Φ : World → Prop}, Blk w q t cs → k + j + vs.length ≤ cs.length → (∀ w', Ext (fun b => b = q) w w' → Blk w' q t (setAll cs (k + j) vs) → Φ w') → putsK w ((blk q).add k) vs j Φ
  | [], cs, j, w, Φ, hb, _, h => h w (Ext.refl _ _) hb
  | v :: r, cs, j, w, Φ, hb, hl, h => by
    simp only [List.length_cons] at hl
    have hc : cs[k + j]? = some (cs[k + j]'(by omega)) := List.getElem?_eq_getElem (by omega)
    refine ⟨by rw [add_add]; exact hb.cana hc, Q01 fun w2 e2 => ?_⟩
    rw [add_add, add_blk] at e2
    have X : Ext (fun b => b = q) w w2 := (Ext.refl (fun b => b = q) w).x_set (q := q) (i := k + j) rfl (.inl rfl) e2
    have hb2 := hb.seti (k + j) (t := t) (v := v) rfl e2
    exact Q0H hb2 (by simp; omega) fun w' X' hb' => h w' (X.trans X') hb'
end
theorem Ext.x_puts {m : Nat → Prop} {w0 w w' : World} {q : Nat} (h : Ext m w0 w) (X : Ext (fun b => b = q) w w') (hq : m q ∨ w0.heap.size ≤ q) : Ext m w0 w' :=
  ⟨X.os.trans h.os, X.tape.trans h.tape, X.output.trans h.output, Nat.le_trans h.size X.size, fun b hb hm => by
    refine (X.block b (Nat.lt_of_lt_of_le hb h.size) fun e => ?_).trans (h.block b hb hm)
    subst e
    rcases hq with hq | hq
    · exact hm hq
    · omega⟩
theorem Blk.x_puts {w w' : World} {p q : Nat} {t : TypeId} {cs : List Value} (h : Blk w p t cs) (X : Ext (fun b => b = q) w w') (hne : p ≠ q) : Blk w' p t cs := h.ext X hne
end Go.Mx
namespace Go.Mx
def SeqQ : List (Nat × (World → List Value → Prop)) → World → List Value → Prop
  | [], _, cs => cs = []
  | q :: r, W, cs => ∃ x y, cs = x ++ y ∧ x.length = q.1 ∧ q.2 W x ∧ SeqQ r W y
def Q1D (P : Program) : List Field → Nat → List (Nat × (World → List Value → Prop)) → Nat → Prop
  | [], off, [], size => off = size
  | f :: r, off, q :: s, size => (f.offset = off ∧ P.cellsOf f.type = q.1 ∧ Opens P f.type q.2) ∧ Q1D P r (off + q.1) s size
  | _, _, _, _ => False
theorem seq_of {P : Program} {W : World} {cs : List Value} : ∀ {l : List Field} {off : Nat} {qs : List (Nat × (World → List Value → Prop))} {size : Nat}, Q1D P l off qs size → cs.length = size →
    (∀ (i : Nat) (f : Field), l[i]? = some f → ∀ Q, Opens P f.type Q → Q W ((cs.drop f.offset).take (P.cellsOf f.type))) → off ≤ cs.length → (∀ q ∈ qs, True) → SeqQ qs W (cs.drop off)
  | [], off, [], size, h, hl, _, _, _ => by
    simp only [Q1D] at h
    simp only [SeqQ]
    exact List.drop_eq_nil_of_le (by omega)
  | f :: r, off, q :: s, size, h, hl, hf, hle, _ => by
    obtain ⟨⟨h1, h2, h3⟩, h4⟩ := h
    have h0 := hf 0 f rfl q.2 h3
    rw [h1, h2] at h0
    have hsz : ∀ {l : List Field} {off : Nat} {qs : List (Nat × (World → List Value → Prop))}, Q1D P l off qs size → off ≤ size := by
      intro l
      induction l with
      | nil => intro off qs h; cases qs with | nil => exact Nat.le_of_eq h | cons _ _ => exact h.elim
      | cons f r ih => intro off qs h; cases qs with | nil => exact h.elim | cons q s => have := ih h.2; omega
    have hle2 := hsz h4
    refine ⟨(cs.drop off).take q.1, cs.drop (off + q.1), ?_, ?_, h0, ?_⟩
    · rw [← List.drop_drop, List.take_append_drop]
    · rw [List.length_take, List.length_drop]; omega
    · exact seq_of h4 hl (fun i f hi => hf (i + 1) f (by simpa using hi)) (by omega) (fun _ _ => trivial)
  | [], _, _ :: _, _, h, _, _, _, _ => h.elim
  | _ :: _, _, [], _, h, _, _, _, _ => h.elim
theorem Q41 {P : Program} {t : TypeId} {fs : Array Field} {size : Nat} {qs : List (Nat × (World → List Value → Prop))} (ht : P.underlying t = some (.struct fs)) (hs : P.cellsOf t = size) (h : Q1D P fs.toList 0 qs size) : Opens P t (SeqQ qs) :=
  (Q1d ht hs).mono fun W cs ⟨hl, hf⟩ => seq_of (off := 0) h hl (fun i f hi => hf i f (by rw [← Array.getElem?_toList]; exact hi)) (Nat.zero_le _) fun _ _ => trivial
theorem Q3H {P : Program} {t e : TypeId} {size : Nat} {α : Type} {f : α → List Value} {G : World → α → Prop} (ht : P.underlying t = some (.slice e)) (hs : P.cellsOf e = size) (he : Opens P e fun W cs => ∃ x, cs = f x ∧ G W x) :
    Opens P t fun W cs => ∃ (a : Option Addr) (c : Nat) (l : List α), cs = [.slice a l.length c] ∧ l.length ≤ c ∧ c ≤ maxLen ∧ RowAt W a (l.flatMap f) ∧ ∀ x ∈ l, G W x :=
  (Q1r (size := size) ht hs he).mono fun W cs ⟨a, l, c, rows, h1, h2, h3, h4, h5, h6⟩ => by
    obtain ⟨xs, h7, h8⟩ := rows_of (rows := rows) f (G W) fun r hr => (h6 r hr).2
    subst h7
    rw [List.length_map] at h4
    subst h4
    exact ⟨a, c, xs, h1, h2, h3, by rw [List.flatMap_def]; exact h5, h8⟩
section
variable {α : Type} {f : α → List Value} {n : Nat} {w : World} {a : Option Addr} {l : List α}
theorem Q2f (hf : ∀ x, (f x).length = n) (l : List α) : (l.flatMap f).length = l.length * n := by
  induction l with
  | nil => simp
  | cons x r ih => rw [List.flatMap_cons, List.length_append, ih, hf, List.length_cons, Nat.succ_mul]; omega
theorem Q3p (hf : ∀ x, (f x).length = n) : ∀ {l : List α} {i : Nat} {x : α}, l[i]? = some x → ∀ j, j < n → (l.flatMap f)[i * n + j]? = (f x)[j]?
  | [], i, x, hi, j, hj => by simp at hi
  | a :: r, 0, x, hi, j, hj => by
    simp only [List.getElem?_cons_zero, Option.some.injEq] at hi
    subst hi
    rw [List.flatMap_cons, Nat.zero_mul, Nat.zero_add, List.getElem?_append_left (by rw [hf]; exact hj)]
  | a :: r, i + 1, x, hi, j, hj => by
    simp only [List.getElem?_cons_succ] at hi
    rw [List.flatMap_cons, List.getElem?_append_right (by rw [hf, Nat.succ_mul]; omega), show (i + 1) * n + j - (f a).length = i * n + j by rw [hf, Nat.succ_mul]; omega]
    exact Q3p hf hi j hj
theorem Q1n {w : World} {ad : Addr} : ∀ {cs : List Value} {i : Nat}, (∀ j v, cs[j]? = some v → w.cell? (ad.add (i + j)) = some v) → cellsAt w ad cs i
  | [], _, _ => trivial
  | v :: r, i, h => ⟨h 0 v rfl, Q1n fun j u hu => by rw [show i + 1 + j = i + (j + 1) by omega]; exact h (j + 1) u hu⟩
theorem RowAt.fcell (hf : ∀ x, (f x).length = n) {ad : Addr} (h : RowAt w (some ad) (l.flatMap f)) {i : Nat} {x : α} (hi : l[i]? = some x) (j : Nat) {v : Value} (hv : (f x)[j]? = some v) : w.cell? ((ad.add (i * n)).add j) = some v := by
  rw [add_add]
  have hj : j < n := by rw [← hf x]; exact (List.getElem?_eq_some_iff.1 hv).1
  exact h.at_ ((Q3p hf hi j hj).trans hv)
theorem RowAt.floads (hf : ∀ x, (f x).length = n) {ad : Addr} (h : RowAt w (some ad) (l.flatMap f)) {i : Nat} {x : α} (hi : l[i]? = some x) : cellsAt w (ad.add (i * n)) (f x) 0 :=
  Q1n fun j v hv => by rw [Nat.zero_add]; exact h.fcell hf hi j hv
theorem RowAt.faddr (hf : ∀ x, (f x).length = n) (hn : 0 < n) (h : RowAt w a (l.flatMap f)) {i : Nat} (hi : i < l.length) : ∃ ad, a = some ad := h.addr fun e => by
  have := Q2f hf l
  rw [e, List.length_nil] at this
  rcases Nat.mul_eq_zero.1 this.symm with h | h <;> omega
end
end Go.Mx
namespace Go.Mx
section
variable {K K1 : Nat → Prop} {w w1 w' w0 : World} {o o1 o' o0 : Own} {p q j k N : Nat} {e : TypeId} {size n c : Nat} {a : Option Addr} {cs : List Value}
theorem Row.forget (h : Row w1 o1 a cs) (s : Step K w0 o0 w1 o1) : Row w1 (grow w0 o0) a cs := ⟨h.1, fun h0 ad ha => by
  by_cases hb : ad.block < w0.heap.size
  · rw [grow_lt hb, ← s.same _ hb]; exact h.2 h0 ad ha
  · exact grow_ge (by omega)⟩
def LRow (e size N : Nat) (w : World) (o : Own) (a : Option Addr) (n c : Nat) (cs : List Value) : Prop :=
  (a = none ∧ n = 0 ∧ c = 0 ∧ cs = []) ∨ ∃ k, N ≤ k ∧ k < w.heap.size ∧ Grows e size w o k a n c cs
theorem LRow.nil (e size N : Nat) (w : World) (o : Own) : LRow e size N w o none 0 0 [] := .inl ⟨rfl, rfl, rfl, rfl⟩
theorem LRow.row (h : LRow e size N w o a n c cs) : RowAt w a cs := by
  rcases h with ⟨rfl, rfl, rfl, rfl⟩ | ⟨k, _, _, h⟩
  · exact RowAt.nil _ _
  · exact h.row
theorem LRow.step (h : LRow e size N w o a n c cs) (s : Step K w o w' o') (hk : ∀ k, K k → k < N ∨ w.heap.size ≤ k) : LRow e size N w' o' a n c cs := by
  rcases h with h | ⟨k, h1, h2, h⟩
  · exact .inl h
  · exact .inr ⟨k, h1, Nat.lt_of_lt_of_le h2 s.size, h.step s fun hK => by rcases hk k hK with h | h <;> omega⟩
theorem LRow.push {P : Program} {t ty : TypeId} {i : TypeInfo} {z : Value} {bytes : Nat} (ht : P.underlying t = some (.slice e)) (hi : P.info? e = some i) (hz : i.zero = some z)
    (hsize : i.size = size) (hby : i.bytes = bytes) (hzs : z.cells.size = size) (hsz : 0 < size) (h : LRow e size N w o a n c cs) (ok : Tags w o) (hp : N ≤ p) (hp' : p < w.heap.size)
    {xa : Option Addr} {m xc : Nat} {news : List Value} (hl : news.length = m * size) (hnews : RowAt w xa news) (h1 : ∀ u ∈ news, u.oneCell' = true) (hb : (n + m) * bytes ≤ 140737488355328) (h63 : n + m ≤ 9223372036854775807) :
    ∃ a' c' w' o', (Builtin.append_ #[t, t] ty #[.slice a n c, .slice xa m xc]).run P w = .ok (.slice a' (n + m) c') w' ∧ Step (fun j => N ≤ j) w o w' o' ∧ LRow e size N w' o' a' (n + m) c' (cs ++ news) ∧ Ext (fun b => ∃ ad, a = some ad ∧ b = ad.block) w w' := by
  have key : ∀ k, N ≤ k → k < w.heap.size → Grows e size w o k a n c cs → _ := fun k hk hk' hg => hg.push (ty := ty) ht hi hz hsize hby hzs hsz ok hk' (xc := xc) hl hnews h1 hb h63
  have fin : ∀ k, N ≤ k → k < w.heap.size → Grows e size w o k a n c cs → ∃ a' c' w' o', (Builtin.append_ #[t, t] ty #[.slice a n c, .slice xa m xc]).run P w = .ok (.slice a' (n + m) c') w' ∧ Step (fun j => N ≤ j) w o w' o' ∧ LRow e size N w' o' a' (n + m) c' (cs ++ news) ∧ Ext (fun b => ∃ ad, a = some ad ∧ b = ad.block) w w' := fun k hk hk' hg => by
    obtain ⟨a', c', w', o', r1, r2, r3, r4, _⟩ := key k hk hk' hg
    refine ⟨a', c', w', o', r1, r2.mono fun j hj _ => by omega, .inr ⟨k, hk, Nat.lt_of_lt_of_le hk' r2.size, r3⟩, ⟨r2.ext.os, r2.ext.tape, r2.ext.output, r2.ext.size, fun b hb hn => r4 b hb fun ad ha hb' => hn ⟨ad, ha, hb'⟩⟩⟩
  rcases h with ⟨rfl, rfl, rfl, rfl⟩ | ⟨k, h1, h2, h⟩
  · exact fin p hp hp' (Grows.nil _ _ _ _ _)
  · exact fin k h1 h2 h
theorem LRow.give (h : LRow e size N w1 o1 a n c cs) (s : Step K w0 o0 w1 o1) (hN : w0.heap.size ≤ N) : Row w1 (grow w0 o0) a cs := ⟨h.row, fun h0 ad ha => by
  rcases h with ⟨rfl, _⟩ | ⟨k, h1, h2, h⟩
  · cases ha
  · refine grow_ge ?_
    have ht := h.tg ad ha
    by_cases hb : ad.block < w0.heap.size
    · rw [s.same _ hb] at ht
      have := s.ok0 _ _ hb ht.1
      omega
    · omega⟩
end
end Go.Mx
namespace Go.Proofs.Ytebghegecofmhaa
open Go Go.Mx Go.Proofs
abbrev Q0a.J1 (j8 : Option Addr) (j9 a6 : Nat) (R : RW) (a1 : World) : Prop :=
 thenW (a1.alloc (.cells #[] 5)) fun a5 =>
 ∃ (a4 : Option Addr) (a2 a3 : Nat) (a0 : World), (Builtin.append_ #[34, 34] 34 #[.slice (some (blk a1.heap.size)) 0 0, .slice j8 j9 a6]).run Try.prog a5 = .ok (.slice a4 a2 a3) a0 ∧
 R (.slice a4 a2 a3) a0

def Q0a.M (a0 : Option Addr) (a2 a1 : Nat) (R : RW) (w : World) : Prop :=
 bif Option.isNone a0 then (
 R (.slice none 0 0) w) else (
 Q0a.J1 a0 a2 a1 R w)

theorem Q0a.ok (a2 : Option Addr) (a1 a0 : Nat) {R : RW} {w : World} (h : Q0a.M a2 a1 a0 R w) : Calls Try.prog 34 #[.slice a2 a1 a0] w fun e w' => ∃ v, e = .returned v ∧ R v w' :=
  Q0m follows (H := []) (args := [.slice a2 a1 a0]) (cast (by kernel_rfl) h)

def Q0a.N (a1 : Option Addr) (a7 a6 : Nat) (R : RW) (w : World) : Prop :=
 (a1 = none →
 R (.slice none 0 0) w) ∧
 (a1 ≠ none →
 ∀ (a0 : World) (q4 : Nat), Ext no w a0 → Blk a0 q4 5 [] → w.heap.size ≤ q4 → q4 < a0.heap.size →
 ∃ (a2 : Option Addr) (a5 a4 : Nat) (a3 : World), (Builtin.append_ #[34, 34] 34 #[.slice (some (blk q4)) 0 0, .slice a1 a7 a6]).run Try.prog a0 = .ok (.slice a2 a5 a4) a3 ∧
 R (.slice a2 a5 a4) a3)

theorem Q0a.up (a0 : Option Addr) (a2 a1 : Nat) {R : RW} {w : World} (h : Q0a.N a0 a2 a1 R w) : Q0a.M a0 a2 a1 R w := by
  unfold Q0a.M
  unfold Q0a.N at h
  refine bif_of (fun c2 => ?_) (fun c2 => ?_)
  ·have h := h.1 (Q1j c2)
   exact h
  have h := h.2 (Q1i c2)
  unfold Q0a.J1
  refine Q01 fun a5 e3 => ?_
  have h := h a5 w.heap.size ((Ext.refl no w).x_alloc e3) (Blk.of_new e3) ((Ext.refl no w)).size (Q0C e3)
  obtain ⟨a4, a3, a6, a7, hr, h⟩ := h
  refine ⟨a4, a3, a6, a7, hr, ?_⟩
  exact h

theorem Q0a.go (a2 : Option Addr) (a1 a0 : Nat) {R : RW} {w : World} (h : Q0a.N a2 a1 a0 R w) : Calls Try.prog 34 #[.slice a2 a1 a0] w fun e w' => ∃ v, e = .returned v ∧ R v w' := Q0a.ok a2 a1 a0 (Q0a.up a2 a1 a0 h)
end Go.Proofs.Ytebghegecofmhaa