/- ForkcheckChecks: what the law's function answers. -/
import Derived.Test.YtlfijjmjmgobhaaFckD
import Derived.Test.YtlfijjmjmgobhaaEntO
set_option linter.unusedVariables false
set_option linter.unusedSimpArgs false
set_option maxRecDepth 20000
set_option maxHeartbeats 2000000
namespace Go.Proofs.Ytlfijjmjmgobhaa
open Go Go.Mx Go.Proofs
open W (OwnB GivesW numR countR doneR zig unzig intR)
theorem ForkcheckChecks_spec (w : World) {da ea fa : Option Addr} {dc ec fc : Nat} {d : List Int} {a b : Ent} {x y : Int} (hd : ∀ x ∈ d, 0 ≤ x ∧ x < 18446744073709551616) (hda : RowAt w da (d.map u64V)) (hdc : d.length ≤ dc) (hef : a.fit) (hff : b.fit) (he : RowAt w ea (bytesV a.body)) (hec : a.body.length ≤ ec) (hf : RowAt w fa (bytesV b.body)) (hfc : b.body.length ≤ fc) :
    Calls Try.prog 3 #[.slice da d.length dc, entV a ea ec, entV b fa fc, .int .i64 x, .int .i64 y] w (Ret (.bool true) fun w' => Ext no w w') := by
  refine cachettelaw23_ForkcheckChecks.run da d.length dc a.w a.i a.pv a.t a.tw a.ep ea a.body.length ec a.sg b.w b.i b.pv b.t b.tw b.ep fa b.body.length fc b.sg x y ?_
  unfold cachettelaw23_ForkcheckChecks.N
  have hal : ∀ w1, Ext no w w1 → Calls Try.prog 9 #[] w1 fun e w' => ∃ v : Bool, e = .returned (.bool v) ∧ (fun v w' => v = Value.bool true ∧ Ext no w w') (.bool v) w' := fun w1 hx =>
    (alive23_spec w1).mono fun e w' ⟨he, hw⟩ => ⟨true, he, rfl, hx.trans hw⟩
  refine ⟨fun h w21 X => hal _ X, fun h5 w28 q29 p30 p31 X28 hb29 hq29 hq29' hp => ?_⟩
  have ok0 : Tags w (fun _ => none) := fun b j _ h => by cases h
  have s28 := Step.of_no X28 ok0
  have F28 : Free [p30, p31] w28 (grow w fun _ => none) := fun p hp' => ⟨by have := (hp p hp').2; omega, grow_ge (hp p hp').1⟩
  have re : Row w (fun _ => none) ea (bytesV a.body) := ⟨he, fun _ _ _ => rfl⟩
  have rf : Row w (fun _ => none) fa (bytesV b.body) := ⟨hf, fun _ _ _ => rfl⟩
  have rd : Row w (fun _ => none) da (d.map u64V) := ⟨hda, fun _ _ _ => rfl⟩
  refine (short_spec (l := [⟨a, ea, ec⟩, ⟨b, fa, fc⟩]) (c := 2) (RowAt.of_blk hb29) (by simp)).mono fun v w34 ⟨hx, hw⟩ => ⟨_, hx, by subst hw; exact Keep.refl _ _, fun h => ?_, fun hs => ?_⟩
  · subst hw; exact hal _ X28
  subst hw
  have hs15 : a.body.length ≤ 1500 ∧ b.body.length ≤ 1500 := by simpa using hs
  refine (NewO s28.ok (hda.no X28) (by omega)).mono fun v w41 ⟨k, o41, hx, hk, s41', P41⟩ => ⟨_, hx, F28.keep s41', fun w42 j X42 hb42 hj hj' => ?_⟩
  have s41 := s28.trans s41'
  have F41 := F28.step s41'
  have hk41 := P41.lt
  obtain ⟨o42, s42', R42⟩ := ROrc.init X42 hb42 hj hj' s41.ok (rd.step s41) hdc
  have s42 := s41.trans s42'
  have F42 := F41.step s42'
  have hkj : k ≠ j := by omega
  have T42 : Two w42 o42 k j (OS.init d) d [] 0 := ⟨P41.step s42' id, R42, Sim.init hd, OInv.init hd, ⟨hd, by simp, fun r hr => by cases hr⟩, s42.ok, hkj⟩
  have l28 := X28.size
  have both : ∀ {w1 w2 : World} {o1 o2 : Own}, Step no w (fun _ => none) w1 o1 → Step (fun i => i = k ∨ i = j) w1 o1 w2 o2 → Step no w (fun _ => none) w2 o2 := fun h1 h2 => h1.trans' h2 fun i hi => .inr (by have := s41'.size; omega)
  -- two pairs of the program's, two of the reference's
  refine (PairO T42.p T42.ok T42.sim.ok (by have := T42.len; omega)).mono fun v w47 ⟨o47, hx, s47, P47⟩ => ⟨_, _, hx, F42.keep s47, ?_⟩
  obtain ⟨e1, m1⟩ := pair_sim T42.sim
  have i1 := (pair_inv T42.inv).1
  have f1 := T42.fine.pair
  have ul1 := (pairOf_ok T42.sim.ok).2
  refine (PairO P47 s47.ok i1.ok (by have := T42.len; omega)).mono fun v w51 ⟨o51, hx, s51, P51⟩ => ⟨_, _, hx, (F42.step s47).keep s51, ?_⟩
  obtain ⟨e2, m2⟩ := pair_sim m1
  have i2 := (pair_inv i1).1
  have f2 := f1.pair
  have F51 := (F42.step s47).step s51
  have s4751 := s47.trans s51
  have R51 := T42.r.step s4751 (fun e => hkj e.symm)
  refine (rPair_spec R51 (T42.fine.rok s51.ok (by omega)) (by simp)).mono fun v w55 ⟨o55, hx, s55, R55⟩ => ⟨_, _, hx, F51.keep s55, ?_⟩
  refine (rPair_spec R55 (f1.rok s55.ok (by omega)) (by have := f1.short; omega)).mono fun v w59 ⟨o59, hx, s59, R59⟩ => ⟨_, _, hx, (F51.step s55).keep s59, ?_⟩
  obtain ⟨T59, s59'⟩ := T42.turn s4751 P51 (s55.trans s59) R59 m2 i2 f2
  have s59 := both s42 s59'
  rw [← e1, ← e2] at *
  generalize pairR (pairR d []).2.1 (pairR d []).2.2 = PR at *
  generalize pairOf (pairOf (OS.init d)).2 = PP at *
  intro w60 q61 X60 hb61 hq61 hq61' w62 q63 X62 hb63 hq63 hq63'
  have s60' := (Step.of_no X60 s59.ok).tag hq61 hq61'
  have s62' := Step.of_no X62 s60'.ok
  have s6062 := s60'.trans s62'
  have T62 := T59.step s6062
  have s62 := s59.trans s6062
  have hb62 := hb61.ext X62 id
  have k59 := T59.p.lt
  have j59 := T59.r.lt
  have sz59 := s59.size
  have hq61k : q61 ≠ k := by omega
  have hq61j : q61 ≠ j := by omega
  have hxr : Row w62 (grow w60 (tag (grow w59 o59) q61 q61)) (some (blk q63)) ([x, y].map i64V) := Row.fresh (RowAt.of_blk hb63) fun ad ha => by cases ha; exact hq63
  have hjw : w.heap.size ≤ j := by have := s41.size; omega
  refine ⟨fun q' vs w1 => ∃ t : Nat, vs = [.int .i64 t] ∧ q' + t = 2 ∧ ChkI w k j q61 q63 [x, y] (4 + t) w1, 2, ⟨0, rfl, rfl, _, _, _, _, [⟨a, ea, ec⟩, ⟨b, fa, fc⟩], s62, T62, hb62, ?_, rfl, fun p hp => ?_, hxr⟩, ?_⟩
  · rw [grow_lt (by omega)]; exact tag_self
  · simp only [List.mem_cons, List.not_mem_nil, or_false] at hp
    rcases hp with rfl | rfl
    · exact ⟨⟨re.step s62, hec, hef⟩, hs15.1⟩
    · exact ⟨⟨rf.step s62, hfc, hff⟩, hs15.2⟩
  rintro m w67 i ⟨t, hi, hm, hC⟩
  simp only [List.cons.injEq, Value.int.injEq, true_and, and_true] at hi
  subst hi
  have hx2 : ∀ (h : t < 2), ([x, y].map i64V)[t]? = some (i64V ([x, y][t]'h)) := fun h => by rw [List.getElem?_map, List.getElem?_eq_getElem h]; rfl
  refine ⟨fun ht => ?_, fun ht => ?_⟩
  · have ht : t < 2 := by omega
    have step := fun sec => chk_ok (xs := [x, y]) rfl (by omega) hjw (by omega) hq61k hq61j ht hm sec hC
    obtain ⟨_, _, _, _, _, _, _, _, _, _, _, hr⟩ := hC
    exact ⟨by omega, by omega, [x, y][t], by rw [Int.toNat_natCast, Nat.mul_one]; exact hr.1.at_ (hx2 ht), fun _ => step _, fun _ => step _⟩
  · obtain rfl : t = 2 := by omega
    obtain ⟨o67, S, d', L, l, s67, T67, hb67, hoq, hl, hok, hr⟩ := hC
    match l, hl with
    | [p0, p1], _ =>
      obtain ⟨h0, h015⟩ := hok p0 (by simp)
      obtain ⟨h1, h115⟩ := hok p1 (by simp)
      have l0 := PE.loads (RowAt.of_blk hb67) rfl (i := 0) (x := p0) rfl
      have l1 := PE.loads (RowAt.of_blk hb67) rfl (i := 1) (x := p1) rfl
      refine ⟨p0.e.w, p0.e.i, p0.e.pv, p0.e.t, p0.e.tw, p0.e.ep, p0.a, p0.e.body.length, p0.c, p0.e.sg, l0, p1.e.w, p1.e.i, p1.e.pv, p1.e.t, p1.e.tw, p1.e.ep, p1.a, p1.e.body.length, p1.c, p1.e.sg, l1,
        p0.e.w, p0.e.i, p0.e.pv, p0.e.t, p0.e.tw, p0.e.ep, p0.a, p0.e.body.length, p0.c, p0.e.sg, l0, p1.e.w, p1.e.i, p1.e.pv, p1.e.t, p1.e.tw, p1.e.ep, p1.a, p1.e.body.length, p1.c, p1.e.sg, l1, fun w234 X234 => ?_⟩
      have s234' := Step.of_no X234 T67.ok
      refine (Check_spec (a := p0.e) (b := p1.e) (T67.p.step s234' id) s234'.ok _ (fun _ => h0.2.2) (fun _ => h1.2.2) (h0.1.step s234').1 (h1.1.step s234').1).mono fun v w273 ⟨hx, X273⟩ => ⟨_, hx, ?_⟩
      have s273' := s234'.trans (Step.of_no X273 s234'.ok)
      have hb273 := (hb67.ext X234 id).ext X273 id
      refine ⟨PE.loads (RowAt.of_blk hb273) rfl (i := 1) (x := p1) rfl, PE.loads (RowAt.of_blk hb273) rfl (i := 0) (x := p0) rfl, ?_⟩
      refine (rCheck_spec (a := p0.e) (b := p1.e) (T67.r.step s273' id) (T67.fine.rok s273'.ok (by omega)) _ (fun _ => h0.2.2) (fun _ => h1.2.2) (h0.1.step s273').1 (h1.1.step s273').1 (by omega)).mono fun v w278 ⟨hx, X278⟩ => ⟨_, hx, fun _ => hal _ ?_, fun h => absurd (check_sim T67.sim _ _ _).symm h⟩
      exact (((s67.ext.mono fun b ⟨_, h, _⟩ _ => by cases h).trans X234).trans X273).trans X278
theorem ForkcheckChecks_walk (W : World) (a0 : Option Addr) (len0 cap0 : Nat) (cs1 cs2 : Array Value) (n3 n4 : Int) (o0 : IntsQ .u64 W [.slice a0 len0 cap0]) (o1 : EntQ W cs1.toList) (o2 : EntQ W cs2.toList) (w3 : (Lit.int .i64 n3).wf = true) (w4 : (Lit.int .i64 n4).wf = true) :
    Calls Try.prog 3 #[.slice a0 len0 cap0, .agg cs1, .agg cs2, .int .i64 n3, .int .i64 n4] W (Ret (.bool true) fun w' => Ext no W w') := by
  obtain ⟨_, c0, d, e0, l0, _, r0, f0⟩ := o0
  cases e0
  obtain ⟨e, ea, ec, h1, f1, _, l1, _, r1⟩ := o1
  obtain ⟨f, fa, fc, h2, f2, _, l2, _, r2⟩ := o2
  rw [ent_of h1, ent_of h2]
  exact ForkcheckChecks_spec W (fun x hx => wf_u64 (f0 x hx)) r0 l0 f1 f2 r1 l1 r2 l2
end Go.Proofs.Ytlfijjmjmgobhaa
