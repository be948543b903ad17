/- DiskSafe. -/
import Derived.Test.YtgelicciggjpaaaZB
import Derived.Test.YtgelicciggjpaaaZA
set_option linter.unusedVariables false
set_option linter.unusedSimpArgs false
set_option maxRecDepth 20000
set_option maxHeartbeats 4000000
namespace Go.Proofs.Ytgelicciggjpaaa
open Go Go.Mx Go.Proofs
open W (OwnB)
section
variable {K : Nat → Prop} {w w' w1 w2 : World} {o o' o1 o2 : Own} {g g2 m : Nat} {d : DS} {i : Int} {a : Option Addr} {n c : Nat}
theorem RdD.row {r : List UInt8 × Int} (h : RdD w o r a n c w' o') (s : Step no w' o' w2 o2) : RowAt w2 a (bytesV r.1) := by
  obtain ⟨h1, h2, h3, h4, h5⟩ := h
  by_cases hr : r.2 = 0
  · obtain ⟨q, t, ha, hb, hl, hq, ho⟩ := h5 hr
    subst ha
    have := (RowAt.of_blk (s.blk hb ho id)).take 64
    rwa [List.take_append_of_le_length (by rw [bytesV_length, hl]; exact Nat.le_refl _), List.take_of_length_le (by rw [bytesV_length, hl]; exact Nat.le_refl _)] at this
  · rw [(h4 hr).2]; exact RowAt.nil _ _
theorem RdD.st {r : List UInt8 × Int} (h : RdD w o r a n c w' o') : Step no w o w' o' := h.2.2.1
theorem RdD.nn {r : List UInt8 × Int} (h : RdD w o r a n c w' o') : n = r.1.length := h.1
theorem readD_len (d : DS) (i : Int) : (readD d i).1.length ≤ 64 := by
  unfold readD
  split
  · split
    · simp
    · rw [(readS d i).h]; exact Nat.le_refl _
  · simp
/-- a sector is made, and written. -/
theorem secWrite {Ψ : Int → World → Prop} {N x : Int} {short : Bool} {ad : Addr} (D : DG w o g d) (ok : Tags w o) (k : d.ok m) (hm : m < 100000) (hx : 0 ≤ x ∧ x < 256)
    (hcell : ∀ w' o', Step no w o w' o' → w'.cell? ad = some (.int .i64 N))
    (hΨ : ∀ w' o', Step (fun j => j = g) w o w' o' → DG w' o' g (writeD d N (secB x short)).1 → Ψ (writeD d N (secB x short)).2 w') :
    ∀ (ww41 : World), Ext no w ww41 → Calls Try.prog 11 #[.int .u8 x, .bool short] ww41 fun ee49 ww50 => ∃ (sector48a : Option Addr) (sector48n : Nat) (sector48c : Nat), ee49 = .returned (.slice sector48a sector48n sector48c) ∧
      ww50.cell? ad = some (.int .i64 N) ∧
      Calls Try.prog 10 #[.pointer (some (blk g)), .int .i64 N, .slice sector48a sector48n sector48c] ww50 fun ee53 ww54 => ∃ (write52 : Int), ee53 = .returned (.int .i64 write52) ∧ Ψ write52 ww54 := by
  intro w41 X41
  have s41 := Step.of_no X41 ok
  refine (Sector_spec s41.ok hx short).mono fun e w50 ⟨ba, bc, o50, he, s50', rb, _⟩ => ⟨_, _, _, he, ?_⟩
  have s50 := s41.trans s50'
  exact ⟨hcell _ _ s50, (dWrite_spec (D.step s50 id) s50.ok k hm N rb.1).mono fun e w54 ⟨he, o54, s54', D54⟩ => ⟨_, he, hΨ _ _ (s50.none.trans s54') D54⟩⟩
theorem writeD_noArm {N : Int} {b : List UInt8} (ha : d.armed = false) (hd : d.down = false) : (writeD d N b).1.armed = false ∧ (writeD d N b).1.down = false := by
  unfold writeD
  split
  · split
    · rw [ha]
      exact ⟨rfl, hd⟩
    · exact ⟨ha, hd⟩
  · exact ⟨ha, hd⟩
theorem writeD_pend {N : Int} {b : List UInt8} {x : Wt} (hx : x ∈ (writeD d N b).1.pend) : x ∈ d.pend ∨ (x.i = N ∧ 0 ≤ N ∧ N < d.good.length) := by
  have key : ∀ s : Sec, hasD d N = 0 → x ∈ d.pend ++ [⟨N, s⟩] → x ∈ d.pend ∨ (x.i = N ∧ 0 ≤ N ∧ N < d.good.length) := fun s h0 h => by
    rcases List.mem_append.1 h with h | h
    · exact .inl h
    · simp at h; subst h
      exact .inr ⟨rfl, (hasD_0 h0).2⟩
  unfold writeD at hx
  split at hx
  · rename_i h0
    split at hx
    · split at hx
      · split at hx
        · exact key _ h0 hx
        · exact key _ h0 hx
      · exact key _ h0 hx
    · exact .inl hx
  · exact .inl hx
theorem armD_same {n : Int} : (armD d n).1.good = d.good ∧ (armD d n).1.pend = d.pend := by
  unfold armD
  split
  · exact ⟨rfl, rfl⟩
  · split <;> exact ⟨rfl, rfl⟩
theorem settleL_at (k : Nat → Bool) {j : Nat} : ∀ (l : List Wt) (t : Nat) (gl : List Sec), (∀ x ∈ l, x.i.toNat ≠ j) → (settleL k t gl l)[j]? = gl[j]?
  | [], _, _, _ => rfl
  | x :: r, t, gl, h => by
    rw [settleL, settleL_at k r _ _ fun y hy => h y (by simp [hy])]
    split
    · exact List.getElem?_set_ne (h x (by simp))
    · rfl
theorem read_settled {d0 d2 : DS} {j : Nat} (h0 : d0.pend = []) (h2 : d2.pend = []) (hd0 : d0.down = false) (hd2 : d2.down = false) (hl : d2.good.length = d0.good.length) (hg : d2.good[j]? = d0.good[j]?) : readD d2 (j : Int) = readD d0 (j : Int) := by
  have e1 : hasD d2 j = hasD d0 j := by unfold hasD; rw [hd0, hd2, hl]
  have e2 : readS d2 j = readS d0 j := by unfold readS; rw [h0, h2, Int.toNat_natCast, hg]
  unfold readD
  rw [e1, e2]
/-- the main disk, its copy, and what was touched. -/
structure SI (W : World) (q qc qt : Nat) (d0 d : DS) (tl : List Bool) (w : World) (o : Own) : Prop where
  st : Step no W (fun _ => none) w o
  D : DG w o q d
  C : DG w o qc d0
  T : Blk w qt 37 (boolsV tl)
  tt : o qt = some qt
  tn : tl.length = 6
  good : d.good = d0.good
  pend : ∀ x ∈ d.pend, tl[x.i.toNat]? = some true
theorem SI.step {W : World} {q qc qt : Nat} {d0 d : DS} {tl : List Bool} (h : SI W q qc qt d0 d tl w o) (s : Step no w o w' o') : SI W q qc qt d0 d tl w' o' :=
  ⟨h.st.trans s, h.D.step s id, h.C.step s id, s.blk h.T h.tt id, by rw [s.own h.T.lt]; exact h.tt, h.tn, h.good, h.pend⟩
/-- the main disk turned. -/
theorem SI.turn {W : World} {q qc qt : Nat} {d0 d d2 : DS} {tl : List Bool} (h : SI W q qc qt d0 d tl w o) (hqW : W.heap.size ≤ q) (hqc : qc ≠ q) (hqt : qt ≠ q) (s : Step (fun j => j = q) w o w' o') (D : DG w' o' q d2) (hg : d2.good = d.good) (hp : ∀ x ∈ d2.pend, tl[x.i.toNat]? = some true) : SI W q qc qt d0 d2 tl w' o' :=
  ⟨h.st.trans' s fun j hj => .inr (by omega), D, h.C.step s hqc, s.blk h.T h.tt hqt, by rw [s.own h.T.lt]; exact h.tt, h.tn, hg.trans h.good, hp⟩
/-- a place is touched. -/
theorem SI.touch {W : World} {q qc qt : Nat} {d0 d : DS} {tl : List Bool} (h : SI W q qc qt d0 d tl w o) (hqW : W.heap.size ≤ qt) (hqc : qc ≠ qt) (hqt : q ≠ qt) {j : Nat} (hj : j < 6) :
    canStore w ((blk qt).add j) ∧ ∀ w', w' = w.setCell ((blk qt).add j) (.bool true) → ∃ o', SI W q qc qt d0 d (tl.set j true) w' o' := by
  have hjl : j < (boolsV tl).length := by unfold boolsV; rw [List.length_map, h.tn]; exact hj
  refine ⟨h.T.cana (List.getElem?_eq_getElem hjl), fun w' e => ?_⟩
  rw [add_blk] at e
  have X := (Ext.refl (fun b => b = qt) w).x_set (q := qt) (i := j) rfl (.inl rfl) e
  have b := h.T.seti j (v := .bool true) rfl e
  have s : Step (fun i => i = qt) w o w' (grow w o) := Step.of_ext X h.st.ok fun b hb _ => by subst hb; exact h.tt
  refine ⟨_, h.st.trans' s fun i hi => .inr (by omega), h.D.step s hqt, h.C.step s hqc, ?_, by rw [s.own h.T.lt]; exact h.tt, by rw [List.length_set]; exact h.tn, h.good, fun x hx => ?_⟩
  · have e2 : boolsV (tl.set j true) = (boolsV tl).set j (.bool true) := by unfold boolsV; rw [List.map_set]
    rw [e2]; exact b
  · have hp := h.pend x hx
    by_cases hxj : j = x.i.toNat
    · subst hxj
      rw [List.getElem?_set_self (by rw [h.tn]; exact hj)]
    · rw [List.getElem?_set_ne hxj]; exact hp
theorem DiskSafe_spec (W : World) {la ma ka : Option Addr} {lc mc kc : Nat} {l more : List DOp} {keep : List Bool} (hl : RowAt W la (l.flatMap DOp.C)) (hlg : ∀ p ∈ l, p.good W) (hm : RowAt W ma (more.flatMap DOp.C)) (hmg : ∀ p ∈ more, p.good W) (hk : RowAt W ka (boolsV keep)) :
    Calls Try.prog 3 #[.slice la l.length lc, .slice ma more.length mc, .slice ka keep.length kc] W (Ret (.bool true) fun w' => Ext no W w') := by
  refine cachettelaw09_DiskSafe.run _ _ _ _ _ _ _ _ _ ?_
  unfold cachettelaw09_DiskSafe.N
  have ok0 : Tags W (fun _ => none) := fun b j _ h => by cases h
  have fin : ∀ {w1 w' : World} {o1 : Own}, Step no W (fun _ => none) w1 o1 → Ext no w1 w' → Ext no W w' := fun s X => (s.ext.mono fun b ⟨_, _, h⟩ _ => h).trans X
  refine (light9_spec hl).mono fun e w13 ⟨he, hw⟩ => ⟨_, he, fun _ => ?_, fun hL => ?_⟩
  · subst hw
    exact (alive9_spec _).mono fun e w9 ⟨he, X⟩ => ⟨_, he, rfl, X⟩
  subst hw
  refine (light9_spec hm).mono fun e w13 ⟨he, hw⟩ => ⟨_, he, fun _ => ?_, fun hL2 => ⟨fun _ => ?_, fun hk60 => ?_⟩⟩
  · subst hw
    exact (alive9_spec _).mono fun e w9 ⟨he, X⟩ => ⟨_, he, rfl, X⟩
  · subst hw
    exact (alive9_spec _).mono fun e w9 ⟨he, X⟩ => ⟨_, he, rfl, X⟩
  subst hw
  obtain ⟨hl1, hl2⟩ := light9_of hL
  obtain ⟨hm1, hm2⟩ := light9_of hL2
  have hlr : Row w13 (fun _ => none) la (l.flatMap DOp.C) := ⟨hl, fun _ _ _ => rfl⟩
  have hmr : Row w13 (fun _ => none) ma (more.flatMap DOp.C) := ⟨hm, fun _ _ _ => rfl⟩
  have hkr : Row w13 (fun _ => none) ka (boolsV keep) := ⟨hk, fun _ _ _ => rfl⟩
  have k0 := newDS_ok (n := 6) (by decide) (by decide)
  refine (dNew_spec (n := 6) ok0 (by decide) (by decide)).mono fun e w25 ⟨q, o25, he, hq, s25, D25⟩ => ⟨_, _, he, fun h => absurd rfl h, fun _ => ?_⟩
  refine ⟨fun m vs w1 => ∃ (t : Nat) (d : DS) (o1 : Own), vs = [.int .i64 t] ∧ m + t = l.length ∧ Step no w13 (fun _ => none) w1 o1 ∧ DG w1 o1 q d ∧ d.ok t ∧ d.good.length = 6 ∧ d.armed = false ∧ d.down = false, l.length, ⟨0, _, o25, rfl, rfl, s25, D25, k0, rfl, rfl, rfl⟩, ?_⟩
  rintro m w30 i0 ⟨t, d, o30, hi, hmt, s30, D30, k30, h6, har, hdn⟩
  simp only [List.cons.injEq, Value.int.injEq, true_and, and_true] at hi
  subst hi
  refine ⟨fun ht => ?_, fun ht => ?_⟩
  · have htl : t < l.length := by omega
    have hg : l[t]? = some l[t] := List.getElem?_eq_getElem htl
    have hxg := hlg _ (List.getElem_mem htl)
    generalize l[t] = x at *
    obtain ⟨ad, rfl⟩ := hl.faddr DOp.len (by decide) htl
    have cell : ∀ {w1 : World} {o1 : Own} (j : Nat) {v : Value}, Step no w13 (fun _ => none) w1 o1 → x.C[j]? = some v → w1.cell? ((ad.add (Int.toNat (t : Int) * 5)).add j) = some v := fun j _ s hv => by rw [Int.toNat_natCast]; exact (hlr.step s).1.fcell DOp.len hg j hv
    refine ⟨ad, rfl, by omega, by omega, x.kd, cell 0 s30 rfl, fun hkd => ⟨by omega, by omega, x.n, cell 1 s30 rfl, by omega, by omega, x.by_, cell 2 s30 rfl, by omega, by omega, x.short, cell 3 s30 rfl, ?_⟩, fun hkd => ⟨by omega, by omega, m - 1, by omega, t + 1, d, o30, rfl, by omega, s30, D30, k30.up (by omega), h6, har, hdn⟩⟩
    refine secWrite D30 s30.ok k30 (by omega) hxg.bw (fun w' o' s => cell 1 (s30.trans s) rfl) fun w49 o49 s49 D49 => ⟨by omega, by omega, m - 1, by omega, t + 1, _, o49, rfl, by omega, s30.trans' s49 fun j hj => .inr (by omega), D49, writeD_ok k30 _ _, by rw [writeD_len]; exact h6, (writeD_noArm har hdn).1, (writeD_noArm har hdn).2⟩
  have hS : syncD d = (settleD d fun _ => true, 0) := by unfold syncD; rw [if_neg (by rw [hdn]; decide)]
  have k60 : (settleD d fun _ => true).ok t := settleD_ok k30 _
  refine (dSync_spec D30 s30.ok k30 (by omega)).mono fun e w54 ⟨he, o54, s54', D54⟩ => ⟨_, he, fun h => absurd (by rw [hS]) h, fun _ => ?_⟩
  have s54 : Step no w13 (fun _ => none) w54 o54 := s30.trans' s54' fun j hj => .inr (by omega)
  rw [hS] at D54
  have hpn : (settleD d fun _ => true).pend = [] := rfl
  have hdn0 : (settleD d fun _ => true).down = false := hdn
  have h60 : (settleD d fun _ => true).good.length = 6 := by show (settleL _ _ _ _).length = 6; rw [settleL_len]; exact h6
  generalize (settleD d fun _ => true) = d0 at *
  refine (dCopy_spec D54 s54.ok k60 (by omega)).mono fun e w58 ⟨qc, o58, he, hqc, s58', C58⟩ => ⟨_, he, fun w59 q60 X59 hb60 hq60 hq60' => ?_⟩
  have s58 := s54.trans s58'
  have hq54 := D54.lt
  have hC58 := C58.lt
  have h58 := s58'.size
  have s59' := (Step.of_no X59 s58.ok).tag (j := q60) hq60 hq60'
  have s59 := s58.trans s59'
  have I59 : SI w13 q qc q60 d0 d0 (List.replicate 6 false) w59 _ := ⟨s59, (D54.step s58' id).step s59' id, C58.step s59' id, hb60, tag_self, by simp, rfl, fun x hx => by rw [hpn] at hx; cases hx⟩
  refine ⟨fun m vs w1 => ∃ (u : Nat) (d : DS) (tl : List Bool) (o1 : Own), vs = [.int .i64 u] ∧ m + u = more.length ∧ SI w13 q qc q60 d0 d tl w1 o1 ∧ d.ok (t + u), more.length, ⟨0, d0, _, _, rfl, rfl, I59, k60⟩, ?_⟩
  rintro m2 w64 i0 ⟨u, d1, tl, o64, hi, hmu, I, k64⟩
  simp only [List.cons.injEq, Value.int.injEq, true_and, and_true] at hi
  subst hi
  have hsz13 := s54.size
  refine ⟨fun hu => ?_, fun hu => ?_⟩
  · have hul : u < more.length := by omega
    have hg : more[u]? = some more[u] := List.getElem?_eq_getElem hul
    have hxg := hmg _ (List.getElem_mem hul)
    generalize more[u] = x at *
    obtain ⟨ad, rfl⟩ := hm.faddr DOp.len (by decide) hul
    have cell : ∀ {w1 : World} {o1 : Own} (j : Nat) {v : Value}, Step no w13 (fun _ => none) w1 o1 → x.C[j]? = some v → w1.cell? ((ad.add (Int.toNat (u : Int) * 5)).add j) = some v := fun j _ s hv => by rw [Int.toNat_natCast]; exact (hmr.step s).1.fcell DOp.len hg j hv
    refine ⟨ad, rfl, by omega, by omega, x.kd, cell 0 I.st rfl, fun h3 => ?_, fun h3 => ?_⟩
    · refine ⟨by omega, by omega, x.n, cell 1 I.st rfl, (Arm_spec I.D I.st.ok x.n).mono fun e w74 ⟨he, o74, s74, D74⟩ => ⟨_, he, ?_⟩⟩
      have I74 := I.turn hq (by omega) (by omega) s74 D74 armD_same.1 (by rw [armD_same.2]; exact I.pend)
      exact ⟨by omega, by omega, x.kd, cell 0 I74.st rfl, fun h => by omega, fun _ => ⟨by omega, by omega, m2 - 1, by omega, u + 1, _, tl, o74, rfl, by omega, I74, (armD_ok k64 (by have := hxg.nw; omega)).up (by omega)⟩⟩
    · refine ⟨by omega, by omega, x.kd, cell 0 I.st rfl, fun h0 => ⟨by omega, by omega, x.n, cell 1 I.st rfl, fun hN0 => ⟨by omega, by omega, x.n, cell 1 I.st rfl, fun hN6 => ⟨by omega, by omega, x.n, cell 1 I.st rfl, hN0, hN6, ?_⟩, fun hN6 => ⟨by omega, by omega, x.n, cell 1 I.st rfl, by omega, by omega, x.by_, cell 2 I.st rfl, by omega, by omega, x.short, cell 3 I.st rfl, ?_⟩⟩, fun hN0 => ⟨by omega, by omega, x.n, cell 1 I.st rfl, by omega, by omega, x.by_, cell 2 I.st rfl, by omega, by omega, x.short, cell 3 I.st rfl, ?_⟩⟩, fun h0 => ⟨by omega, by omega, m2 - 1, by omega, u + 1, d1, tl, o64, rfl, by omega, I, k64.up (by omega)⟩⟩
      · have e1 : ((blk q60).add (Int.toNat x.n * 1)).add 0 = (blk q60).add x.n.toNat := by rw [add_add]; congr 1; omega
        obtain ⟨hcs, hst⟩ := I.touch (j := x.n.toNat) (by omega) (by omega) (by omega) (by omega)
        rw [e1]
        refine ⟨hcs, thenW_in fun w86 e86 => ?_⟩
        obtain ⟨o86, I86⟩ := hst w86 e86
        have hset : (tl.set x.n.toNat true)[x.n.toNat]? = some true := List.getElem?_set_self (by rw [I.tn]; omega)
        refine ⟨by omega, by omega, x.n, cell 1 I86.st rfl, by omega, by omega, x.by_, cell 2 I86.st rfl, by omega, by omega, x.short, cell 3 I86.st rfl, ?_⟩
        refine secWrite I86.D I86.st.ok k64 (by omega) hxg.bw (fun w' o' s => cell 1 (I86.st.trans s) rfl) fun w49 o49 s49 D49 => ⟨by omega, by omega, m2 - 1, by omega, u + 1, _, _, o49, rfl, by omega, I86.turn hq (by omega) (by omega) s49 D49 (writeD_len _ _) fun y hy => ?_, writeD_ok k64 _ _⟩
        rcases writeD_pend hy with h | ⟨h, _⟩
        · exact I86.pend y h
        · rw [h]; exact hset
      all_goals
        refine secWrite I.D I.st.ok k64 (by omega) hxg.bw (fun w' o' s => cell 1 (I.st.trans s) rfl) fun w49 o49 s49 D49 => ⟨by omega, by omega, m2 - 1, by omega, u + 1, _, _, o49, rfl, by omega, I.turn hq (by omega) (by omega) s49 D49 (writeD_len _ _) fun y hy => ?_, writeD_ok k64 _ _⟩
        rcases writeD_pend hy with h | ⟨_, h1, h2⟩
        · exact I.pend y h
        · rw [I.good, h60] at h2; omega
  · refine (dRestart_spec I.D I.st.ok k64 (by omega) (hkr.step I.st)).mono fun e w193 ⟨he, o193, s193, D193⟩ => ⟨_, he, ?_⟩
    have hp2 : (restartD d1 keep).pend = [] := rfl
    have hd2 : (restartD d1 keep).down = false := rfl
    have hgl : (restartD d1 keep).good = settleL (keepF keep) 0 d1.good d1.pend := rfl
    have st193 : Step no w13 (fun _ => none) w193 o193 := I.st.trans' s193 fun j hj => .inr (by omega)
    have C193 := I.C.step s193 (by omega)
    have T193 := s193.blk I.T I.tt (by omega)
    have t193 : o193 q60 = some q60 := by rw [s193.own I.T.lt]; exact I.tt
    have hgood := I.good
    have hpend := I.pend
    have htn := I.tn
    have hsame : ∀ j : Nat, tl[j]? = some false → readD (restartD d1 keep) (j : Int) = readD d0 (j : Int) := fun j hj => by
      refine read_settled hpn hp2 hdn0 hd2 (by rw [hgl, settleL_len, hgood]) ?_
      rw [hgl, settleL_at _ _ _ _ fun x hx hxj => ?_, hgood]
      have := hpend x hx
      rw [hxj, hj] at this; cases this
    generalize restartD d1 keep = d2 at *
    refine ⟨fun m vs w1 => ∃ (v : Nat) (o1 : Own), vs = [.int .i64 v] ∧ m + v = 6 ∧ Step no w193 o193 w1 o1, 6, ⟨0, _, rfl, rfl, Step.refl _ st193.ok⟩, ?_⟩
    rintro m3 w197 i0 ⟨v, o197, hi, hmv, s197⟩
    simp only [List.cons.injEq, Value.int.injEq, true_and, and_true] at hi
    subst hi
    refine ⟨fun hv => ?_, fun hv => ?_⟩
    · refine (dRead_spec (C193.step s197 id) s197.ok (v : Int) (by rw [hpn]; decide)).mono fun e w202 ⟨ra, rn, rc, o202, he, R1⟩ => ⟨_, _, _, _, he, ?_⟩
      have s202 := s197.trans R1.st
      refine (dRead_spec (D193.step s202 id) s202.ok (v : Int) (by rw [hp2]; decide)).mono fun e w206 ⟨sa, sn, sc, o206, he, R2⟩ => ⟨_, _, _, _, he, by omega, by omega, ?_⟩
      have s206 := s202.trans R2.st
      have hvl : v < tl.length := by omega
      have hgv : tl[v]? = some tl[v] := List.getElem?_eq_getElem hvl
      have hcell : w206.cell? ((blk q60).add (Int.toNat (v : Int) * 1)) = some (.bool tl[v]) := by
        have hb := s206.blk T193 t193 id
        rw [Int.toNat_natCast, Nat.mul_one]
        refine hb.celli v (add_blk _ _) ?_
        unfold boolsV
        rw [List.getElem?_map, hgv]; rfl
      refine ⟨_, hcell, fun hf => ?_, fun _ => ⟨by omega, by omega, m3 - 1, by omega, v + 1, _, rfl, by omega, s206⟩⟩
      have hsm := hsame v (by rw [hgv, hf])
      have hn1 := R1.nn
      have hn2 := R2.nn
      subst hn1; subst hn2
      refine ⟨fun h => absurd (by rw [hsm]) h, fun _ => ?_⟩
      refine (W.sameB_spec (R1.row R2.st) (R2.row (Step.refl _ R2.st.ok)) (by have := readD_len d0 v; omega)).mono fun e w213 ⟨he, X⟩ => ⟨_, he, fun h => absurd (by rw [hsm]) (of_decide_eq_false h), fun _ => ⟨by omega, by omega, m3 - 1, by omega, v + 1, _, rfl, by omega, s206.trans (Step.of_no X s206.ok)⟩⟩
    · have D197 := D193.step s197 id
      refine (Down_spec D197).mono fun e w219 ⟨he, hw⟩ => ⟨_, he, fun _ => ?_, fun h => by rw [hd2] at h; cases h⟩
      subst hw
      refine (Pending_spec D197).mono fun e w223 ⟨he, hw⟩ => ⟨_, he, fun _ => ?_, fun h => absurd (by rw [hp2]; rfl) h⟩
      subst hw
      exact (alive9_spec _).mono fun e w227 ⟨he, X⟩ => ⟨_, he, rfl, fin (st193.trans s197) X⟩
theorem DiskSafe_walk (W : World) (a0 : Option Addr) (len0 cap0 : Nat) (a1 : Option Addr) (len1 cap1 : Nat) (a2 : Option Addr) (len2 cap2 : Nat) (o0 : DOpsQ W [.slice a0 len0 cap0]) (o1 : DOpsQ W [.slice a1 len1 cap1]) (o2 : BoolsQ W [.slice a2 len2 cap2]) :
    Calls Try.prog 3 #[.slice a0 len0 cap0, .slice a1 len1 cap1, .slice a2 len2 cap2] W (Ret (.bool true) fun w' => Ext no W w') := by
  obtain ⟨_, c0, l, e0, p1, p2, r0, f0⟩ := o0
  obtain ⟨_, c1, m, e1, q1, q2, r1, f1⟩ := o1
  obtain ⟨_, c2, k, e2, k1, k2, r2⟩ := o2
  cases e0; cases e1; cases e2
  exact DiskSafe_spec W r0 f0 r1 f1 r2
end
end Go.Proofs.Ytgelicciggjpaaa

