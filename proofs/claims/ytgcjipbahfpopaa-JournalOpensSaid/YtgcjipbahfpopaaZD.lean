/- Journal: plainly: a record that was written stands; what stands ahead stays. -/
import Derived.Test.YtgcjipbahfpopaaZC
set_option linter.unusedVariables false
set_option linter.unusedSimpArgs false
set_option maxRecDepth 20000
set_option maxHeartbeats 2000000
namespace Go.Proofs.Ytgcjipbahfpopaa
open Go Go.Mx Go.Proofs
theorem frameL_len (gen round seq : Nat) (b : List UInt8) : (frameL gen round seq b).length = partsN b.length := by unfold frameL; simp
theorem partsN_pos {n : Nat} (h : n ≤ 4000) : 1 ≤ partsN n := by
  unfold partsN
  rw [if_neg (by omega)]
  split <;> omega
theorem partsN_cover {n : Nat} (h : n ≤ 4000) : n ≤ 48 * partsN n := by
  unfold partsN
  rw [if_neg (by omega)]
  split <;> omega
theorem parts_join (b : List UInt8) : ∀ k : Nat, (List.range k).flatMap (partL b) = b.take (48 * k)
  | 0 => by simp
  | k + 1 => by
    rw [List.range_succ, List.flatMap_append, parts_join b k]
    simp only [List.flatMap_cons, List.flatMap_nil, List.append_nil]
    unfold partL
    rw [show 48 * (k + 1) = 48 * k + 48 by omega, List.take_add]
theorem body_sec (gen round seq i n : Nat) {x : List UInt8} (h : x.length ≤ 48) : bodyS (secL gen round seq i n x) = x := by
  have e15 : byteN (secL gen round seq i n x) 15 = x.length := by
    show (UInt8.ofNat x.length).toNat = _
    rw [UInt8.toNat_ofNat']; omega
  unfold bodyS
  rw [e15]
  unfold secL
  rw [List.append_assoc, List.drop_append_of_le_length (by rw [headL_len]; exact Nat.le_refl _), List.drop_of_length_le (by rw [headL_len]; exact Nat.le_refl _), List.nil_append, List.take_left]
theorem sec_round (gen round seq i n : Nat) (x : List UInt8) (h : round < 4294967296) : numB (secL gen round seq i n x) 5 = round := by
  show (UInt8.ofNat (round / 16777216)).toNat * 16777216 + (UInt8.ofNat (round / 65536)).toNat * 65536 + (UInt8.ofNat (round / 256)).toNat * 256 + (UInt8.ofNat round).toNat = round
  simp only [UInt8.toNat_ofNat']
  omega
/-- a frame at the beginning is a record. -/
theorem frame_stands {gen round seq : Nat} {b : List UInt8} (hg : gen ≠ 0) (hr : round ≠ 0) (hr2 : round < 4294967296) (hb : b.length ≤ 4000) (rest : List (List UInt8)) :
    standK (frameL gen round seq b ++ rest) gen seq = (b, partsN b.length) := by
  have hp := partsN_pos hb
  have h84 := partsN_le b.length
  have hlen := frameL_len gen round seq b
  have hhead : (frameL gen round seq b ++ rest).headD [] = secL gen round seq 0 (partsN b.length) (partL b 0) := by
    unfold frameL
    obtain ⟨k, hk⟩ := Nat.exists_eq_add_of_le' hp
    rw [hk, List.range_succ_eq_map]
    rfl
  have hcnt : cntK (frameL gen round seq b ++ rest) = partsN b.length := by
    unfold cntK
    rw [hhead]
    show (UInt8.ofNat (partsN b.length)).toNat = _
    rw [UInt8.toNat_ofNat']; omega
  have htake : (frameL gen round seq b ++ rest).take (partsN b.length) = frameL gen round seq b := by rw [← hlen, List.take_left]
  have hbody : bodyK (frameL gen round seq b ++ rest) = b := by
    unfold bodyK
    rw [hcnt, htake]
    unfold frameL
    rw [List.flatMap_map]
    have : (fun i => bodyS (secL gen round seq i (partsN b.length) (partL b i))) = partL b := funext fun i => body_sec _ _ _ _ _ (partL_le _ _)
    rw [this, parts_join, List.take_of_length_le (partsN_cover hb)]
  have hK : frameK gen round seq b = (frameL gen round seq b, 0) := by
    unfold frameK
    rw [if_neg (by omega), if_neg (by omega)]
  have hOK : OKS (frameL gen round seq b ++ rest) gen seq := by
    refine ⟨fun e => ?_, ?_, ?_, ?_, ?_⟩
    · have := congrArg List.length e
      rw [List.length_append, hlen] at this
      simp at this; omega
    · rw [hhead]; exact secL_len _ _ _ _ _ (partL_le _ _)
    · rw [hcnt, List.length_append, hlen]; omega
    · rw [hcnt, htake]
      intro s hs
      unfold frameL at hs
      obtain ⟨i, _, rfl⟩ := List.mem_map.1 hs
      refine ⟨secL_len _ _ _ _ _ (partL_le _ _), ?_⟩
      show (UInt8.ofNat (partL b i).length).toNat ≤ 48
      have := partL_le b i
      rw [UInt8.toNat_ofNat']; omega
    · rw [hcnt, htake, hhead, hbody, sec_round _ _ _ _ _ _ hr2]
      exact hK
  rw [standK_yes hOK, hbody, hcnt]
/-- a record needs its own sectors only. -/
theorem stand_more {L : List (List UInt8)} {gen seq : Nat} (h : OKS L gen seq) (X : List (List UInt8)) : standK (L.take (cntK L) ++ X) gen seq = standK L gen seq := by
  have hc := h.cnt
  have hle := h.2.2.1
  have hhead : (L.take (cntK L) ++ X).headD [] = L.headD [] := by
    have h0 := h.1
    generalize cntK L = c at *
    cases L with
    | nil => exact absurd rfl h0
    | cons x r =>
      obtain ⟨k, rfl⟩ := Nat.exists_eq_succ_of_ne_zero hc
      rfl
  have hcnt : cntK (L.take (cntK L) ++ X) = cntK L := by
    show byteN ((L.take (cntK L) ++ X).headD []) 14 = _
    rw [hhead]; rfl
  have htake : (L.take (cntK L) ++ X).take (cntK L) = L.take (cntK L) := by
    have e : (L.take (cntK L)).length = cntK L := by rw [List.length_take]; omega
    conv => lhs; rw [← e]
    rw [e, List.take_append_of_le_length (by omega), List.take_of_length_le (by omega)]
  have hbody : bodyK (L.take (cntK L) ++ X) = bodyK L := by
    unfold bodyK
    rw [hcnt, htake]
  have hOK : OKS (L.take (cntK L) ++ X) gen seq := by
    obtain ⟨h1, h2, h3, h4, h5⟩ := h
    refine ⟨fun e => ?_, by rw [hhead]; exact h2, ?_, ?_, ?_⟩
    · have h9 := congrArg List.length e
      rw [List.length_append, List.length_take, Nat.min_eq_left hle] at h9
      have h8 : cntK L + X.length = 0 := h9
      omega
    · rw [hcnt, List.length_append, List.length_take, Nat.min_eq_left hle]; omega
    · rw [hcnt, htake]; exact h4
    · rw [hcnt, htake, hhead, hbody]; exact h5
  rw [standK_yes hOK, standK_yes h, hcnt, hbody]
/-- a scan of what stands ahead, and something else behind. -/
theorem scan_more (gen : Nat) : ∀ (k : Nat) (L : List (List UInt8)) (s : Nat) (k2 : Nat) (X : List (List UInt8)),
    scanG gen ((scanG gen k L s).1.length + k2) (L.take (scanG gen k L s).2 ++ X) s = ((scanG gen k L s).1 ++ (scanG gen k2 X (s + (scanG gen k L s).1.length)).1, (scanG gen k L s).2 + (scanG gen k2 X (s + (scanG gen k L s).1.length)).2)
  | 0, L, s, k2, X => by simp [scanG]
  | k + 1, L, s, k2, X => by
    by_cases h : (standK L gen s).2 = 0
    · have e : scanG gen (k + 1) L s = ([], 0) := by simp only [scanG, h, if_true]
      rw [e]; simp
    · have hO : OKS L gen s := by
        by_cases hO : OKS L gen s
        · exact hO
        · rw [standK_no hO] at h; exact absurd rfl h
      have hn : (standK L gen s).2 = cntK L := by rw [standK_yes hO]
      have hle := standK_le L gen s
      obtain ⟨R, hR⟩ : ∃ R, scanG gen k (L.drop (standK L gen s).2) (s + 1) = R := ⟨_, rfl⟩
      have ih := scan_more gen k (L.drop (standK L gen s).2) (s + 1) k2 X
      rw [hR] at ih
      have e : scanG gen (k + 1) L s = ((standK L gen s).1 :: R.1, (standK L gen s).2 + R.2) := by simp only [scanG, if_neg h, hR]
      rw [e]
      have hcut : L.take ((standK L gen s).2 + R.2) ++ X = L.take (cntK L) ++ ((L.drop (cntK L)).take R.2 ++ X) := by
        rw [hn, List.take_add, List.append_assoc]
      have hS : standK (L.take ((standK L gen s).2 + R.2) ++ X) gen s = standK L gen s := by rw [hcut, stand_more hO]
      have hd : (L.take ((standK L gen s).2 + R.2) ++ X).drop (standK L gen s).2 = (L.drop (standK L gen s).2).take R.2 ++ X := by
        rw [hcut, hn]
        have e9 : (L.take (cntK L)).length = cntK L := by rw [List.length_take]; omega
        conv => lhs; rw [← e9]
        rw [e9, List.drop_append_of_le_length (by omega), List.drop_of_length_le (by omega), List.nil_append]
      show scanG gen (R.1.length + 1 + k2) _ s = _
      rw [show R.1.length + 1 + k2 = (R.1.length + k2) + 1 by omega]
      simp only [scanG, hS, hd, if_neg h, ih, List.length_cons, List.cons_append, Prod.mk.injEq, List.cons.injEq, true_and]
      rw [show s + (R.1.length + 1) = s + 1 + R.1.length by omega]
      exact ⟨rfl, by omega⟩
/-- more fuel than sectors changes nothing. -/
theorem scan_fuel (gen : Nat) : ∀ (k : Nat) (L : List (List UInt8)) (s : Nat) (k2 : Nat), L.length < k → L.length < k2 → scanG gen k L s = scanG gen k2 L s
  | 0, L, s, k2, h, _ => by omega
  | k + 1, L, s, 0, _, h => by omega
  | k + 1, L, s, k2 + 1, h, h2 => by
    by_cases hz : (standK L gen s).2 = 0
    · simp only [scanG, hz, if_true]
    · have hle := standK_le L gen s
      have := scan_fuel gen k (L.drop (standK L gen s).2) (s + 1) k2 (by rw [List.length_drop]; omega) (by rw [List.length_drop]; omega)
      simp only [scanG, if_neg hz, this]
/-- a record that is written where a scan ended. -/
theorem scan_append {L X rest : List (List UInt8)} {gen round : Nat} {b : List UInt8} (hg : gen ≠ 0) (hr : round ≠ 0) (hr2 : round < 4294967296) (hb : b.length ≤ 4000)
    (hX : X = L.take (scanK L gen).1.2 ++ (frameL gen round (scanK L gen).1.1.length b ++ rest)) :
    ∃ R, (scanK X gen).1.1 = (scanK L gen).1.1 ++ b :: R := by
  obtain ⟨S, hS⟩ : ∃ S, scanG gen (L.length + 1) L 0 = S := ⟨_, rfl⟩
  have hK : (scanK L gen).1 = S := hS
  rw [hK] at hX ⊢
  have hp := partsN_pos hb
  have hle := scanG_le gen (L.length + 1) L 0
  rw [hS] at hle
  have hm := scan_more gen (L.length + 1) L 0 (X.length + 1) (frameL gen round S.1.length b ++ rest)
  rw [hS, ← hX, Nat.zero_add] at hm
  have hf := scan_fuel gen (X.length + 1) X 0 (S.1.length + (X.length + 1)) (by omega) (by omega)
  show ∃ R, (scanG gen (X.length + 1) X 0).1 = S.1 ++ b :: R
  rw [hf, hm]
  have hst := frame_stands (seq := S.1.length) hg hr hr2 hb rest
  simp only [scanG, hst, if_neg (show ¬ partsN b.length = 0 by omega)]
  exact ⟨_, rfl⟩
theorem scan_first {X rest : List (List UInt8)} {gen round : Nat} {b : List UInt8} (hg : gen ≠ 0) (hr : round ≠ 0) (hr2 : round < 4294967296) (hb : b.length ≤ 4000)
    (hX : X = frameL gen round 0 b ++ rest) : ∃ R, (scanK X gen).1.1 = b :: R := by
  have hp := partsN_pos hb
  have hst := frame_stands (seq := 0) hg hr hr2 hb rest
  rw [← hX] at hst
  show ∃ R, (scanG gen (X.length + 1) X 0).1 = b :: R
  simp only [scanG, hst, if_neg (show ¬ partsN b.length = 0 by omega)]
  exact ⟨_, rfl⟩
end Go.Proofs.Ytgcjipbahfpopaa

/- Journal: plainly: what a disk that is not armed has behind writes. -/
set_option linter.unusedVariables false
set_option linter.unusedSimpArgs false
set_option maxRecDepth 20000
set_option maxHeartbeats 2000000
namespace Go.Proofs.Ytgcjipbahfpopaa
open Go Go.Mx Go.Proofs
def Up (d : DS) : Prop := d.down = false ∧ d.armed = false
theorem hasD_up {d : DS} (h : d.down = false) {i : Int} (h0 : 0 ≤ i) (h1 : i < d.good.length) : hasD d i = 0 := by
  unfold hasD
  rw [h]
  rw [if_neg (by decide), if_neg (by omega)]
theorem write_up {d : DS} (h : Up d) {i : Int} (h0 : 0 ≤ i) (h1 : i < d.good.length) {b : List UInt8} (hb : b.length = 64) :
    writeD d i b = ({ d with pend := d.pend ++ [⟨i, ⟨b, false, hb⟩⟩], count := d.count + 1 }, 0) := by
  unfold writeD
  rw [if_pos (hasD_up h.1 h0 h1), dif_pos hb, h.2]
  rfl
theorem read_write {d : DS} (h : Up d) {i : Int} (h0 : 0 ≤ i) (h1 : i < d.good.length) {b : List UInt8} (hb : b.length = 64) (j : Int) :
    readD (writeD d i b).1 j = if j = i then (b, 0) else readD d j := by
  rw [write_up h h0 h1 hb]
  have hs : readS { d with pend := d.pend ++ [⟨i, ⟨b, false, hb⟩⟩], count := d.count + 1 } j = if i = j then ⟨b, false, hb⟩ else readS d j := lastP_snoc j _ _ _
  have hh : hasD { d with pend := d.pend ++ [⟨i, ⟨b, false, hb⟩⟩], count := d.count + 1 } j = hasD d j := rfl
  unfold readD
  rw [hs, hh]
  by_cases e : j = i
  · subst e
    rw [if_pos (hasD_up h.1 h0 h1), if_pos rfl, if_pos rfl]; rfl
  · rw [if_neg (show ¬ i = j from fun e2 => e e2.symm), if_neg e]
theorem settle_all {j : Nat} : ∀ (l : List Wt) (t : Nat) (gl : List Sec), j < gl.length → (∀ x ∈ l, 0 ≤ x.i) → (settleL (fun _ => true) t gl l)[j]?.getD Sec.z = lastP j (gl[j]?.getD Sec.z) l
  | [], _, _, _, _ => rfl
  | x :: r, t, gl, hj, hx => by
    have hx0 := hx x (by simp)
    rw [settleL, if_pos rfl, settle_all r _ _ (by rw [List.length_set]; exact hj) fun y hy => hx y (by simp [hy])]
    show _ = lastP (j : Int) (if x.i = (j : Int) then x.s else gl[j]?.getD Sec.z) r
    congr 1
    by_cases e : x.i = (j : Int)
    · rw [if_pos e, show x.i.toNat = j by omega, List.getElem?_set_self hj]; rfl
    · rw [if_neg e, List.getElem?_set_ne (by omega)]
theorem sync_up {d : DS} (h : Up d) : (syncD d).2 = 0 ∧ Up (syncD d).1 ∧ (syncD d).1.pend = [] ∧ (syncD d).1.good.length = d.good.length := by
  unfold syncD
  rw [h.1]
  exact ⟨rfl, h, rfl, settleL_len _ _ _ _⟩
theorem read_sync {m : Nat} {d : DS} (h : Up d) (ok : d.ok m) (j : Int) : readD (syncD d).1 j = readD d j := by
  have hh : hasD (syncD d).1 j = hasD d j := by
    unfold hasD
    rw [(sync_up h).2.1.1, h.1, (sync_up h).2.2.2]
  unfold readD
  rw [hh]
  by_cases e : hasD d j = 0
  · rw [if_pos e, if_pos e]
    have hr : 0 ≤ j ∧ j < d.good.length := by
      unfold hasD at e
      rw [h.1] at e
      rw [if_neg (by decide)] at e
      split at e
      · cases e
      · omega
    obtain ⟨k, rfl⟩ := Int.eq_ofNat_of_zero_le hr.1
    have hs : readS (syncD d).1 k = readS d k := by
      unfold syncD
      rw [h.1]
      show (settleL (fun _ => true) 0 d.good d.pend)[k]?.getD Sec.z = lastP k (d.good[k]?.getD Sec.z) d.pend
      exact settle_all _ _ _ (by omega) fun x hx => (ok.at_ x hx).1
    rw [hs]
  · rw [if_neg e, if_neg e]
theorem writes_up : ∀ (f : List (List UInt8)) (d : DS) (m : Nat) (i : Int), Up d → d.ok m → 0 ≤ i → i + f.length ≤ d.good.length → (∀ s ∈ f, s.length = 64) →
    (writesD d i f).2 = 0 ∧ Up (writesD d i f).1 ∧ (writesD d i f).1.good.length = d.good.length ∧ ∀ j : Int, readD (writesD d i f).1 j = if i ≤ j ∧ j < i + f.length then (f[(j - i).toNat]?.getD [], 0) else readD d j
  | [], d, m, i, h, ok, h0, h1, hs => ⟨rfl, h, rfl, fun j => by
    rw [if_neg (by simp only [List.length_nil]; omega)]; rfl⟩
  | x :: r, d, m, i, h, ok, h0, h1, hs => by
    rw [List.length_cons] at h1
    have hx : x.length = 64 := hs x (by simp)
    have hw := write_up h h0 (by omega) hx
    have hw2 : (writeD d i x).2 = 0 := by rw [hw]
    have hwu : Up (writeD d i x).1 := by rw [hw]; exact h
    have hwl : (writeD d i x).1.good.length = d.good.length := by rw [hw]
    have ih := writes_up r (writeD d i x).1 (m + 1) (i + 1) hwu (writeD_ok ok i x) (by omega) (by rw [hwl]; omega) fun s hs' => hs s (by simp [hs'])
    have hd : writesD d i (x :: r) = writesD (writeD d i x).1 (i + 1) r := by
      rw [writesD, if_neg (not_not_intro hw2)]
    rw [hd]
    refine ⟨ih.1, ih.2.1, ih.2.2.1.trans hwl, fun j => ?_⟩
    rw [ih.2.2.2 j, read_write h h0 (by omega) hx, List.length_cons]
    by_cases e : j = i
    · subst e
      rw [if_neg (by omega), if_pos rfl, if_pos (by omega), show (j - j).toNat = 0 by omega]; rfl
    · by_cases e2 : i + 1 ≤ j ∧ j < i + 1 + r.length
      · rw [if_pos e2, if_pos (by omega), show (j - i).toNat = (j - (i + 1)).toNat + 1 by omega, List.getElem?_cons_succ]
      · rw [if_neg e2, if_neg e, if_neg (by omega)]
theorem reads_get (d : DS) (base size i : Nat) : (readsD d base size)[i]? = if i < size then some (readD d ((base : Int) + (i : Int))).1 else none := by
  unfold readsD
  rw [List.getElem?_map]
  by_cases h : i < size
  · rw [List.getElem?_range h, if_pos h]; rfl
  · rw [if_neg h, List.getElem?_eq_none (by rw [List.length_range]; omega)]; rfl
/-- what an append that has room does to the sectors of its stretch. -/
theorem reads_cut {d d2 : DS} {base size T : Nat} {f : List (List UInt8)} (hT : T + f.length ≤ size)
    (hr : ∀ j : Int, (readD d2 j).1 = if (base : Int) + T ≤ j ∧ j < (base : Int) + T + f.length then f[(j - ((base : Int) + T)).toNat]?.getD [] else (readD d j).1) :
    readsD d2 base size = (readsD d base size).take T ++ (f ++ (readsD d base size).drop (T + f.length)) := by
  have hl := readsD_len d base size
  apply List.ext_getElem?
  intro i
  rw [reads_get, List.getElem?_append, List.length_take, hl, Nat.min_eq_left (by omega), List.getElem?_append]
  by_cases h0 : i < T
  · rw [if_pos h0, if_pos (by omega), List.getElem?_take_of_lt h0, reads_get, if_pos (by omega), hr, if_neg (by omega)]
  · rw [if_neg h0]
    by_cases h1 : i - T < f.length
    · rw [if_pos h1, if_pos (by omega), hr, if_pos (by omega), show ((base : Int) + (i : Int) - ((base : Int) + T)).toNat = i - T by omega, List.getElem?_eq_getElem h1]; rfl
    · rw [if_neg h1, List.getElem?_drop, reads_get, show T + f.length + (i - T - f.length) = i by omega]
      by_cases h2 : i < size
      · rw [if_pos h2, if_pos h2, hr, if_neg (by omega)]
      · rw [if_neg h2, if_neg h2]
theorem append_up {d : DS} {m : Nat} {J : JS} {b : List UInt8} (h : Up d) (ok : d.ok m) (hJ : J.ok) (hgen : J.gen ≠ 0) (hro : J.round ≠ 0) (hd : J.dead = false) (hb : b.length ≤ 4000)
    (hfit : J.tail + partsN b.length ≤ J.size) (hdisk : J.base + J.size ≤ d.good.length) :
    (appendJ d J b).2 = 0 ∧ Up (appendJ d J b).1.1 ∧ (appendJ d J b).1.1.good.length = d.good.length ∧ ∀ size : Nat, (size : Int) = J.size → ∃ T : Nat, (T : Int) = J.tail ∧
      readsD (appendJ d J b).1.1 J.base.toNat size = (readsD d J.base.toNat size).take T ++ (frameL J.gen J.round J.seq.toNat b ++ (readsD d J.base.toNat size).drop (T + partsN b.length)) := by
  have hp := partsN_pos hb
  obtain ⟨⟨hb0, hb1⟩, ⟨hs0, hs1⟩, hgen2, hrd, ⟨ht0, ht1⟩, ⟨hq0, hq1⟩⟩ := hJ
  have hF : appendF J b = frameL J.gen J.round J.seq.toNat b := by
    unfold appendF frameK
    rw [if_neg (by omega), if_neg (by omega)]
  have hFl : (appendF J b).length = partsN b.length := by rw [hF, frameL_len]
  have hF64 : ∀ s ∈ appendF J b, s.length = 64 := fun s hs => by rw [hF] at hs; exact (sec_mark hs).2
  obtain ⟨w0, wu, wl, wr⟩ := writes_up (appendF J b) d m (J.base + J.tail) h ok (by omega) (by rw [hFl]; omega) hF64
  have wok := writesD_ok (f := appendF J b) (i := J.base + J.tail) ok
  obtain ⟨s0, su, sp, sl⟩ := sync_up wu
  have hA : appendJ d J b = (((syncD (writesD d (J.base + J.tail) (appendF J b)).1).1, { J with tail := J.tail + partsN b.length, seq := J.seq + 1 }), 0) := by
    unfold appendJ
    rw [if_neg (by omega), if_neg (by rw [hd]; decide), if_neg (by omega), if_neg (not_not_intro w0), if_neg (not_not_intro s0)]
  rw [hA]
  refine ⟨rfl, su, sl.trans wl, fun size hsz => ⟨J.tail.toNat, by omega, ?_⟩⟩
  rw [← hF, ← hFl]
  refine reads_cut (by rw [hFl]; omega) fun j => ?_
  show (readD (syncD (writesD d (J.base + J.tail) (appendF J b)).1).1 j).1 = _
  rw [read_sync wu wok, wr, show ((J.base.toNat : Int)) = J.base by omega, show ((J.tail.toNat : Int)) = J.tail by omega]
  split <;> rfl
end Go.Proofs.Ytgcjipbahfpopaa

/- Journal: Create, the small ones, and the sectors of a stretch. -/
set_option linter.unusedVariables false
set_option linter.unusedSimpArgs false
set_option maxRecDepth 20000
set_option maxHeartbeats 2000000
namespace Go.Proofs.Ytgcjipbahfpopaa
open Go Go.Mx Go.Proofs
open W (OwnB GivesW)
def JS.anew (J : JS) : JS := { J with tail := 0, seq := 0 }
theorem openK_kind (d : DS) (base size : Int) (gen : Nat) : ((openK d base size gen).2.2 = 0 → ∃ J, (openK d base size gen).1 = some J) ∧ ((openK d base size gen).2.2 ≠ 0 → (openK d base size gen).1 = none ∧ (openK d base size gen).2.1 = []) := by
  unfold openK
  split
  · rename_i h
    exact ⟨fun e => absurd e h, fun _ => ⟨rfl, rfl⟩⟩
  · split
    · exact ⟨fun e => (by cases e), fun _ => ⟨rfl, rfl⟩⟩
    · exact ⟨fun _ => ⟨_, rfl⟩, fun h => absurd rfl h⟩
theorem readD_bad {d : DS} {i : Int} (h : (readD d i).2 ≠ 0) : (readD d i).1 = [] := by
  unfold readD at h ⊢
  split at h
  · rename_i h0
    rw [if_pos h0]
    split at h
    · rename_i h1
      rw [if_pos h1]
    · exact absurd rfl h
  · rename_i h0
    rw [if_neg h0]
section
variable {w w' w1 : World} {o o' o1 : Own} {q g n N m : Nat} {K : Nat → Prop} {b s : List UInt8} {a : Option Addr} {c : Nat} {l : List BS} {d : DS} {J : JS}
theorem Create_spec (h : DG w o g d) (ok : Tags w o) (hd : d.ok m) (hm : m < 100000) (base size : Int) (gen : Nat) :
    Calls Try.prog 26 #[.pointer (some (blk g)), .int .i64 base, .int .i64 size, .int .u32 gen] w (fun z w' => ∃ o' jp, z = .returned (.tuple #[.pointer jp, .int .i64 (openK d base size gen).2.2]) ∧ Step no w o w' o' ∧
      (∀ J, (openK d base size gen).1 = some J → ∃ q, jp = some (blk q) ∧ w.heap.size ≤ q ∧ JG w' o' q g J.anew)) := by
  refine (journal_Create.go _ _ _ _ (R := fun z w' => ∃ o' jp, z = (.tuple #[.pointer jp, .int .i64 (openK d base size gen).2.2]) ∧ Step no w o w' o' ∧
      (∀ J, (openK d base size gen).1 = some J → ∃ q, jp = some (blk q) ∧ w.heap.size ≤ q ∧ JG w' o' q g J.anew)) ?_).mono fun z w' ⟨u, he, o', jp, hu, hw⟩ => ⟨o', jp, by rw [he, hu], hw⟩
  unfold journal_Create.N
  obtain ⟨k0, k1⟩ := openK_kind d base size gen
  refine (Open_spec h ok hd hm base size gen).mono fun u w8 ⟨o8, jp, la, lc, l, he, s8, hmap, hr, hn, hj⟩ => ⟨_, _, _, _, _, he, fun h0 => ?_, fun h0 => ?_⟩
  · obtain ⟨J, hJ⟩ := k0 h0
    obtain ⟨q, rfl, hq, jg⟩ := hj J hJ
    have ha5 : ((blk q).add 5).add 0 = (blk q).add 5 := by rw [add_add]
    have ha6 : ((blk q).add 6).add 0 = (blk q).add 6 := by rw [add_add]
    refine ⟨_, rfl, ?_⟩
    rw [ha5, ha6]
    refine ⟨jg.mem.cana (i := 5) rfl, thenW_in fun w57 e57 => ?_⟩
    have b57 := jg.mem.seti 5 rfl e57
    refine ⟨b57.cana (i := 6) rfl, thenW_in fun w60 e60 => ?_⟩
    have X60 : Ext (fun b => b = q) w8 w60 := ((Ext.refl (fun b => b = q) w8).x_set (q := q) (i := 5) rfl (.inl rfl) e57).x_set (q := q) (i := 6) rfl (.inl rfl) e60
    obtain ⟨o60, s60⟩ := Step.store1 X60 s8.ok jg.tg
    refine ⟨o60, _, rfl, s8.trans' s60 fun i hi => .inr (by subst hi; exact hq), fun J2 hJ2 => ⟨q, rfl, hq, ?_⟩⟩
    rw [hJ] at hJ2
    cases hJ2
    exact ⟨b57.seti 6 rfl e60, by rw [s60.own jg.mem.lt]; exact jg.tg⟩
  · exact ⟨o8, _, rfl, s8, fun J hJ => by rw [(k1 h0).1] at hJ; cases hJ⟩
theorem jCount_spec (h : JG w o q g J) : Calls Try.prog 32 #[.pointer (some (blk q))] w (Ret (.int .i64 J.seq) fun w' => w' = w) := by
  refine journal_Journal_Count.run _ ?_
  unfold journal_Journal_Count.N
  exact ⟨fun h => (by cases h), fun _ => ⟨_, rfl, _, h.mem.cella (i := 6) rfl, rfl, rfl⟩⟩
theorem jRound_spec (h : JG w o q g J) : Calls Try.prog 33 #[.pointer (some (blk q))] w (Ret (.int .u32 J.round) fun w' => w' = w) := by
  refine journal_Journal_Round.run _ ?_
  unfold journal_Journal_Round.N
  exact ⟨fun h => (by cases h), fun _ => ⟨_, rfl, _, h.mem.cella (i := 4) rfl, rfl, rfl⟩⟩
theorem jRoom_spec (h : JG w o q g J) (h0 : 0 ≤ J.tail) (h1 : J.tail ≤ 1000000) (h2 : 0 ≤ J.size) (h3 : J.size ≤ 1000000) : Calls Try.prog 22 #[.pointer (some (blk q))] w (Ret (.int .i64 (J.size - J.tail)) fun w' => Ext no w w') := by
  refine journal_Journal_Room.run _ ?_
  unfold journal_Journal_Room.N
  exact ⟨fun h => (by cases h), fun _ => ⟨_, rfl, _, h.mem.cella (i := 2) rfl, _, h.mem.cella (i := 5) rfl, by omega, by omega, fun w3 X3 => ⟨rfl, X3⟩⟩⟩
theorem sectors_spec (h : DG w o g d) (ok : Tags w o) (hd : d.ok m) (hm : m < 100000) {base size : Int} (hb0 : 0 ≤ base) (hb1 : base ≤ 1000000) (hs0 : 0 ≤ size) (hs1 : size ≤ 100000) :
    Calls Try.prog 31 #[.pointer (some (blk g)), .int .i64 base, .int .i64 size] w (fun z w' => ∃ o' la lc, ∃ l : List BS, z = .returned (.slice la l.length lc) ∧ Step no w o w' o' ∧ l.map BS.bs = readsD d base.toNat size.toNat ∧ BsRow w' o' la lc l) := by
  refine (cachettelaw10_sectors.go _ _ _ (R := fun z w' => ∃ o' la lc, ∃ l : List BS, z = (.slice la l.length lc) ∧ Step no w o w' o' ∧ l.map BS.bs = readsD d base.toNat size.toNat ∧ BsRow w' o' la lc l) ?_).mono fun z w' ⟨u, he, o', la, lc, l, hu, hw⟩ => ⟨o', la, lc, l, by rw [he, hu], hw⟩
  unfold cachettelaw10_sectors.N
  refine ⟨fun m vs w1 => ∃ (t : Nat) (o1 : Own) (la : Option Addr) (lc : Nat) (l : List BS), vs = [.slice la l.length lc, .int .i64 t] ∧ m + t = size.toNat ∧ Step no w o w1 o1 ∧ BsL w.heap.size w1 o1 la lc l ∧ l.map BS.bs = readsD d base.toNat t, size.toNat, ⟨0, o, none, 0, [], rfl, rfl, Step.refl _ ok, BsL.nil _ _ _, rfl⟩, ?_⟩
  rintro k w7 la ln lc i ⟨t, o7, la', lc', l, hi, hk, s7, L7, hmap⟩
  simp only [List.cons.injEq, Value.slice.injEq, Value.int.injEq, true_and, and_true] at hi
  obtain ⟨⟨rfl, rfl, rfl⟩, rfl⟩ := hi
  have hll : l.length = t := by have := congrArg List.length hmap; rwa [List.length_map, readsD_len] at this
  refine ⟨fun ht => ⟨by omega, by omega, ?_⟩, fun ht => ?_⟩
  · refine (dRead_spec (h.step s7 id) s7.ok (base + t) (by have := hd.pl; omega)).mono fun u w11 ⟨ra, rn, rc, o11, he, hn, hnc, s11, hR1, hR0⟩ => ⟨ra, rn, rc, _, he, ?_⟩
    have X11 : Ext no w7 w11 := s11.ext.mono fun b ⟨_, _, h⟩ _ => h
    have t11 := Step.of_no X11 s7.ok
    have l7 := s7.size
    have push : ∀ (x : BS), BSok w11 (grow w7 o7) x → x.bs = (readD d (base + t)).1 → ∀ (w12 : World) (q12 : Nat), Ext no w11 w12 → Blk w12 q12 23 [.slice x.a x.bs.length x.c] → w11.heap.size ≤ q12 → q12 < w12.heap.size →
        ∃ (a' : Option Addr) (n' c' : Nat) (w4 : World), (Builtin.append_ #[25, 25] 25 #[.slice la l.length lc, .slice (some (blk q12)) 1 1]).run Try.prog w12 = .ok (.slice a' n' c') w4 ∧
          (-9223372036854775808 : Int) ≤ ((t : Int) + 1) ∧ ((t : Int) + 1) < 9223372036854775808 ∧ ∃ m', m' < k ∧ ∃ (t' : Nat) (o1 : Own) (la : Option Addr) (lc : Nat) (l : List BS), [Value.slice a' n' c', Value.int .i64 ((t : Int) + 1)] = [.slice la l.length lc, .int .i64 t'] ∧ m' + t' = size.toNat ∧ Step no w o w4 o1 ∧ BsL w.heap.size w4 o1 la lc l ∧ l.map BS.bs = readsD d base.toNat t' := fun x okx hx w12 q12 X12 hb hq hq' => by
      obtain ⟨a', c', w39, o39, hr, s39, L39⟩ := (L7.step t11 fun _ h => h.elim).push t11.ok (by omega) okx X12 hb hq hq' (by have := X11.size; omega)
      refine ⟨a', _, c', w39, hr, by omega, by omega, k - 1, by omega, t + 1, o39, a', c', _, rfl, by omega, (s7.trans t11).trans' s39 fun i hi => .inr hi, L39, ?_⟩
      rw [List.map_append, hmap]
      unfold readsD
      rw [List.range_succ, List.map_append]
      simp only [List.map_cons, List.map_nil]
      rw [hx]
      congr 3
      rw [show ((base.toNat : Nat) : Int) = base by omega]
    subst hn
    refine ⟨fun hz w12 q12 X12 hb hq hq' => ?_, fun hz w12 q12 X12 hb hq hq' => ?_⟩
    · exact push ⟨none, 0, []⟩ ⟨Row.nil _ _ _, Nat.zero_le _⟩ (readD_bad hz).symm w12 q12 X12 hb hq hq'
    · refine push ⟨ra, rc, (readD d (base + t)).1⟩ ?_ rfl w12 q12 X12 hb hq hq'
      obtain ⟨q, tt, e, hbk, hl, hq, _⟩ := hR0 hz
      subst e
      refine ⟨Row.fresh ?_ fun ad ha => by cases ha; exact hq, hnc⟩
      have := (RowAt.of_blk hbk).take (bytesV (readD d (base + t)).1).length
      rwa [List.take_left] at this
  · have htt : t = size.toNat := by omega
    exact ⟨_, la, lc, l, rfl, Step.of_no (s7.ext.mono fun b ⟨_, _, h⟩ _ => h) ok, by rw [← htt]; exact hmap, L7.give s7 (Nat.le_refl _)⟩
end
end Go.Proofs.Ytgcjipbahfpopaa

/- Journal: the predicates of what asks journals on disks. -/
set_option maxRecDepth 100000
set_option maxHeartbeats 4000000
namespace Go.Proofs.Ytgcjipbahfpopaa
open Go Go.Mx Go.Proofs
/-- cachettelaw10.JournalOpens -/
def cachettelaw10_JournalOpens.M (mn : Option Addr) (lg : Nat) (mp : Nat) (a4 : Int) (a3 : Int) (ae : Int) (dy : Option Addr) (d9 : Nat) (ds : Nat) (R : Value → World → Prop) (w : World) : Prop :=
 Calls Try.prog 14 #[.slice mn lg mp] w fun mr m5 => ∃ (c8 : Bool), mr = .returned (.bool c8) ∧
 bif !c8 then (
 Calls Try.prog 8 #[] m5 fun mc lj => ∃ (ee : Bool), mc = .returned (.bool ee) ∧
 R (.bool ee) lj) else (
 bif decide ((d9 : Int) > 4100) then (
 Calls Try.prog 8 #[] m5 fun lo ly => ∃ (dw : Bool), lo = .returned (.bool dw) ∧
 R (.bool dw) ly) else (
 Calls Try.prog 19 #[.int .i64 40] m5 fun m8 k7 => ∃ (af : Option Addr) (gc : Int), m8 = .returned (.tuple #[.pointer af, .int .i64 gc]) ∧
 bif gc != 0 then (
 R (.bool false) k7) else (
 ∃ (I0 : Nat → List Value → World → Prop) (ms : Nat), I0 ms [.int .i64 0] k7 ∧ ∀ (le : Nat) (f8 : World) (fu : Int), I0 le [.int .i64 fu] f8 →
 bif decide (fu < (lg : Int)) then (
 mn.elim False fun mq =>
 0 ≤ (fu : Int) ∧ (fu : Int) < (lg : Int) ∧
 ∃ (eo : Int) (co : Int) (es : Int) (i8 : Option Addr) (ga : Nat) (gd : Nat) (dc : Int) (gs : Int) (i4 : Int), cellsAt f8 (mq.add (Int.toNat fu * 7)) [.int .u32 eo, .int .u32 co, .int .u32 es, .slice i8 ga gd, .int .i64 dc, .int .i64 gs, .int .u8 i4] 0 ∧
 Calls Try.prog 15 #[.agg #[.int .u32 eo, .int .u32 co, .int .u32 es, .slice i8 ga gd, .int .i64 dc, .int .i64 gs, .int .u8 i4]] f8 fun mh iy => ∃ (ci : Option Addr) (ca : Nat) (cz : Nat) (db : Bool), mh = .returned (.tuple #[.slice ci ca cz, .bool db]) ∧
 bif db then (
 Calls Try.prog 28 #[.pointer af, .int .i64 fu, .slice ci ca cz] iy fun m7 md => ∃ (fk : Int), m7 = .returned (.int .i64 fk) ∧
 ∃ mo, mo < le ∧ I0 mo [.int .i64 (IntKind.i64.wrap (fu + 1))] md) else (
 ∃ mm, mm < le ∧ I0 mm [.int .i64 (IntKind.i64.wrap (fu + 1))] iy)) else (
 Calls Try.prog 29 #[.pointer af] f8 fun m1 lf => ∃ (ia : Int), m1 = .returned (.int .i64 ia) ∧
 Calls Try.prog 30 #[.pointer af] lf fun mk m6 => ∃ (a8 : Option Addr), mk = .returned (.pointer a8) ∧
 Calls Try.prog 20 #[.pointer af, .int .i64 a4, .int .i64 a3, .int .u32 ae] m6 fun lh mi => ∃ (al : Option Addr) (cp : Option Addr) (a6 : Nat) (cq : Nat) (a7 : Int), lh = .returned (.tuple #[.pointer al, .slice cp a6 cq, .int .i64 a7]) ∧
 Calls Try.prog 26 #[.pointer a8, .int .i64 a4, .int .i64 a3, .int .u32 ae] mi fun lr a9 => ∃ (ab : Option Addr) (a5 : Int), lr = .returned (.tuple #[.pointer ab, .int .i64 a5]) ∧
 bif ae == 0 then (
 bif a7 == 1 then (
 bif a5 == 1 then (
 bif (a6 : Int) == 0 then (
 Calls Try.prog 8 #[] a9 fun ll m0 => ∃ (dl : Bool), ll = .returned (.bool dl) ∧
 R (.bool dl) m0) else (
 R (.bool false) a9)) else (
 R (.bool false) a9)) else (
 R (.bool false) a9)) else (
 bif decide (a4 < 0) then (
 bif a7 == 1 then (
 bif a5 == 1 then (
 bif (a6 : Int) == 0 then (
 Calls Try.prog 8 #[] a9 fun l7 l8 => ∃ (eb : Bool), l7 = .returned (.bool eb) ∧
 R (.bool eb) l8) else (
 R (.bool false) a9)) else (
 R (.bool false) a9)) else (
 R (.bool false) a9)) else (
 bif decide (a3 < 1) then (
 bif a7 == 1 then (
 bif a5 == 1 then (
 bif (a6 : Int) == 0 then (
 Calls Try.prog 8 #[] a9 fun li m3 => ∃ (de : Bool), li = .returned (.bool de) ∧
 R (.bool de) m3) else (
 R (.bool false) a9)) else (
 R (.bool false) a9)) else (
 R (.bool false) a9)) else (
 bif decide (a4 > 40) then (
 bif a7 == 1 then (
 bif a5 == 1 then (
 bif (a6 : Int) == 0 then (
 Calls Try.prog 8 #[] a9 fun ln la => ∃ (e1 : Bool), ln = .returned (.bool e1) ∧
 R (.bool e1) la) else (
 R (.bool false) a9)) else (
 R (.bool false) a9)) else (
 R (.bool false) a9)) else (
 bif decide (a3 > (IntKind.i64.wrap ((40 : Int) - a4))) then (
 bif a7 == 1 then (
 bif a5 == 1 then (
 bif (a6 : Int) == 0 then (
 Calls Try.prog 8 #[] a9 fun ld lm => ∃ (e6 : Bool), ld = .returned (.bool e6) ∧
 R (.bool e6) lm) else (
 R (.bool false) a9)) else (
 R (.bool false) a9)) else (
 R (.bool false) a9)) else (
 Calls Try.prog 31 #[.pointer af, .int .i64 a4, .int .i64 a3] a9 fun m2 lu => ∃ (c2 : Option Addr) (bw : Nat) (c1 : Nat), m2 = .returned (.slice c2 bw c1) ∧
 Calls Try.prog 17 #[.slice c2 bw c1, .int .u32 ae] lu fun lk ec => ∃ (ac : Option Addr) (a0 : Nat) (ad : Nat) (da : Int) (c9 : Int), lk = .returned (.tuple #[.slice ac a0 ad, .int .i64 da, .int .u32 c9]) ∧
 bif c9 == 4294967295 then (
 bif a7 == 2 then (
 bif a5 == 2 then (
 Calls Try.prog 8 #[] ec fun lc ml => ∃ (e8 : Bool), lc = .returned (.bool e8) ∧
 R (.bool e8) ml) else (
 R (.bool false) ec)) else (
 R (.bool false) ec)) else (
 bif a7 != 0 then (
 R (.bool false) ec) else (
 bif a5 != 0 then (
 R (.bool false) ec) else (
 Calls Try.prog 11 #[.slice cp a6 cq, .slice ac a0 ad] ec fun lp ky => ∃ (e0 : Bool), lp = .returned (.bool e0) ∧
 bif !e0 then (
 R (.bool false) ky) else (
 Calls Try.prog 32 #[.pointer al] ky fun lw ih => ∃ (dm : Int), lw = .returned (.int .i64 dm) ∧
 bif dm != (a0 : Int) then (
 R (.bool false) ih) else (
 Calls Try.prog 22 #[.pointer al] ih fun l9 jw => ∃ (eq : Int), l9 = .returned (.int .i64 eq) ∧
 bif eq != (IntKind.i64.wrap (a3 - da)) then (
 R (.bool false) jw) else (
 Calls Try.prog 33 #[.pointer al] jw fun m9 jb => ∃ (dt : Int), m9 = .returned (.int .u32 dt) ∧
 bif dt != (IntKind.u32.wrap (c9 + 1)) then (
 R (.bool false) jb) else (
 Calls Try.prog 32 #[.pointer ab] jb fun ma io => ∃ (dp : Int), ma = .returned (.int .i64 dp) ∧
 bif dp != 0 then (
 R (.bool false) io) else (
 Calls Try.prog 22 #[.pointer ab] io fun lq kb => ∃ (em : Int), lq = .returned (.int .i64 em) ∧
 bif em != a3 then (
 R (.bool false) kb) else (
 Calls Try.prog 33 #[.pointer ab] kb fun k5 i2 => ∃ (e2 : Int), k5 = .returned (.int .u32 e2) ∧
 bif e2 != (IntKind.u32.wrap (c9 + 1)) then (
 R (.bool false) i2) else (
 Calls Try.prog 13 #[.int .i64 (d9 : Int)] i2 fun kf j8 => ∃ (aj : Int), kf = .returned (.int .i64 aj) ∧
 Calls Try.prog 23 #[.pointer al, .slice dy d9 ds] j8 fun k2 jn => ∃ (a2 : Int), k2 = .returned (.int .i64 a2) ∧
 Calls Try.prog 23 #[.pointer ab, .slice dy d9 ds] jn fun ka aa => ∃ (a1 : Int), ka = .returned (.int .i64 a1) ∧
 bif aj == 0 then (
 bif a2 == 3 then (
 bif a1 == 3 then (
 Calls Try.prog 8 #[] aa fun jz k6 => ∃ (cl : Bool), jz = .returned (.bool cl) ∧
 R (.bool cl) k6) else (
 R (.bool false) aa)) else (
 R (.bool false) aa)) else (
 bif !((a2 == 0) == (decide (aj ≤ (IntKind.i64.wrap (a3 - da))))) then (
 R (.bool false) aa) else (
 bif !((a1 == 0) == (decide (aj ≤ a3))) then (
 R (.bool false) aa) else (
 bif a2 != 0 then (
 bif a2 != 18 then (
 R (.bool false) aa) else (
 bif a1 != 0 then (
 bif a1 != 18 then (
 R (.bool false) aa) else (
 Calls Try.prog 31 #[.pointer af, .int .i64 a4, .int .i64 a3] aa fun ie ju => ∃ (bq : Option Addr) (bj : Nat) (ar : Nat), ie = .returned (.slice bq bj ar) ∧
 Calls Try.prog 17 #[.slice bq bj ar, .int .u32 ae] ju fun kw en => ∃ (am : Option Addr) (bv : Nat) (an : Nat) (ez : Int) (fm : Int), kw = .returned (.tuple #[.slice am bv an, .int .i64 ez, .int .u32 fm]) ∧
 bif a2 == 0 then (
 bif decide ((bv : Int) < (IntKind.i64.wrap ((a0 : Int) + 1))) then (
 R (.bool false) en) else (
 (0 : Int) ≤ ((a0 : Int) : Int) ∧ ((a0 : Int) : Int) ≤ (an : Int) ∧
 Calls Try.prog 11 #[.slice (if an = 0 then am else Option.map (fun z : Addr => z.add (0 * 1)) am) ((Int.toNat (a0 : Int)) - 0) (an - 0), .slice ac a0 ad] en fun it eg => ∃ (cj : Bool), it = .returned (.bool cj) ∧
 bif !cj then (
 R (.bool false) eg) else (
 am.elim False fun lx =>
 0 ≤ ((a0 : Int) : Int) ∧ ((a0 : Int) : Int) < (bv : Int) ∧
 ∃ (g3 : Option Addr) (gp : Nat) (i6 : Nat), eg.cell? (lx.add (Int.toNat (a0 : Int) * 1)) = some (.slice g3 gp i6) ∧
 Calls Try.prog 27 #[.slice g3 gp i6, .slice dy d9 ds] eg fun ir fx => ∃ (dv : Bool), ir = .returned (.bool dv) ∧
 bif !dv then (
 R (.bool false) fx) else (
 Calls Try.prog 31 #[.pointer a8, .int .i64 a4, .int .i64 a3] fx fun ko jh => ∃ (bl : Option Addr) (az : Nat) (bf : Nat), ko = .returned (.slice bl az bf) ∧
 Calls Try.prog 17 #[.slice bl az bf, .int .u32 ae] jh fun j4 du => ∃ (ck : Option Addr) (bz : Nat) (ei : Nat) (f1 : Int) (f4 : Int), j4 = .returned (.tuple #[.slice ck bz ei, .int .i64 f1, .int .u32 f4]) ∧
 bif a1 != 0 then (
 Calls Try.prog 8 #[] du fun jp jg => ∃ (d4 : Bool), jp = .returned (.bool d4) ∧
 R (.bool d4) jg) else (
 bif decide ((bz : Int) ≥ 1) then (
 ck.elim False fun lv =>
 0 ≤ (0 : Int) ∧ (0 : Int) < (bz : Int) ∧
 ∃ (g6 : Option Addr) (g5 : Nat) (fr : Nat), du.cell? (lv.add (Int.toNat 0 * 1)) = some (.slice g6 g5 fr) ∧
 Calls Try.prog 27 #[.slice g6 g5 fr, .slice dy d9 ds] du fun jx fv => ∃ (df : Bool), jx = .returned (.bool df) ∧
 bif df then (
 Calls Try.prog 8 #[] fv fun ix kj => ∃ (cu : Bool), ix = .returned (.bool cu) ∧
 R (.bool cu) kj) else (
 R (.bool false) fv)) else (
 R (.bool false) du)))))) else (
 Calls Try.prog 31 #[.pointer a8, .int .i64 a4, .int .i64 a3] en fun kq kx => ∃ (bd : Option Addr) (bg : Nat) (bp : Nat), kq = .returned (.slice bd bg bp) ∧
 Calls Try.prog 17 #[.slice bd bg bp, .int .u32 ae] kx fun il e5 => ∃ (cc : Option Addr) (c3 : Nat) (ed : Nat) (f6 : Int) (f0 : Int), il = .returned (.tuple #[.slice cc c3 ed, .int .i64 f6, .int .u32 f0]) ∧
 bif a1 != 0 then (
 Calls Try.prog 8 #[] e5 fun jv kd => ∃ (cg : Bool), jv = .returned (.bool cg) ∧
 R (.bool cg) kd) else (
 bif decide ((c3 : Int) ≥ 1) then (
 cc.elim False fun m4 =>
 0 ≤ (0 : Int) ∧ (0 : Int) < (c3 : Int) ∧
 ∃ (g4 : Option Addr) (gv : Nat) (fp : Nat), e5.cell? (m4.add (Int.toNat 0 * 1)) = some (.slice g4 gv fp) ∧
 Calls Try.prog 27 #[.slice g4 gv fp, .slice dy d9 ds] e5 fun jf ge => ∃ (dj : Bool), jf = .returned (.bool dj) ∧
 bif dj then (
 Calls Try.prog 8 #[] ge fun ij k0 => ∃ (cv : Bool), ij = .returned (.bool cv) ∧
 R (.bool cv) k0) else (
 R (.bool false) ge)) else (
 R (.bool false) e5))))) else (
 Calls Try.prog 31 #[.pointer af, .int .i64 a4, .int .i64 a3] aa fun ip kp => ∃ (aw : Option Addr) (au : Nat) (ba : Nat), ip = .returned (.slice aw au ba) ∧
 Calls Try.prog 17 #[.slice aw au ba, .int .u32 ae] kp fun l2 ex => ∃ (ap : Option Addr) (c7 : Nat) (ai : Nat) (f7 : Int) (fh : Int), l2 = .returned (.tuple #[.slice ap c7 ai, .int .i64 f7, .int .u32 fh]) ∧
 bif a2 == 0 then (
 bif decide ((c7 : Int) < (IntKind.i64.wrap ((a0 : Int) + 1))) then (
 R (.bool false) ex) else (
 (0 : Int) ≤ ((a0 : Int) : Int) ∧ ((a0 : Int) : Int) ≤ (ai : Int) ∧
 Calls Try.prog 11 #[.slice (if ai = 0 then ap else Option.map (fun z : Addr => z.add (0 * 1)) ap) ((Int.toNat (a0 : Int)) - 0) (ai - 0), .slice ac a0 ad] ex fun ki el => ∃ (d3 : Bool), ki = .returned (.bool d3) ∧
 bif !d3 then (
 R (.bool false) el) else (
 ap.elim False fun lz =>
 0 ≤ ((a0 : Int) : Int) ∧ ((a0 : Int) : Int) < (c7 : Int) ∧
 ∃ (gl : Option Addr) (gk : Nat) (gq : Nat), el.cell? (lz.add (Int.toNat (a0 : Int) * 1)) = some (.slice gl gk gq) ∧
 Calls Try.prog 27 #[.slice gl gk gq, .slice dy d9 ds] el fun l1 gw => ∃ (dz : Bool), l1 = .returned (.bool dz) ∧
 bif !dz then (
 R (.bool false) gw) else (
 Calls Try.prog 31 #[.pointer a8, .int .i64 a4, .int .i64 a3] gw fun l5 jy => ∃ (be : Option Addr) (ax : Nat) (bi : Nat), l5 = .returned (.slice be ax bi) ∧
 Calls Try.prog 17 #[.slice be ax bi, .int .u32 ae] jy fun j7 e9 => ∃ (cs : Option Addr) (bs : Nat) (ef : Nat) (fc : Int) (fi : Int), j7 = .returned (.tuple #[.slice cs bs ef, .int .i64 fc, .int .u32 fi]) ∧
 bif a1 != 0 then (
 Calls Try.prog 8 #[] e9 fun iu ib => ∃ (cx : Bool), iu = .returned (.bool cx) ∧
 R (.bool cx) ib) else (
 bif decide ((bs : Int) ≥ 1) then (
 cs.elim False fun me =>
 0 ≤ (0 : Int) ∧ (0 : Int) < (bs : Int) ∧
 ∃ (gj : Option Addr) (gh : Nat) (gz : Nat), e9.cell? (me.add (Int.toNat 0 * 1)) = some (.slice gj gh gz) ∧
 Calls Try.prog 27 #[.slice gj gh gz, .slice dy d9 ds] e9 fun j9 g7 => ∃ (dr : Bool), j9 = .returned (.bool dr) ∧
 bif dr then (
 Calls Try.prog 8 #[] g7 fun jo ik => ∃ (cy : Bool), jo = .returned (.bool cy) ∧
 R (.bool cy) ik) else (
 R (.bool false) g7)) else (
 R (.bool false) e9)))))) else (
 Calls Try.prog 31 #[.pointer a8, .int .i64 a4, .int .i64 a3] ex fun kz jl => ∃ (bk : Option Addr) (br : Nat) (b0 : Nat), kz = .returned (.slice bk br b0) ∧
 Calls Try.prog 17 #[.slice bk br b0, .int .u32 ae] jl fun jr e7 => ∃ (ce : Option Addr) (c4 : Nat) (er : Nat) (fd : Int) (ff : Int), jr = .returned (.tuple #[.slice ce c4 er, .int .i64 fd, .int .u32 ff]) ∧
 bif a1 != 0 then (
 Calls Try.prog 8 #[] e7 fun kg k9 => ∃ (cn : Bool), kg = .returned (.bool cn) ∧
 R (.bool cn) k9) else (
 bif decide ((c4 : Int) ≥ 1) then (
 ce.elim False fun mg =>
 0 ≤ (0 : Int) ∧ (0 : Int) < (c4 : Int) ∧
 ∃ (i0 : Option Addr) (i3 : Nat) (gu : Nat), e7.cell? (mg.add (Int.toNat 0 * 1)) = some (.slice i0 i3 gu) ∧
 Calls Try.prog 27 #[.slice i0 i3 gu, .slice dy d9 ds] e7 fun jc gf => ∃ (di : Bool), jc = .returned (.bool di) ∧
 bif di then (
 Calls Try.prog 8 #[] gf fun kv l4 => ∃ (d8 : Bool), kv = .returned (.bool d8) ∧
 R (.bool d8) l4) else (
 R (.bool false) gf)) else (
 R (.bool false) e7)))))) else (
 bif a1 != 0 then (
 bif a1 != 18 then (
 R (.bool false) aa) else (
 Calls Try.prog 31 #[.pointer af, .int .i64 a4, .int .i64 a3] aa fun kr kt => ∃ (b4 : Option Addr) (b7 : Nat) (bn : Nat), kr = .returned (.slice b4 b7 bn) ∧
 Calls Try.prog 17 #[.slice b4 b7 bn, .int .u32 ae] kt fun j6 ew => ∃ (ak : Option Addr) (bx : Nat) (ag : Nat) (fe : Int) (f5 : Int), j6 = .returned (.tuple #[.slice ak bx ag, .int .i64 fe, .int .u32 f5]) ∧
 bif a2 == 0 then (
 bif decide ((bx : Int) < (IntKind.i64.wrap ((a0 : Int) + 1))) then (
 R (.bool false) ew) else (
 (0 : Int) ≤ ((a0 : Int) : Int) ∧ ((a0 : Int) : Int) ≤ (ag : Int) ∧
 Calls Try.prog 11 #[.slice (if ag = 0 then ak else Option.map (fun z : Addr => z.add (0 * 1)) ak) ((Int.toNat (a0 : Int)) - 0) (ag - 0), .slice ac a0 ad] ew fun ku et => ∃ (ch : Bool), ku = .returned (.bool ch) ∧
 bif !ch then (
 R (.bool false) et) else (
 ak.elim False fun ls =>
 0 ≤ ((a0 : Int) : Int) ∧ ((a0 : Int) : Int) < (bx : Int) ∧
 ∃ (i7 : Option Addr) (g9 : Nat) (g1 : Nat), et.cell? (ls.add (Int.toNat (a0 : Int) * 1)) = some (.slice i7 g9 g1) ∧
 Calls Try.prog 27 #[.slice i7 g9 g1, .slice dy d9 ds] et fun k8 gt => ∃ (dn : Bool), k8 = .returned (.bool dn) ∧
 bif !dn then (
 R (.bool false) gt) else (
 Calls Try.prog 31 #[.pointer a8, .int .i64 a4, .int .i64 a3] gt fun k1 iq => ∃ (aq : Option Addr) (bm : Nat) (b9 : Nat), k1 = .returned (.slice aq bm b9) ∧
 Calls Try.prog 17 #[.slice aq bm b9, .int .u32 ae] iq fun kc dq => ∃ (d6 : Option Addr) (bu : Nat) (ep : Nat) (fg : Int) (fl : Int), kc = .returned (.tuple #[.slice d6 bu ep, .int .i64 fg, .int .u32 fl]) ∧
 bif a1 != 0 then (
 Calls Try.prog 8 #[] dq fun jj kh => ∃ (d0 : Bool), jj = .returned (.bool d0) ∧
 R (.bool d0) kh) else (
 bif decide ((bu : Int) ≥ 1) then (
 d6.elim False fun lb =>
 0 ≤ (0 : Int) ∧ (0 : Int) < (bu : Int) ∧
 ∃ (i1 : Option Addr) (i9 : Nat) (fs : Nat), dq.cell? (lb.add (Int.toNat 0 * 1)) = some (.slice i1 i9 fs) ∧
 Calls Try.prog 27 #[.slice i1 i9 fs, .slice dy d9 ds] dq fun kk gm => ∃ (dx : Bool), kk = .returned (.bool dx) ∧
 bif dx then (
 Calls Try.prog 8 #[] gm fun l0 km => ∃ (d7 : Bool), l0 = .returned (.bool d7) ∧
 R (.bool d7) km) else (
 R (.bool false) gm)) else (
 R (.bool false) dq)))))) else (
 Calls Try.prog 31 #[.pointer a8, .int .i64 a4, .int .i64 a3] ew fun iz ji => ∃ (ay : Option Addr) (b3 : Nat) (bc : Nat), iz = .returned (.slice ay b3 bc) ∧
 Calls Try.prog 17 #[.slice ay b3 bc, .int .u32 ae] ji fun k3 e4 => ∃ (d5 : Option Addr) (bt : Nat) (eu : Nat) (fj : Int) (f9 : Int), k3 = .returned (.tuple #[.slice d5 bt eu, .int .i64 fj, .int .u32 f9]) ∧
 bif a1 != 0 then (
 Calls Try.prog 8 #[] e4 fun js jm => ∃ (cd : Bool), js = .returned (.bool cd) ∧
 R (.bool cd) jm) else (
 bif decide ((bt : Int) ≥ 1) then (
 d5.elim False fun mb =>
 0 ≤ (0 : Int) ∧ (0 : Int) < (bt : Int) ∧
 ∃ (gr : Option Addr) (gy : Nat) (gb : Nat), e4.cell? (mb.add (Int.toNat 0 * 1)) = some (.slice gr gy gb) ∧
 Calls Try.prog 27 #[.slice gr gy gb, .slice dy d9 ds] e4 fun j5 g0 => ∃ (dg : Bool), j5 = .returned (.bool dg) ∧
 bif dg then (
 Calls Try.prog 8 #[] g0 fun jt ja => ∃ (ct : Bool), jt = .returned (.bool ct) ∧
 R (.bool ct) ja) else (
 R (.bool false) g0)) else (
 R (.bool false) e4))))) else (
 Calls Try.prog 31 #[.pointer af, .int .i64 a4, .int .i64 a3] aa fun j3 im => ∃ (av : Option Addr) (b2 : Nat) (b5 : Nat), j3 = .returned (.slice av b2 b5) ∧
 Calls Try.prog 17 #[.slice av b2 b5, .int .u32 ae] im fun kl eh => ∃ (ao : Option Addr) (c5 : Nat) (ah : Nat) (fa : Int) (fo : Int), kl = .returned (.tuple #[.slice ao c5 ah, .int .i64 fa, .int .u32 fo]) ∧
 bif a2 == 0 then (
 bif decide ((c5 : Int) < (IntKind.i64.wrap ((a0 : Int) + 1))) then (
 R (.bool false) eh) else (
 (0 : Int) ≤ ((a0 : Int) : Int) ∧ ((a0 : Int) : Int) ≤ (ah : Int) ∧
 Calls Try.prog 11 #[.slice (if ah = 0 then ao else Option.map (fun z : Addr => z.add (0 * 1)) ao) ((Int.toNat (a0 : Int)) - 0) (ah - 0), .slice ac a0 ad] eh fun kn ej => ∃ (cf : Bool), kn = .returned (.bool cf) ∧
 bif !cf then (
 R (.bool false) ej) else (
 ao.elim False fun mf =>
 0 ≤ ((a0 : Int) : Int) ∧ ((a0 : Int) : Int) < (c5 : Int) ∧
 ∃ (ft : Option Addr) (fy : Nat) (fq : Nat), ej.cell? (mf.add (Int.toNat (a0 : Int) * 1)) = some (.slice ft fy fq) ∧
 Calls Try.prog 27 #[.slice ft fy fq, .slice dy d9 ds] ej fun j1 i5 => ∃ (dk : Bool), j1 = .returned (.bool dk) ∧
 bif !dk then (
 R (.bool false) i5) else (
 Calls Try.prog 31 #[.pointer a8, .int .i64 a4, .int .i64 a3] i5 fun ks j2 => ∃ (b6 : Option Addr) (bo : Nat) (bh : Nat), ks = .returned (.slice b6 bo bh) ∧
 Calls Try.prog 17 #[.slice b6 bo bh, .int .u32 ae] j2 fun iw dh => ∃ (cr : Option Addr) (c0 : Nat) (ev : Nat) (f3 : Int) (ey : Int), iw = .returned (.tuple #[.slice cr c0 ev, .int .i64 f3, .int .u32 ey]) ∧
 bif a1 != 0 then (
 Calls Try.prog 8 #[] dh fun ii jq => ∃ (cb : Bool), ii = .returned (.bool cb) ∧
 R (.bool cb) jq) else (
 bif decide ((c0 : Int) ≥ 1) then (
 cr.elim False fun mj =>
 0 ≤ (0 : Int) ∧ (0 : Int) < (c0 : Int) ∧
 ∃ (gn : Option Addr) (gi : Nat) (g8 : Nat), dh.cell? (mj.add (Int.toNat 0 * 1)) = some (.slice gn gi g8) ∧
 Calls Try.prog 27 #[.slice gn gi g8, .slice dy d9 ds] dh fun jk gx => ∃ (ea : Bool), jk = .returned (.bool ea) ∧
 bif ea then (
 Calls Try.prog 8 #[] gx fun jd l6 => ∃ (cm : Bool), jd = .returned (.bool cm) ∧
 R (.bool cm) l6) else (
 R (.bool false) gx)) else (
 R (.bool false) dh)))))) else (
 Calls Try.prog 31 #[.pointer a8, .int .i64 a4, .int .i64 a3] eh fun j0 k4 => ∃ (b1 : Option Addr) (bb : Nat) (b8 : Nat), j0 = .returned (.slice b1 bb b8) ∧
 Calls Try.prog 17 #[.slice b1 bb b8, .int .u32 ae] k4 fun je e3 => ∃ (cw : Option Addr) (c6 : Nat) (ek : Nat) (f2 : Int) (fb : Int), je = .returned (.tuple #[.slice cw c6 ek, .int .i64 f2, .int .u32 fb]) ∧
 bif a1 != 0 then (
 Calls Try.prog 8 #[] e3 fun iv ic => ∃ (d2 : Bool), iv = .returned (.bool d2) ∧
 R (.bool d2) ic) else (
 bif decide ((c6 : Int) ≥ 1) then (
 cw.elim False fun lt =>
 0 ≤ (0 : Int) ∧ (0 : Int) < (c6 : Int) ∧
 ∃ (fz : Option Addr) (g2 : Nat) (gg : Nat), e3.cell? (lt.add (Int.toNat 0 * 1)) = some (.slice fz g2 gg) ∧
 Calls Try.prog 27 #[.slice fz g2 gg, .slice dy d9 ds] e3 fun l3 fw => ∃ (dd : Bool), l3 = .returned (.bool dd) ∧
 bif dd then (
 Calls Try.prog 8 #[] fw fun ig ke => ∃ (d1 : Bool), ig = .returned (.bool d1) ∧
 R (.bool d1) ke) else (
 R (.bool false) fw)) else (
 R (.bool false) e3)))))))))))))))))))))))))))

theorem cachettelaw10_JournalOpens.eq (l1a : Option Addr) (l1n : Nat) (l1c : Nat) (base2 : Int) (size3 : Int) (gen4 : Int) (b5a : Option Addr) (b5n : Nat) (b5c : Nat) (R : Value → World → Prop) (w : World) : mfunc Try.prog [(0, [0, 1, 2, 3, 4, 11], [(13, (.one (.int .i64)))])] 7 [.slice l1a l1n l1c, .int .i64 base2, .int .i64 size3, .int .u32 gen4, .slice b5a b5n b5c] R w = cachettelaw10_JournalOpens.M l1a l1n l1c base2 size3 gen4 b5a b5n b5c R w := by kernel_rfl
theorem cachettelaw10_JournalOpens.ok (a6 : Option Addr) (a4 : Nat) (a8 : Nat) (a1 : Int) (a0 : Int) (a2 : Int) (a5 : Option Addr) (a3 : Nat) (a7 : Nat) {R : Value → World → Prop} {w : World} (h : cachettelaw10_JournalOpens.M a6 a4 a8 a1 a0 a2 a5 a3 a7 R w) : Calls Try.prog 7 #[.slice a6 a4 a8, .int .i64 a1, .int .i64 a0, .int .u32 a2, .slice a5 a3 a7] w fun e w' => ∃ v, e = .returned v ∧ R v w' :=
  mfunc_ok follows (H := [(0, [0, 1, 2, 3, 4, 11], [(13, (.one (.int .i64)))])]) (args := [.slice a6 a4 a8, .int .i64 a1, .int .i64 a0, .int .u32 a2, .slice a5 a3 a7]) (by rw [cachettelaw10_JournalOpens.eq]; exact h)

def cachettelaw10_JournalOpens.N (ig : Option Addr) (gj : Nat) (ik : Nat) (a7 : Int) (a3 : Int) (aj : Int) (ep : Option Addr) (cl : Nat) (eq : Nat) (R : Value → World → Prop) (w : World) : Prop :=
 Calls Try.prog 14 #[.slice ig gj ik] w fun im ia => ∃ (al : Bool), im = .returned (.bool al) ∧
 (al = false →
 Calls Try.prog 8 #[] ia fun i0 i1 => ∃ (ch : Bool), i0 = .returned (.bool ch) ∧
 R (.bool ch) i1) ∧
 (al = true →
 ((cl : Int) > 4100 →
 Calls Try.prog 8 #[] ia fun gk i5 => ∃ (cf : Bool), gk = .returned (.bool cf) ∧
 R (.bool cf) i5) ∧
 ((cl : Int) ≤ 4100 →
 Calls Try.prog 19 #[.int .i64 40] ia fun i4 fg => ∃ (ad : Option Addr) (d7 : Int), i4 = .returned (.tuple #[.pointer ad, .int .i64 d7]) ∧
 (d7 ≠ 0 →
 R (.bool false) fg) ∧
 (d7 = 0 →
 ∃ (I0 : Nat → List Value → World → Prop) (il : Nat), I0 il [.int .i64 0] fg ∧ ∀ (gt : Nat) (dr : World) (co : Int), I0 gt [.int .i64 co] dr →
 (co < (gj : Int) →
 ∃ ih : Addr, ig = some ih ∧
 0 ≤ (co : Int) ∧ (co : Int) < (gj : Int) ∧
 ∃ (d5 : Int) (cc : Int) (cx : Int) (e9 : Option Addr) (e2 : Nat) (ej : Nat) (cn : Int) (dx : Int) (dv : Int), cellsAt dr (ih.add (Int.toNat co * 7)) [.int .u32 d5, .int .u32 cc, .int .u32 cx, .slice e9 e2 ej, .int .i64 cn, .int .i64 dx, .int .u8 dv] 0 ∧
 Calls Try.prog 15 #[.agg #[.int .u32 d5, .int .u32 cc, .int .u32 cx, .slice e9 e2 ej, .int .i64 cn, .int .i64 dx, .int .u8 dv]] dr fun i3 fh => ∃ (c8 : Option Addr) (c2 : Nat) (cb : Nat) (bx : Bool), i3 = .returned (.tuple #[.slice c8 c2 cb, .bool bx]) ∧
 (bx = true →
 Calls Try.prog 28 #[.pointer ad, .int .i64 co, .slice c8 c2 cb] fh fun ic gp => ∃ (dq : Int), ic = .returned (.int .i64 dq) ∧
 (-9223372036854775808 : Int) ≤ (co + 1) ∧ (co + 1) < 9223372036854775808 ∧
 ∃ ij, ij < gt ∧ I0 ij [.int .i64 (co + 1)] gp) ∧
 (bx = false →
 (-9223372036854775808 : Int) ≤ (co + 1) ∧ (co + 1) < 9223372036854775808 ∧
 ∃ ii, ii < gt ∧ I0 ii [.int .i64 (co + 1)] fh)) ∧
 ((gj : Int) ≤ co →
 Calls Try.prog 29 #[.pointer ad] dr fun gr gn => ∃ (eo : Int), gr = .returned (.int .i64 eo) ∧
 Calls Try.prog 30 #[.pointer ad] gn fun gy gz => ∃ (ak : Option Addr), gy = .returned (.pointer ak) ∧
 Calls Try.prog 20 #[.pointer ad, .int .i64 a7, .int .i64 a3, .int .u32 aj] gz fun gw gl => ∃ (af : Option Addr) (ce : Option Addr) (a5 : Nat) (c9 : Nat) (a4 : Int), gw = .returned (.tuple #[.pointer af, .slice ce a5 c9, .int .i64 a4]) ∧
 Calls Try.prog 26 #[.pointer ak, .int .i64 a7, .int .i64 a3, .int .u32 aj] gl fun gm a9 => ∃ (ac : Option Addr) (a2 : Int), gm = .returned (.tuple #[.pointer ac, .int .i64 a2]) ∧
 (aj = 0 →
 (a4 = 1 →
 (a2 = 1 →
 ((a5 : Int) = 0 →
 Calls Try.prog 8 #[] a9 fun i8 gv => ∃ (ci : Bool), i8 = .returned (.bool ci) ∧
 R (.bool ci) gv) ∧
 ((a5 : Int) ≠ 0 →
 R (.bool false) a9)) ∧
 (a2 ≠ 1 →
 R (.bool false) a9)) ∧
 (a4 ≠ 1 →
 R (.bool false) a9)) ∧
 (aj ≠ 0 →
 (a7 < 0 →
 (a4 = 1 →
 (a2 = 1 →
 ((a5 : Int) = 0 →
 Calls Try.prog 8 #[] a9 fun i2 gq => ∃ (cg : Bool), i2 = .returned (.bool cg) ∧
 R (.bool cg) gq) ∧
 ((a5 : Int) ≠ 0 →
 R (.bool false) a9)) ∧
 (a2 ≠ 1 →
 R (.bool false) a9)) ∧
 (a4 ≠ 1 →
 R (.bool false) a9)) ∧
 ((0 : Int) ≤ a7 →
 (a3 < 1 →
 (a4 = 1 →
 (a2 = 1 →
 ((a5 : Int) = 0 →
 Calls Try.prog 8 #[] a9 fun gx ib => ∃ (ck : Bool), gx = .returned (.bool ck) ∧
 R (.bool ck) ib) ∧
 ((a5 : Int) ≠ 0 →
 R (.bool false) a9)) ∧
 (a2 ≠ 1 →
 R (.bool false) a9)) ∧
 (a4 ≠ 1 →
 R (.bool false) a9)) ∧
 ((1 : Int) ≤ a3 →
 (a7 > 40 →
 (a4 = 1 →
 (a2 = 1 →
 ((a5 : Int) = 0 →
 Calls Try.prog 8 #[] a9 fun i7 ie => ∃ (cm : Bool), i7 = .returned (.bool cm) ∧
 R (.bool cm) ie) ∧
 ((a5 : Int) ≠ 0 →
 R (.bool false) a9)) ∧
 (a2 ≠ 1 →
 R (.bool false) a9)) ∧
 (a4 ≠ 1 →
 R (.bool false) a9)) ∧
 (a7 ≤ 40 →
 (-9223372036854775808 : Int) ≤ ((40 : Int) - a7) ∧ ((40 : Int) - a7) < 9223372036854775808 ∧
 (a3 > ((40 : Int) - a7) →
 (a4 = 1 →
 (a2 = 1 →
 ((a5 : Int) = 0 →
 Calls Try.prog 8 #[] a9 fun gs gu => ∃ (cj : Bool), gs = .returned (.bool cj) ∧
 R (.bool cj) gu) ∧
 ((a5 : Int) ≠ 0 →
 R (.bool false) a9)) ∧
 (a2 ≠ 1 →
 R (.bool false) a9)) ∧
 (a4 ≠ 1 →
 R (.bool false) a9)) ∧
 (a3 ≤ ((40 : Int) - a7) →
 Calls Try.prog 31 #[.pointer ad, .int .i64 a7, .int .i64 a3] a9 fun i9 i6 => ∃ (bn : Option Addr) (bh : Nat) (be : Nat), i9 = .returned (.slice bn bh be) ∧
 Calls Try.prog 17 #[.slice bn bh be, .int .u32 aj] i6 fun g0 bs => ∃ (bc : Option Addr) (a0 : Nat) (bd : Nat) (a8 : Int) (aa : Int), g0 = .returned (.tuple #[.slice bc a0 bd, .int .i64 a8, .int .u32 aa]) ∧
 (aa = 4294967295 →
 (a4 = 2 →
 (a2 = 2 →
 Calls Try.prog 8 #[] bs fun ft ew => ∃ (c7 : Bool), ft = .returned (.bool c7) ∧
 R (.bool c7) ew) ∧
 (a2 ≠ 2 →
 R (.bool false) bs)) ∧
 (a4 ≠ 2 →
 R (.bool false) bs)) ∧
 (aa ≠ 4294967295 →
 (a4 ≠ 0 →
 R (.bool false) bs) ∧
 (a4 = 0 →
 (a2 ≠ 0 →
 R (.bool false) bs) ∧
 (a2 = 0 →
 Calls Try.prog 11 #[.slice ce a5 c9, .slice bc a0 bd] bs fun fa e5 => ∃ (bl : Bool), fa = .returned (.bool bl) ∧
 (bl = false →
 R (.bool false) e5) ∧
 (bl = true →
 Calls Try.prog 32 #[.pointer af] e5 fun fe ed => ∃ (bg : Int), fe = .returned (.int .i64 bg) ∧
 (bg ≠ (a0 : Int) →
 R (.bool false) ed) ∧
 (bg = (a0 : Int) →
 Calls Try.prog 22 #[.pointer af] ed fun gf eg => ∃ (bt : Int), gf = .returned (.int .i64 bt) ∧
 (-9223372036854775808 : Int) ≤ (a3 - a8) ∧ (a3 - a8) < 9223372036854775808 ∧
 (bt ≠ (a3 - a8) →
 R (.bool false) eg) ∧
 (bt = (a3 - a8) →
 Calls Try.prog 33 #[.pointer af] eg fun eu ec => ∃ (bo : Int), eu = .returned (.int .u32 bo) ∧
 (bo ≠ (IntKind.u32.wrap (aa + 1)) →
 R (.bool false) ec) ∧
 (bo = (IntKind.u32.wrap (aa + 1)) →
 Calls Try.prog 32 #[.pointer ac] ec fun ev e6 => ∃ (bj : Int), ev = .returned (.int .i64 bj) ∧
 (bj ≠ 0 →
 R (.bool false) e6) ∧
 (bj = 0 →
 Calls Try.prog 22 #[.pointer ac] e6 fun g3 ee => ∃ (c0 : Int), g3 = .returned (.int .i64 c0) ∧
 (c0 ≠ a3 →
 R (.bool false) ee) ∧
 (c0 = a3 →
 Calls Try.prog 33 #[.pointer ac] ee fun f6 e4 => ∃ (bf : Int), f6 = .returned (.int .u32 bf) ∧
 (bf ≠ (IntKind.u32.wrap (aa + 1)) →
 R (.bool false) e4) ∧
 (bf = (IntKind.u32.wrap (aa + 1)) →
 ∀ (dz : World), Ext no e4 dz →
 Calls Try.prog 23 #[.pointer af, .slice ep cl eq] dz fun gh gc => ∃ (a6 : Int), gh = .returned (.int .i64 a6) ∧
 Calls Try.prog 23 #[.pointer ac, .slice ep cl eq] gc fun es ab => ∃ (a1 : Int), es = .returned (.int .i64 a1) ∧
 ((cachetteref10_Parts.F (cl : Int)) = 0 →
 (a6 = 3 →
 (a1 = 3 →
 Calls Try.prog 8 #[] ab fun et f2 => ∃ (cd : Bool), et = .returned (.bool cd) ∧
 R (.bool cd) f2) ∧
 (a1 ≠ 3 →
 R (.bool false) ab)) ∧
 (a6 ≠ 3 →
 R (.bool false) ab)) ∧
 ((cachetteref10_Parts.F (cl : Int)) ≠ 0 →
 (-9223372036854775808 : Int) ≤ (a3 - a8) ∧ (a3 - a8) < 9223372036854775808 ∧
 ((a6 == 0) ≠ (decide ((cachetteref10_Parts.F (cl : Int)) ≤ (a3 - a8))) →
 R (.bool false) ab) ∧
 ((a6 == 0) = (decide ((cachetteref10_Parts.F (cl : Int)) ≤ (a3 - a8))) →
 ((a1 == 0) ≠ (decide ((cachetteref10_Parts.F (cl : Int)) ≤ a3)) →
 R (.bool false) ab) ∧
 ((a1 == 0) = (decide ((cachetteref10_Parts.F (cl : Int)) ≤ a3)) →
 (a6 ≠ 0 →
 (a6 ≠ 18 →
 R (.bool false) ab) ∧
 (a6 = 18 →
 (a1 ≠ 0 →
 (a1 ≠ 18 →
 R (.bool false) ab) ∧
 (a1 = 18 →
 Calls Try.prog 31 #[.pointer ad, .int .i64 a7, .int .i64 a3] ab fun fd fk => ∃ (az : Option Addr) (b3 : Nat) (ap : Nat), fd = .returned (.slice az b3 ap) ∧
 Calls Try.prog 17 #[.slice az b3 ap, .int .u32 aj] fk fun fm f4 => ∃ (d9 : Option Addr) (d6 : Nat) (d8 : Nat) (da : Int) (de : Int), fm = .returned (.tuple #[.slice d9 d6 d8, .int .i64 da, .int .u32 de]) ∧
 Calls Try.prog 31 #[.pointer ak, .int .i64 a7, .int .i64 a3] f4 fun fl f8 => ∃ (ba : Option Addr) (b6 : Nat) (au : Nat), fl = .returned (.slice ba b6 au) ∧
 Calls Try.prog 17 #[.slice ba b6 au, .int .u32 aj] f8 fun fb f3 => ∃ (d4 : Option Addr) (cp : Nat) (cy : Nat) (dd : Int) (dc : Int), fb = .returned (.tuple #[.slice d4 cp cy, .int .i64 dd, .int .u32 dc]) ∧
 Calls Try.prog 8 #[] f3 fun f0 f7 => ∃ (c6 : Bool), f0 = .returned (.bool c6) ∧
 R (.bool c6) f7)) ∧
 (a1 = 0 →
 Calls Try.prog 31 #[.pointer ad, .int .i64 a7, .int .i64 a3] ab fun gb ga => ∃ (b9 : Option Addr) (aq : Nat) (b8 : Nat), gb = .returned (.slice b9 aq b8) ∧
 Calls Try.prog 17 #[.slice b9 aq b8, .int .u32 aj] ga fun fw g4 => ∃ (d2 : Option Addr) (d1 : Nat) (cs : Nat) (dg : Int) (db : Int), fw = .returned (.tuple #[.slice d2 d1 cs, .int .i64 dg, .int .u32 db]) ∧
 Calls Try.prog 31 #[.pointer ak, .int .i64 a7, .int .i64 a3] g4 fun f9 fq => ∃ (ar : Option Addr) (b1 : Nat) (aw : Nat), f9 = .returned (.slice ar b1 aw) ∧
 Calls Try.prog 17 #[.slice ar b1 aw, .int .u32 aj] fq fun fr cr => ∃ (c5 : Option Addr) (ag : Nat) (cu : Nat) (dm : Int) (dh : Int), fr = .returned (.tuple #[.slice c5 ag cu, .int .i64 dm, .int .u32 dh]) ∧
 ((ag : Int) ≥ 1 →
 ∃ fx : Addr, c5 = some fx ∧
 (0 : Int) < (ag : Int) ∧
 ∃ (e3 : Option Addr) (du : Nat) (e1 : Nat), cr.cell? (fx.add (Int.toNat 0 * 1)) = some (.slice e3 du e1) ∧
 Calls Try.prog 27 #[.slice e3 du e1, .slice ep cl eq] cr fun fi e0 => ∃ (bu : Bool), fi = .returned (.bool bu) ∧
 (bu = true →
 Calls Try.prog 8 #[] e0 fun f1 ey => ∃ (ca : Bool), f1 = .returned (.bool ca) ∧
 R (.bool ca) ey) ∧
 (bu = false →
 R (.bool false) e0)) ∧
 ((ag : Int) < 1 →
 R (.bool false) cr)))) ∧
 (a6 = 0 →
 (a1 ≠ 0 →
 (a1 ≠ 18 →
 R (.bool false) ab) ∧
 (a1 = 18 →
 Calls Try.prog 31 #[.pointer ad, .int .i64 a7, .int .i64 a3] ab fun fy gi => ∃ (b0 : Option Addr) (am : Nat) (b7 : Nat), fy = .returned (.slice b0 am b7) ∧
 Calls Try.prog 17 #[.slice b0 am b7, .int .u32 aj] gi fun fu e7 => ∃ (bi : Option Addr) (ae : Nat) (bm : Nat) (di : Int) (dp : Int), fu = .returned (.tuple #[.slice bi ae bm, .int .i64 di, .int .u32 dp]) ∧
 (-9223372036854775808 : Int) ≤ ((a0 : Int) + 1) ∧ ((a0 : Int) + 1) < 9223372036854775808 ∧
 ((ae : Int) < ((a0 : Int) + 1) →
 R (.bool false) e7) ∧
 (((a0 : Int) + 1) ≤ (ae : Int) →
 (0 : Int) ≤ ((a0 : Int) : Int) ∧ ((a0 : Int) : Int) ≤ (bm : Int) ∧ 
 Calls Try.prog 11 #[.slice bi (Int.toNat (a0 : Int)) bm, .slice bc a0 bd] e7 fun ez cw => ∃ (bk : Bool), ez = .returned (.bool bk) ∧
 (bk = false →
 R (.bool false) cw) ∧
 (bk = true →
 ∃ er : Addr, bi = some er ∧
 0 ≤ ((a0 : Int) : Int) ∧ ((a0 : Int) : Int) < (ae : Int) ∧
 ∃ (ei : Option Addr) (eh : Nat) (em : Nat), cw.cell? (er.add (Int.toNat (a0 : Int) * 1)) = some (.slice ei eh em) ∧
 Calls Try.prog 27 #[.slice ei eh em, .slice ep cl eq] cw fun fp e8 => ∃ (bw : Bool), fp = .returned (.bool bw) ∧
 (bw = false →
 R (.bool false) e8) ∧
 (bw = true →
 Calls Try.prog 31 #[.pointer ak, .int .i64 a7, .int .i64 a3] e8 fun g8 ex => ∃ (ax : Option Addr) (ay : Nat) (b4 : Nat), g8 = .returned (.slice ax ay b4) ∧
 Calls Try.prog 17 #[.slice ax ay b4, .int .u32 aj] ex fun fv g1 => ∃ (ct : Option Addr) (cv : Nat) (d3 : Nat) (dn : Int) (dk : Int), fv = .returned (.tuple #[.slice ct cv d3, .int .i64 dn, .int .u32 dk]) ∧
 Calls Try.prog 8 #[] g1 fun fo fc => ∃ (c4 : Bool), fo = .returned (.bool c4) ∧
 R (.bool c4) fc))))) ∧
 (a1 = 0 →
 Calls Try.prog 31 #[.pointer ad, .int .i64 a7, .int .i64 a3] ab fun f5 ff => ∃ (an : Option Addr) (bb : Nat) (b2 : Nat), f5 = .returned (.slice an bb b2) ∧
 Calls Try.prog 17 #[.slice an bb b2, .int .u32 aj] ff fun g2 eb => ∃ (bp : Option Addr) (ah : Nat) (bq : Nat) (ds : Int) (dj : Int), g2 = .returned (.tuple #[.slice bp ah bq, .int .i64 ds, .int .u32 dj]) ∧
 (-9223372036854775808 : Int) ≤ ((a0 : Int) + 1) ∧ ((a0 : Int) + 1) < 9223372036854775808 ∧
 ((ah : Int) < ((a0 : Int) + 1) →
 R (.bool false) eb) ∧
 (((a0 : Int) + 1) ≤ (ah : Int) →
 (0 : Int) ≤ ((a0 : Int) : Int) ∧ ((a0 : Int) : Int) ≤ (bq : Int) ∧ 
 Calls Try.prog 11 #[.slice bp (Int.toNat (a0 : Int)) bq, .slice bc a0 bd] eb fun g9 d0 => ∃ (br : Bool), g9 = .returned (.bool br) ∧
 (br = false →
 R (.bool false) d0) ∧
 (br = true →
 ∃ gg : Addr, bp = some gg ∧
 0 ≤ ((a0 : Int) : Int) ∧ ((a0 : Int) : Int) < (ah : Int) ∧
 ∃ (ek : Option Addr) (ef : Nat) (el : Nat), d0.cell? (gg.add (Int.toNat (a0 : Int) * 1)) = some (.slice ek ef el) ∧
 Calls Try.prog 27 #[.slice ek ef el, .slice ep cl eq] d0 fun ge dy => ∃ (bv : Bool), ge = .returned (.bool bv) ∧
 (bv = false →
 R (.bool false) dy) ∧
 (bv = true →
 Calls Try.prog 31 #[.pointer ak, .int .i64 a7, .int .i64 a3] dy fun fz gd => ∃ (b5 : Option Addr) (av : Nat) (ao : Nat), fz = .returned (.slice b5 av ao) ∧
 Calls Try.prog 17 #[.slice b5 av ao, .int .u32 aj] gd fun g6 cz => ∃ (c3 : Option Addr) (ai : Nat) (cq : Nat) (dl : Int) (df : Int), g6 = .returned (.tuple #[.slice c3 ai cq, .int .i64 dl, .int .u32 df]) ∧
 ((ai : Int) ≥ 1 →
 ∃ fj : Addr, c3 = some fj ∧
 (0 : Int) < (ai : Int) ∧
 ∃ (dt : Option Addr) (ea : Nat) (dw : Nat), cz.cell? (fj.add (Int.toNat 0 * 1)) = some (.slice dt ea dw) ∧
 Calls Try.prog 27 #[.slice dt ea dw, .slice ep cl eq] cz fun g7 en => ∃ (bz : Bool), g7 = .returned (.bool bz) ∧
 (bz = true →
 Calls Try.prog 8 #[] en fun g5 fs => ∃ (c1 : Bool), g5 = .returned (.bool c1) ∧
 R (.bool c1) fs) ∧
 (bz = false →
 R (.bool false) en)) ∧
 ((ai : Int) < 1 →
 R (.bool false) cz))))))))))))))))))))))))))))

theorem cachettelaw10_JournalOpens.up (ix : Option Addr) (gk : Nat) (gj : Nat) (dj : Int) (dk : Int) (ek : Int) (im : Option Addr) (fe : Nat) (i2 : Nat) {R : Value → World → Prop} {w : World} (h : cachettelaw10_JournalOpens.N ix gk gj dj dk ek im fe i2 R w) : cachettelaw10_JournalOpens.M ix gk gj dj dk ek im fe i2 R w := by
  unfold cachettelaw10_JournalOpens.M
  unfold cachettelaw10_JournalOpens.N at h
  refine h.mono fun kp kq h => ?_
  obtain ⟨ar, he, h⟩ := h
  refine ⟨ar, he, ?_⟩
  refine bif_of (fun c9 => ?_) (fun c9 => ?_)
  · have h := h.1 (not_t c9)
    refine h.mono fun kj k9 h => ?_
    obtain ⟨cj, he, h⟩ := h
    refine ⟨cj, he, ?_⟩
    exact h
  · have h := h.2 (not_f c9)
    refine bif_of (fun g1 => ?_) (fun g1 => ?_)
    · have h := h.1 (of_decide_eq_true g1)
      refine h.mono fun kf ka h => ?_
      obtain ⟨d4, he, h⟩ := h
      refine ⟨d4, he, ?_⟩
      exact h
    · have h := h.2 (Int.not_lt.1 (of_decide_eq_false g1))
      refine h.mono fun kk jt h => ?_
      obtain ⟨eo, er, he, h⟩ := h
      refine ⟨eo, er, he, ?_⟩
      refine bif_of (fun g0 => ?_) (fun g0 => ?_)
      · have h := h.1 (bne_t g0)
        exact h
      · have h := h.2 (bne_f g0)
        obtain ⟨I0, k0, h0, h⟩ := h
        refine ⟨I0, k0, h0, fun js g6 kc hI => ?_⟩
        have h := h js g6 kc hI
        refine bif_of (fun fq => ?_) (fun fq => ?_)
        · have h := h.1 (of_decide_eq_true fq)
          obtain ⟨ko, fj, h⟩ := h
          refine elim_some fj ?_
          obtain ⟨cg, co, h⟩ := h
          refine ⟨cg, co, ?_⟩
          obtain ⟨dt, cb, e6, ev, et, ex, cq, f0, el, g2, h⟩ := h
          refine ⟨dt, cb, e6, ev, et, ex, cq, f0, el, g2, ?_⟩
          refine h.mono fun jx ju h => ?_
          obtain ⟨bm, c6, b9, dg, he, h⟩ := h
          refine ⟨bm, c6, b9, dg, he, ?_⟩
          refine bif_of (fun fo => ?_) (fun fo => ?_)
          · have h := h.1 fo
            refine h.mono fun kn k4 h => ?_
            obtain ⟨di, he, h⟩ := h
            refine ⟨di, he, ?_⟩
            obtain ⟨au, ax, h⟩ := h
            try rw [w64 au ax]
            obtain ⟨jv, hk, h⟩ := h
            exact ⟨jv, hk, h⟩
          · have h := h.2 fo
            obtain ⟨au, ax, h⟩ := h
            try rw [w64 au ax]
            obtain ⟨k5, hk, h⟩ := h
            exact ⟨k5, hk, h⟩
        · have h := h.2 (Int.not_lt.1 (of_decide_eq_false fq))
          refine h.mono fun kg jq h => ?_
          obtain ⟨dn, he, h⟩ := h
          refine ⟨dn, he, ?_⟩
          refine h.mono fun k7 k8 h => ?_
          obtain ⟨ec, he, h⟩ := h
          refine ⟨ec, he, ?_⟩
          refine h.mono fun jp k3 h => ?_
          obtain ⟨cf, cd, bz, bx, ch, he, h⟩ := h
          refine ⟨cf, cd, bz, bx, ch, he, ?_⟩
          refine h.mono fun jl jm h => ?_
          obtain ⟨bv, bs, he, h⟩ := h
          refine ⟨bv, bs, he, ?_⟩
          refine bif_of (fun ft => ?_) (fun ft => ?_)
          · have h := h.1 (beq_t ft)
            refine bif_of (fun fw => ?_) (fun fw => ?_)
            · have h := h.1 (beq_t fw)
              refine bif_of (fun fh => ?_) (fun fh => ?_)
              · have h := h.1 (beq_t fh)
                refine bif_of (fun g5 => ?_) (fun g5 => ?_)
                · have h := h.1 (beq_t g5)
                  refine h.mono fun jz jo h => ?_
                  obtain ⟨cl, he, h⟩ := h
                  refine ⟨cl, he, ?_⟩
                  exact h
                · have h := h.2 (beq_f g5)
                  exact h
              · have h := h.2 (beq_f fh)
                exact h
            · have h := h.2 (beq_f fw)
              exact h
          · have h := h.2 (beq_f ft)
            refine bif_of (fun g7 => ?_) (fun g7 => ?_)
            · have h := h.1 (of_decide_eq_true g7)
              refine bif_of (fun fx => ?_) (fun fx => ?_)
              · have h := h.1 (beq_t fx)
                refine bif_of (fun ff => ?_) (fun ff => ?_)
                · have h := h.1 (beq_t ff)
                  refine bif_of (fun fy => ?_) (fun fy => ?_)
                  · have h := h.1 (beq_t fy)
                    refine h.mono fun jw jr h => ?_
                    obtain ⟨ct, he, h⟩ := h
                    refine ⟨ct, he, ?_⟩
                    exact h
                  · have h := h.2 (beq_f fy)
                    exact h
                · have h := h.2 (beq_f ff)
                  exact h
              · have h := h.2 (beq_f fx)
                exact h
            · have h := h.2 (Int.not_lt.1 (of_decide_eq_false g7))
              refine bif_of (fun fr => ?_) (fun fr => ?_)
              · have h := h.1 (of_decide_eq_true fr)
                refine bif_of (fun fk => ?_) (fun fk => ?_)
                · have h := h.1 (beq_t fk)
                  refine bif_of (fun fl => ?_) (fun fl => ?_)
                  · have h := h.1 (beq_t fl)
                    refine bif_of (fun fi => ?_) (fun fi => ?_)
                    · have h := h.1 (beq_t fi)
                      refine h.mono fun ki km h => ?_
                      obtain ⟨da, he, h⟩ := h
                      refine ⟨da, he, ?_⟩
                      exact h
                    · have h := h.2 (beq_f fi)
                      exact h
                  · have h := h.2 (beq_f fl)
                    exact h
                · have h := h.2 (beq_f fk)
                  exact h
              · have h := h.2 (Int.not_lt.1 (of_decide_eq_false fr))
                refine bif_of (fun fs => ?_) (fun fs => ?_)
                · have h := h.1 (of_decide_eq_true fs)
                  refine bif_of (fun fz => ?_) (fun fz => ?_)
                  · have h := h.1 (beq_t fz)
                    refine bif_of (fun fv => ?_) (fun fv => ?_)
                    · have h := h.1 (beq_t fv)
                      refine bif_of (fun fp => ?_) (fun fp => ?_)
                      · have h := h.1 (beq_t fp)
                        refine h.mono fun jy kd h => ?_
                        obtain ⟨d2, he, h⟩ := h
                        refine ⟨d2, he, ?_⟩
                        exact h
                      · have h := h.2 (beq_f fp)
                        exact h
                    · have h := h.2 (beq_f fv)
                      exact h
                  · have h := h.2 (beq_f fz)
                    exact h
                · have h := h.2 (Int.not_lt.1 (of_decide_eq_false fs))
                  obtain ⟨au, ax, h⟩ := h
                  try rw [w64 au ax]
                  refine bif_of (fun fg => ?_) (fun fg => ?_)
                  · have h := h.1 (of_decide_eq_true fg)
                    refine bif_of (fun g3 => ?_) (fun g3 => ?_)
                    · have h := h.1 (beq_t g3)
                      refine bif_of (fun g4 => ?_) (fun g4 => ?_)
                      · have h := h.1 (beq_t g4)
                        refine bif_of (fun fu => ?_) (fun fu => ?_)
                        · have h := h.1 (beq_t fu)
                          refine h.mono fun kh jn h => ?_
                          obtain ⟨cx, he, h⟩ := h
                          refine ⟨cx, he, ?_⟩
                          exact h
                        · have h := h.2 (beq_f fu)
                          exact h
                      · have h := h.2 (beq_f g4)
                        exact h
                    · have h := h.2 (beq_f g3)
                      exact h
                  · have h := h.2 (Int.not_lt.1 (of_decide_eq_false fg))
                    refine h.mono fun k1 kb h => ?_
                    obtain ⟨aq, ap, ao, he, h⟩ := h
                    refine ⟨aq, ap, ao, he, ?_⟩
                    refine h.mono fun io i8 h => ?_
                    obtain ⟨cw, ci, d1, cu, d0, he, h⟩ := h
                    refine ⟨cw, ci, d1, cu, d0, he, ?_⟩
                    refine bif_of (fun dw => ?_) (fun dw => ?_)
                    · have h := h.1 (beq_t dw)
                      refine bif_of (fun e7 => ?_) (fun e7 => ?_)
                      · have h := h.1 (beq_t e7)
                        refine bif_of (fun dp => ?_) (fun dp => ?_)
                        · have h := h.1 (beq_t dp)
                          refine h.mono fun gx i6 h => ?_
                          obtain ⟨bl, he, h⟩ := h
                          refine ⟨bl, he, ?_⟩
                          exact h
                        · have h := h.2 (beq_f dp)
                          exact h
                      · have h := h.2 (beq_f e7)
                        exact h
                    · have h := h.2 (beq_f dw)
                      refine bif_of (fun dq => ?_) (fun dq => ?_)
                      · have h := h.1 (bne_t dq)
                        exact h
                      · have h := h.2 (bne_f dq)
                        refine bif_of (fun dy => ?_) (fun dy => ?_)
                        · have h := h.1 (bne_t dy)
                          exact h
                        · have h := h.2 (bne_f dy)
                          refine h.mono fun ie j8 h => ?_
                          obtain ⟨c5, he, h⟩ := h
                          refine ⟨c5, he, ?_⟩
                          refine bif_of (fun du => ?_) (fun du => ?_)
                          · have h := h.1 (not_t du)
                            exact h
                          · have h := h.2 (not_f du)
                            refine h.mono fun gc i0 h => ?_
                            obtain ⟨bt, he, h⟩ := h
                            refine ⟨bt, he, ?_⟩
                            refine bif_of (fun ej => ?_) (fun ej => ?_)
                            · have h := h.1 (bne_t ej)
                              exact h
                            · have h := h.2 (bne_f ej)
                              refine h.mono fun i4 jg h => ?_
                              obtain ⟨ce, he, h⟩ := h
                              refine ⟨ce, he, ?_⟩
                              obtain ⟨au, ax, h⟩ := h
                              try rw [w64 au ax]
                              refine bif_of (fun e3 => ?_) (fun e3 => ?_)
                              · have h := h.1 (bne_t e3)
                                exact h
                              · have h := h.2 (bne_f e3)
                                refine h.mono fun i5 jf h => ?_
                                obtain ⟨b8, he, h⟩ := h
                                refine ⟨b8, he, ?_⟩
                                refine bif_of (fun ds => ?_) (fun ds => ?_)
                                · have h := h.1 (bne_t ds)
                                  exact h
                                · have h := h.2 (bne_f ds)
                                  refine h.mono fun g9 gv h => ?_
                                  obtain ⟨az, he, h⟩ := h
                                  refine ⟨az, he, ?_⟩
                                  refine bif_of (fun eh => ?_) (fun eh => ?_)
                                  · have h := h.1 (bne_t eh)
                                    exact h
                                  · have h := h.2 (bne_f eh)
                                    refine h.mono fun i1 iq h => ?_
                                    obtain ⟨d3, he, h⟩ := h
                                    refine ⟨d3, he, ?_⟩
                                    refine bif_of (fun dv => ?_) (fun dv => ?_)
                                    · have h := h.1 (bne_t dv)
                                      exact h
                                    · have h := h.2 (bne_f dv)
                                      refine h.mono fun j1 f2 h => ?_
                                      obtain ⟨bh, he, h⟩ := h
                                      refine ⟨bh, he, ?_⟩
                                      refine bif_of (fun dm => ?_) (fun dm => ?_)
                                      · have h := h.1 (bne_t dm)
                                        exact h
                                      · have h := h.2 (bne_f dm)
                                        refine (cachetteref10_Parts.pure (fe : Int)).mono fun ee ww140 ⟨he, hxx⟩ => ⟨(cachetteref10_Parts.F (fe : Int)), he, ?_⟩
                                        have ew := (Ext.refl no f2).trans hxx
                                        have h := h ww140 ew
                                        refine h.mono fun jk iw h => ?_
                                        obtain ⟨av, he, h⟩ := h
                                        refine ⟨av, he, ?_⟩
                                        refine h.mono fun iy jh h => ?_
                                        obtain ⟨aw, he, h⟩ := h
                                        refine ⟨aw, he, ?_⟩
                                        refine bif_of (fun ea => ?_) (fun ea => ?_)
                                        · have h := h.1 (beq_t ea)
                                          refine bif_of (fun e9 => ?_) (fun e9 => ?_)
                                          · have h := h.1 (beq_t e9)
                                            refine bif_of (fun e2 => ?_) (fun e2 => ?_)
                                            · have h := h.1 (beq_t e2)
                                              refine h.mono fun g8 ga h => ?_
                                              obtain ⟨be, he, h⟩ := h
                                              refine ⟨be, he, ?_⟩
                                              exact h
                                            · have h := h.2 (beq_f e2)
                                              exact h
                                          · have h := h.2 (beq_f e9)
                                            exact h
                                        · have h := h.2 (beq_f ea)
                                          obtain ⟨au, ax, h⟩ := h
                                          try rw [w64 au ax]
                                          refine bif_of (fun ei => ?_) (fun ei => ?_)
                                          · have h := h.1 (bbeq_f (not_t ei))
                                            exact h
                                          · have h := h.2 (bbeq_t (not_f ei))
                                            refine bif_of (fun dz => ?_) (fun dz => ?_)
                                            · have h := h.1 (bbeq_f (not_t dz))
                                              exact h
                                            · have h := h.2 (bbeq_t (not_f dz))
                                              refine bif_of (fun bb => ?_) (fun bb => ?_)
                                              · have h := h.1 (bne_t bb)
                                                refine bif_of (fun bw => ?_) (fun bw => ?_)
                                                · have h := h.1 (bne_t bw)
                                                  exact h
                                                · have h := h.2 (bne_f bw)
                                                  refine bif_of (fun ca => ?_) (fun ca => ?_)
                                                  · have h := h.1 (bne_t ca)
                                                    refine bif_of (fun e1 => ?_) (fun e1 => ?_)
                                                    · have h := h.1 (bne_t e1)
                                                      exact h
                                                    · have h := h.2 (bne_f e1)
                                                      refine h.mono fun j6 ge h => ?_
                                                      obtain ⟨ak, a8, aa, he, h⟩ := h
                                                      refine ⟨ak, a8, aa, he, ?_⟩
                                                      refine h.mono fun j9 i9 h => ?_
                                                      obtain ⟨c1, br, c0, cr, d6, he, h⟩ := h
                                                      refine ⟨c1, br, c0, cr, d6, he, ?_⟩
                                                      refine bif_ff (cong1 (r := false) (fun z => z == 0) (bne_f bw) (by decide)) ?_
                                                      refine h.mono fun j7 j3 h => ?_
                                                      obtain ⟨ae, a3, ah, he, h⟩ := h
                                                      refine ⟨ae, a3, ah, he, ?_⟩
                                                      refine h.mono fun ig gb h => ?_
                                                      obtain ⟨bq, bg, b7, dd, d5, he, h⟩ := h
                                                      refine ⟨bq, bg, b7, dd, d5, he, ?_⟩
                                                      refine bif_tt ca ?_
                                                      refine h.mono fun i7 ib h => ?_
                                                      obtain ⟨c8, he, h⟩ := h
                                                      refine ⟨c8, he, ?_⟩
                                                      exact h
                                                  · have h := h.2 (bne_f ca)
                                                    refine h.mono fun i3 gn h => ?_
                                                    obtain ⟨a4, a1, ad, he, h⟩ := h
                                                    refine ⟨a4, a1, ad, he, ?_⟩
                                                    refine h.mono fun jd it h => ?_
                                                    obtain ⟨ba, bo, c4, de, dc, he, h⟩ := h
                                                    refine ⟨ba, bo, c4, de, dc, he, ?_⟩
                                                    refine bif_ff (cong1 (r := false) (fun z => z == 0) (bne_f bw) (by decide)) ?_
                                                    refine h.mono fun ic ik h => ?_
                                                    obtain ⟨a6, a7, ai, he, h⟩ := h
                                                    refine ⟨a6, a7, ai, he, ?_⟩
                                                    refine h.mono fun jb iz h => ?_
                                                    obtain ⟨b6, b3, bi, cy, ck, he, h⟩ := h
                                                    refine ⟨b6, b3, bi, cy, ck, he, ?_⟩
                                                    refine bif_ff ca ?_
                                                    refine bif_of (fun dr => ?_) (fun dr => ?_)
                                                    · have h := h.1 (of_decide_eq_true dr)
                                                      obtain ⟨kl, f1, h⟩ := h
                                                      refine elim_some f1 ?_
                                                      obtain ⟨co, h⟩ := h
                                                      refine ⟨by decide, co, ?_⟩
                                                      obtain ⟨eu, ey, ep, em, h⟩ := h
                                                      refine ⟨eu, ey, ep, em, ?_⟩
                                                      refine h.mono fun ih j5 h => ?_
                                                      obtain ⟨cs, he, h⟩ := h
                                                      refine ⟨cs, he, ?_⟩
                                                      refine bif_of (fun dl => ?_) (fun dl => ?_)
                                                      · have h := h.1 dl
                                                        refine h.mono fun gu gs h => ?_
                                                        obtain ⟨bn, he, h⟩ := h
                                                        refine ⟨bn, he, ?_⟩
                                                        exact h
                                                      · have h := h.2 dl
                                                        exact h
                                                    · have h := h.2 (Int.not_le.1 (of_decide_eq_false dr))
                                                      exact h
                                              · have h := h.2 (bne_f bb)
                                                refine bif_of (fun bj => ?_) (fun bj => ?_)
                                                · have h := h.1 (bne_t bj)
                                                  refine bif_of (fun dx => ?_) (fun dx => ?_)
                                                  · have h := h.1 (bne_t dx)
                                                    exact h
                                                  · have h := h.2 (bne_f dx)
                                                    refine h.mono fun gh gq h => ?_
                                                    obtain ⟨al, a5, an, he, h⟩ := h
                                                    refine ⟨al, a5, an, he, ?_⟩
                                                    refine h.mono fun il ja h => ?_
                                                    obtain ⟨c2, b0, bk, cv, dh, he, h⟩ := h
                                                    refine ⟨c2, b0, bk, cv, dh, he, ?_⟩
                                                    refine bif_tt (cong1 (r := true) (fun z => z == 0) (bne_f bb) (by decide)) ?_
                                                    obtain ⟨au, ax, h⟩ := h
                                                    try rw [w64 au ax]
                                                    refine bif_of (fun eg => ?_) (fun eg => ?_)
                                                    · have h := h.1 (of_decide_eq_true eg)
                                                      exact h
                                                    · have h := h.2 (Int.not_lt.1 (of_decide_eq_false eg))
                                                      obtain ⟨fm, cg, h⟩ := h
                                                      refine ⟨fm, cg, ?_⟩
                                                      try rw [cut_zero]
                                                      refine h.mono fun gt ii h => ?_
                                                      obtain ⟨b1, he, h⟩ := h
                                                      refine ⟨b1, he, ?_⟩
                                                      refine bif_of (fun e8 => ?_) (fun e8 => ?_)
                                                      · have h := h.1 (not_t e8)
                                                        exact h
                                                      · have h := h.2 (not_f e8)
                                                        obtain ⟨ke, f7, h⟩ := h
                                                        refine elim_some f7 ?_
                                                        obtain ⟨cg, co, h⟩ := h
                                                        refine ⟨cg, co, ?_⟩
                                                        obtain ⟨fc, fb, f4, f5, h⟩ := h
                                                        refine ⟨fc, fb, f4, f5, ?_⟩
                                                        refine h.mono fun gf gw h => ?_
                                                        obtain ⟨cm, he, h⟩ := h
                                                        refine ⟨cm, he, ?_⟩
                                                        refine bif_of (fun e5 => ?_) (fun e5 => ?_)
                                                        · have h := h.1 (not_t e5)
                                                          exact h
                                                        · have h := h.2 (not_f e5)
                                                          refine h.mono fun gm j0 h => ?_
                                                          obtain ⟨ab, aj, am, he, h⟩ := h
                                                          refine ⟨ab, aj, am, he, ?_⟩
                                                          refine h.mono fun gz gi h => ?_
                                                          obtain ⟨b2, bu, bc, cz, cn, he, h⟩ := h
                                                          refine ⟨b2, bu, bc, cz, cn, he, ?_⟩
                                                          refine bif_tt bj ?_
                                                          refine h.mono fun ij j4 h => ?_
                                                          obtain ⟨b4, he, h⟩ := h
                                                          refine ⟨b4, he, ?_⟩
                                                          exact h
                                                · have h := h.2 (bne_f bj)
                                                  refine h.mono fun ia gd h => ?_
                                                  obtain ⟨a0, af, a9, he, h⟩ := h
                                                  refine ⟨a0, af, a9, he, ?_⟩
                                                  refine h.mono fun ir gy h => ?_
                                                  obtain ⟨cc, b5, bp, db, df, he, h⟩ := h
                                                  refine ⟨cc, b5, bp, db, df, he, ?_⟩
                                                  refine bif_tt (cong1 (r := true) (fun z => z == 0) (bne_f bb) (by decide)) ?_
                                                  obtain ⟨au, ax, h⟩ := h
                                                  try rw [w64 au ax]
                                                  refine bif_of (fun ed => ?_) (fun ed => ?_)
                                                  · have h := h.1 (of_decide_eq_true ed)
                                                    exact h
                                                  · have h := h.2 (Int.not_lt.1 (of_decide_eq_false ed))
                                                    obtain ⟨fm, cg, h⟩ := h
                                                    refine ⟨fm, cg, ?_⟩
                                                    try rw [cut_zero]
                                                    refine h.mono fun ji ip h => ?_
                                                    obtain ⟨bf, he, h⟩ := h
                                                    refine ⟨bf, he, ?_⟩
                                                    refine bif_of (fun eb => ?_) (fun eb => ?_)
                                                    · have h := h.1 (not_t eb)
                                                      exact h
                                                    · have h := h.2 (not_f eb)
                                                      obtain ⟨k2, en, h⟩ := h
                                                      refine elim_some en ?_
                                                      obtain ⟨cg, co, h⟩ := h
                                                      refine ⟨cg, co, ?_⟩
                                                      obtain ⟨f3, fa, fd, eq, h⟩ := h
                                                      refine ⟨f3, fa, fd, eq, ?_⟩
                                                      refine h.mono fun jj j2 h => ?_
                                                      obtain ⟨d8, he, h⟩ := h
                                                      refine ⟨d8, he, ?_⟩
                                                      refine bif_of (fun e4 => ?_) (fun e4 => ?_)
                                                      · have h := h.1 (not_t e4)
                                                        exact h
                                                      · have h := h.2 (not_f e4)
                                                        refine h.mono fun je gp h => ?_
                                                        obtain ⟨ac, a2, ag, he, h⟩ := h
                                                        refine ⟨ac, a2, ag, he, ?_⟩
                                                        refine h.mono fun iv jc h => ?_
                                                        obtain ⟨c7, bd, ay, d9, d7, he, h⟩ := h
                                                        refine ⟨c7, bd, ay, d9, d7, he, ?_⟩
                                                        refine bif_ff bj ?_
                                                        refine bif_of (fun ef => ?_) (fun ef => ?_)
                                                        · have h := h.1 (of_decide_eq_true ef)
                                                          obtain ⟨k6, es, h⟩ := h
                                                          refine elim_some es ?_
                                                          obtain ⟨co, h⟩ := h
                                                          refine ⟨by decide, co, ?_⟩
                                                          obtain ⟨f6, f9, ez, f8, h⟩ := h
                                                          refine ⟨f6, f9, ez, f8, ?_⟩
                                                          refine h.mono fun gl gr h => ?_
                                                          obtain ⟨cp, he, h⟩ := h
                                                          refine ⟨cp, he, ?_⟩
                                                          refine bif_of (fun e0 => ?_) (fun e0 => ?_)
                                                          · have h := h.1 e0
                                                            refine h.mono fun iu gg h => ?_
                                                            obtain ⟨c3, he, h⟩ := h
                                                            refine ⟨c3, he, ?_⟩
                                                            exact h
                                                          · have h := h.2 e0
                                                            exact h
                                                        · have h := h.2 (Int.not_le.1 (of_decide_eq_false ef))
                                                          exact h

theorem cachettelaw10_JournalOpens.go (a6 : Option Addr) (a4 : Nat) (a8 : Nat) (a1 : Int) (a0 : Int) (a2 : Int) (a5 : Option Addr) (a3 : Nat) (a7 : Nat) {R : Value → World → Prop} {w : World} (h : cachettelaw10_JournalOpens.N a6 a4 a8 a1 a0 a2 a5 a3 a7 R w) : Calls Try.prog 7 #[.slice a6 a4 a8, .int .i64 a1, .int .i64 a0, .int .u32 a2, .slice a5 a3 a7] w fun e w' => ∃ v, e = .returned v ∧ R v w' := cachettelaw10_JournalOpens.ok a6 a4 a8 a1 a0 a2 a5 a3 a7 (cachettelaw10_JournalOpens.up a6 a4 a8 a1 a0 a2 a5 a3 a7 h)
theorem cachettelaw10_JournalOpens.run (a6 : Option Addr) (a4 : Nat) (a8 : Nat) (a1 : Int) (a0 : Int) (a2 : Int) (a5 : Option Addr) (a3 : Nat) (a7 : Nat) {V : Value} {Q : World → Prop} {w : World} (h : cachettelaw10_JournalOpens.N a6 a4 a8 a1 a0 a2 a5 a3 a7 (fun v w' => v = V ∧ Q w') w) : Calls Try.prog 7 #[.slice a6 a4 a8, .int .i64 a1, .int .i64 a0, .int .u32 a2, .slice a5 a3 a7] w (Ret V Q) := (cachettelaw10_JournalOpens.go a6 a4 a8 a1 a0 a2 a5 a3 a7 h).mono fun e w' ⟨v, he, hv, hq⟩ => ⟨by rw [he, hv], hq⟩

end Go.Proofs.Ytgcjipbahfpopaa

/- JournalOpens. -/
set_option linter.unusedVariables false
set_option linter.unusedSimpArgs false
set_option maxRecDepth 20000
set_option maxHeartbeats 4000000
namespace Go.Proofs.Ytgcjipbahfpopaa
open Go Go.Mx Go.Proofs
open W (OwnB GivesW)
theorem up_write {d : DS} (h : Up d) (i : Int) (b : List UInt8) : Up (writeD d i b).1 := by
  obtain ⟨h1, h2⟩ := h
  unfold writeD
  split
  · split
    · rw [h2, if_neg (by decide)]; exact ⟨h1, rfl⟩
    · exact ⟨h1, h2⟩
  · exact ⟨h1, h2⟩
theorem scan_short (gen : Nat) : ∀ (k : Nat) (L : List (List UInt8)) (q : Nat) (y : List UInt8), y ∈ (scanG gen k L q).1 → y.length ≤ 4000 := by
  intro k
  induction k with
  | zero => intro L q y hy; cases hy
  | succ k ih =>
    intro L q y hy
    unfold scanG at hy
    split at hy
    · cases hy
    · rename_i hne
      rcases List.mem_cons.1 hy with rfl | hy
      · by_cases hK : OKS L gen q
        · rw [standK_yes hK]; exact (frameK_zero hK.2.2.2.2).1
        · rw [standK_no hK] at hne; exact absurd rfl hne
      · exact ih _ _ _ hy
section
variable {w w' w1 : World} {o o' o1 : Own} {q g n N m : Nat} {K : Nat → Prop} {b s : List UInt8} {a : Option Addr} {c : Nat} {l : List BS} {d : DS} {J : JS}
/-- the sectors of a stretch, and what stands there. -/
theorem secScan (h : DG w o g d) (ok : Tags w o) (hd : d.ok m) (hm : m < 100000) {base size : Int} {gen : Nat} (hb0 : 0 ≤ base) (hb1 : base ≤ 1000000) (hs0 : 0 ≤ size) (hs1 : size ≤ 1000) (hg : gen < 4294967296)
    {Φ : Option Addr → Nat → Nat → Int → Int → World → Prop}
    (hΦ : ∀ o2 w2 ra rc (r : List BS), Step no w o w2 o2 → r.map BS.bs = (scanK (readsD d base.toNat size.toNat) gen).1.1 → BsRow w2 o2 ra rc r → Φ ra r.length rc (scanK (readsD d base.toNat size.toNat) gen).1.2 (scanK (readsD d base.toNat size.toNat) gen).2 w2) :
    Calls Try.prog 31 #[.pointer (some (blk g)), .int .i64 base, .int .i64 size] w fun ee97 ww98 => ∃ (sectors96a : Option Addr) (sectors96n : Nat) (sectors96c : Nat), ee97 = .returned (.slice sectors96a sectors96n sectors96c) ∧
      Calls Try.prog 17 #[.slice sectors96a sectors96n sectors96c, .int .u32 gen] ww98 fun ee102 ww103 => ∃ (scan99a : Option Addr) (scan99n : Nat) (scan99c : Nat) (scan100 : Int) (scan101 : Int), ee102 = .returned (.tuple #[.slice scan99a scan99n scan99c, .int .i64 scan100, .int .u32 scan101]) ∧ Φ scan99a scan99n scan99c scan100 scan101 ww103 := by
  refine (sectors_spec h ok hd hm hb0 hb1 hs0 (by omega)).mono fun u w2 ⟨o2, la, lc, l, he, s2, hmap, hr⟩ => ⟨_, _, _, he, ?_⟩
  have hl : l.length = size.toNat := by have := congrArg List.length hmap; rwa [List.length_map, readsD_len] at this
  refine (rScan_spec s2.ok hr.at (by omega) hg).mono fun u w4 ⟨o4, ra, rc, r, he, s4, hrm, hr4⟩ => ⟨_, _, _, _, _, he, ?_⟩
  rw [hmap] at hrm ⊢
  exact hΦ o4 w4 ra rc r (s2.trans s4) hrm hr4
end
end Go.Proofs.Ytgcjipbahfpopaa

/- JournalOpens. -/
set_option linter.unusedVariables false
set_option linter.unusedSimpArgs false
set_option maxRecDepth 20000
set_option maxHeartbeats 4000000
namespace Go.Proofs.Ytgcjipbahfpopaa
open Go Go.Mx Go.Proofs
open W (OwnB GivesW sameB_spec)
/-- what an append to an open journal on a disk that is up answers, by whether there is room. -/
theorem appendJ_ans {d : DS} {m : Nat} {J : JS} {b : List UInt8} (h : Up d) (ok : d.ok m) (hJ : J.ok) (hgen : J.gen ≠ 0) (hro : J.round ≠ 0) (hd : J.dead = false) (hdisk : J.base + J.size ≤ d.good.length) :
    (appendJ d J b).2 = if partsN b.length = 0 then 3 else if (partsN b.length : Int) ≤ J.size - J.tail then 0 else 18 := by
  by_cases h0 : partsN b.length = 0
  · rw [if_pos h0]; unfold appendJ; rw [if_pos h0]
  · rw [if_neg h0]
    by_cases h1 : (partsN b.length : Int) ≤ J.size - J.tail
    · rw [if_pos h1]
      have hb : b.length ≤ 4000 := by
        by_cases hb : b.length ≤ 4000
        · exact hb
        · unfold partsN at h0; rw [if_pos (by omega)] at h0; exact absurd rfl h0
      exact (append_up h ok hJ hgen hro hd hb (by omega) hdisk).1
    · rw [if_neg h1]
      unfold appendJ
      rw [if_neg h0, hd, if_neg (by decide), if_pos (by omega)]
theorem JournalOpens_spec (W : World) {la ba : Option Addr} {lc bc : Nat} {l : List RW} {b : List UInt8} {base size : Int} {gen : Nat} (hl : RowAt W la (l.flatMap RW.C)) (hgd : ∀ r ∈ l, r.good W) (hb : RowAt W ba (bytesV b)) (hbc : b.length ≤ bc) (hg : gen < 4294967296) :
    Calls Try.prog 7 #[.slice la l.length lc, .int .i64 base, .int .i64 size, .int .u32 gen, .slice ba b.length bc] W (Ret (.bool true) fun w' => Ext no W w') := by
  refine cachettelaw10_JournalOpens.run _ _ _ _ _ _ _ _ _ ?_
  unfold cachettelaw10_JournalOpens.N
  have hal : ∀ w1, Ext no W w1 → Calls Try.prog 8 #[] w1 fun ee w2 => ∃ b : Bool, ee = .returned (.bool b) ∧ Value.bool b = Value.bool true ∧ Ext no W w2 := fun w1 X =>
    (alive10_spec w1).mono fun v w2 ⟨hx, X2⟩ => ⟨_, hx, rfl, X.trans X2⟩
  refine (lightRaw_spec hl).mono fun u w6 ⟨he, hw⟩ => ⟨_, he, fun _ => by subst hw; exact hal _ (Ext.refl _ _), fun hL => ⟨fun _ => by subst hw; exact hal _ (Ext.refl _ _), fun hb4 => ?_⟩⟩
  have hw' := hw.symm
  subst hw'
  obtain ⟨hL1, hL2⟩ := light10_of hL
  have ok0 : Tags W (fun _ => none) := fun b j _ h => by cases h
  refine (dNew_spec (n := 40) ok0 (by decide) (by decide)).mono fun u w20 ⟨g, o20, he, hg20, s20, D20⟩ => ⟨_, _, he, fun h => absurd rfl h, fun _ => ?_⟩
  have k20 := newDS_ok (n := 40) (by decide) (by decide)
  refine ⟨fun m vs w1 => ∃ (t : Nat) (o1 : Own) (d1 : DS), vs = [.int .i64 t] ∧ m + t = l.length ∧ Step no W (fun _ => none) w1 o1 ∧ DG w1 o1 g d1 ∧ d1.ok t ∧ Up d1 ∧ d1.good.length = 40, l.length, ⟨0, o20, newDS 40, rfl, rfl, s20, D20, k20, ⟨rfl, rfl⟩, by simp [newDS]⟩, ?_⟩
  rintro m w25 i ⟨t, o25, d1, hi, hm, s25, D25, k25, u25, g25⟩
  simp only [List.cons.injEq, Value.int.injEq, true_and, and_true] at hi
  subst hi
  have X25 : Ext no W w25 := s25.ext.mono fun b ⟨_, _, h⟩ _ => h
  refine ⟨fun ht => ?_, fun ht => ?_⟩
  · have htl : t < l.length := by omega
    have gt : l[t]? = some l[t] := List.getElem?_eq_getElem htl
    have hmt := List.getElem_mem htl
    have hl25 := hl.no X25
    obtain ⟨ad, rfl⟩ := hl.faddr RW.len (by decide) htl
    have hgx := hgd _ hmt
    have hBx := hL2 _ hmt
    generalize l[t] = x at *
    refine ⟨ad, rfl, by omega, by omega, x.gen, x.round, x.seq, x.a, x.B.length, x.c, x.part, x.at_, x.by_, by rw [Int.toNat_natCast]; exact hl25.floads RW.len gt, ?_⟩
    refine (raw_spec s25.ok hgx (hgx.ra.no X25) (by omega)).mono fun u w39 ⟨o39, y, is, he, s39, oky⟩ => ⟨_, _, _, _, he, fun _ => ?_, fun _ => ?_⟩
    · refine (dWrite_spec (D25.step s39 id) s39.ok k25 (by omega) t oky.1.1).mono fun u w43 ⟨he, o43, s43, D43⟩ => ⟨_, he, by omega, by omega, m - 1, by omega, t + 1, o43, _, rfl, by omega, (s25.trans s39).trans' s43 fun j hj => .inr (by subst hj; exact hg20), D43, writeD_ok k25 _ _, up_write u25 _ _, by rw [writeD_len]; exact g25⟩
    · exact ⟨by omega, by omega, m - 1, by omega, t + 1, o39, d1, rfl, by omega, s25.trans s39, D25.step s39 id, k25.up (by omega), u25, g25⟩
  have htt : t = l.length := by omega
  have k25' : d1.ok 40 := k25.up (by omega)
  refine (dSync_spec D25 s25.ok k25' (by omega)).mono fun u w48 ⟨he, o48, s48', D48⟩ => ⟨_, he, ?_⟩
  obtain ⟨_, u48, p48, g48⟩ := sync_up u25
  have k48 := syncD_ok k25'
  have s48 : Step no W (fun _ => none) w48 o48 := s25.trans' s48' fun j hj => .inr (by subst hj; exact hg20)
  rw [g25] at g48
  generalize (syncD d1).1 = d at *
  refine (dCopy_spec D48 s48.ok k48 (by omega)).mono fun u w51 ⟨gc, o51, he, hgc, s51, C51⟩ => ⟨_, he, ?_⟩
  have D51 := D48.step s51 id
  have hggc : g ≠ gc := by have := D48.lt; omega
  obtain ⟨A, hA⟩ : ∃ A, openK d base size gen = A := ⟨_, rfl⟩
  have O51 := Open_spec D51 (s48.trans s51).ok k48 (by omega) base size gen
  rw [hA] at O51
  refine O51.mono fun u w56 ⟨o56, jp, wa, wc, wl, he, s56, hwm, hwr, _, hjp⟩ => ⟨_, _, _, _, _, he, ?_⟩
  have C56 := C51.step s56 id
  have s48l := s48.size
  have s51l := s51.size
  have s56l := s56.size
  have Y56 := Create_spec C56 s56.ok k48 (by omega) base size gen
  rw [hA] at Y56
  refine Y56.mono fun u w60 ⟨o60, yp, he, s60, hyp⟩ => ⟨_, _, he, ?_⟩
  have st60 : Step no W (fun _ => none) w60 o60 := ((s48.trans s51).trans s56).trans s60
  have X60 : Ext no W w60 := st60.ext.mono fun b ⟨_, _, h⟩ _ => h
  have D60 := (D51.step s56 id).step s60 id
  have C60 := C56.step s60 id
  have W60 := hwr.step s60
  have hbad : (gen = 0 ∨ base < 0 ∨ size < 1 ∨ base > 40 ∨ size > 40 - base) → A = (none, [], 1) := fun hc => by
    have e1 : stretchK d base size gen = ([], 1) := by unfold stretchK; rw [if_pos (by omega)]
    rw [← hA]; unfold openK; rw [e1]; rfl
  have hbl : A = (none, [], 1) → wl.length = 0 := fun e => by
    have := congrArg List.length hwm
    rw [e, List.length_map] at this
    exact this
  have e1 : A = (none, [], 1) → A.2.2 = 1 := fun e => by rw [e]
  refine ⟨fun h1 => ?_, fun h1 => ⟨fun h2 => ?_, fun h2 => ⟨fun h3 => ?_, fun h3 => ⟨fun h4 => ?_, fun h4 => ⟨by omega, by omega, fun h5 => ?_, fun h5 => ?_⟩⟩⟩⟩⟩
  iterate 5
    · have hA1 := hbad (by omega)
      exact ⟨fun _ => ⟨fun _ => ⟨fun _ => hal _ X60, fun hn => absurd (by rw [hbl hA1]; rfl) hn⟩, fun hn => absurd (e1 hA1) hn⟩, fun hn => absurd (e1 hA1) hn⟩
  have hst : stretchK d base size gen = (readsD d base.toNat size.toNat, 0) := by unfold stretchK; rw [if_neg (by omega), u48.1]; rfl
  obtain ⟨L, hL⟩ : ∃ L, readsD d base.toNat size.toNat = L := ⟨_, rfl⟩
  have hLl : L.length = size.toNat := by rw [← hL, readsD_len]
  rw [hL] at hst
  refine secScan D60 st60.ok k48 (by omega) (by omega) (by omega) (by omega) (by omega) hg fun o103 w103 ra rc r s103 hrm hrr => ?_
  rw [hL] at hrm ⊢
  have st103 := st60.trans s103
  have X103 : Ext no W w103 := st103.ext.mono fun b ⟨_, _, h⟩ _ => h
  have hrl := roundOf_lt gen L
  have hrr2 : (scanK L gen).2 = roundOf gen L := rfl
  have hsle := scanG_le gen (L.length + 1) L 0
  have hsc : (scanK L gen).1 = scanG gen (L.length + 1) L 0 := rfl
  rw [← hsc] at hsle
  have hrlen : r.length = (scanK L gen).1.1.length := by rw [← hrm, List.length_map]
  refine ⟨fun h6 => ?_, fun h6 => ?_⟩
  · have hA2 : A = (none, [], 2) := by
      rw [← hA]; unfold openK; rw [hst]
      rw [if_neg (show ¬ ((L, (0 : Int)).2 ≠ 0) from not_not_intro rfl)]
      exact if_pos (show (scanK L gen).2 = 4294967295 by omega)
    have e2 : A.2.2 = 2 := by rw [hA2]
    exact ⟨fun _ => ⟨fun _ => hal _ X103, fun hn => absurd e2 hn⟩, fun hn => absurd e2 hn⟩
  have hne : ¬ (scanK L gen).2 = 4294967295 := by omega
  obtain ⟨J, hJ⟩ : ∃ J : JS, J = ⟨base, size, gen, (scanK L gen).2 + 1, (scanK L gen).1.2, (scanK L gen).1.1.length, false⟩ := ⟨_, rfl⟩
  have hA3 : A = (some J, (scanK L gen).1.1, 0) := by
    rw [← hA, hJ]; unfold openK; rw [hst]
    rw [if_neg (show ¬ ((L, (0 : Int)).2 ≠ 0) from not_not_intro rfl)]
    exact if_neg hne
  rw [hA3] at hwm hjp hyp ⊢
  obtain ⟨q, rfl, hq, jg⟩ := hjp J rfl
  obtain ⟨q2, rfl, hq2, jg2⟩ := hyp J rfl
  refine ⟨fun h => absurd rfl h, fun _ => ⟨fun h => absurd rfl h, fun _ => ?_⟩⟩
  have W103 := W60.step s103
  have hwl : wl.length = (scanK L gen).1.1.length := by have := congrArg List.length hwm; rwa [List.length_map] at this
  have hshort : ∀ {l2 : List BS} {x : BS}, l2.map BS.bs = (scanK L gen).1.1 → x ∈ l2 → x.bs.length < 1000000 := fun {l2 x} e hx => by
    have := scan_short gen (L.length + 1) L 0 x.bs (by rw [← hsc, ← e]; exact List.mem_map_of_mem hx)
    omega
  refine (lists_spec (ac := wc) (bc := rc) W103.row.1 hrr.row.1 (fun x hx => ⟨(W103.oks x hx).1.1, hshort hwm hx⟩) (fun x hx => (hrr.oks x hx).1.1) (by omega)).mono fun u w114 ⟨he, X114⟩ => ⟨_, he, fun h => absurd (by rw [hwm, hrm]) (of_decide_eq_false h), fun _ => ?_⟩
  have s114 := Step.of_no X114 st103.ok
  have st114 := st103.trans s114
  have jgx := ((jg.step s60 id).step s103 id).step s114 id
  have jgy := (jg2.step s103 id).step s114 id
  have Dx := (D60.step s103 id).step s114 id
  have Cx := (C60.step s103 id).step s114 id
  have Rx := hrr.step s114
  have hJok : J.ok := by
    subst hJ
    exact ⟨⟨by show 0 ≤ base; omega, by show base ≤ _; omega⟩, ⟨by show 0 ≤ size; omega, by show size ≤ _; omega⟩, hg, by show (scanK L gen).2 + 1 < _; omega, ⟨by show (0 : Int) ≤ ((scanK L gen).1.2 : Nat); omega, by show (((scanK L gen).1.2 : Nat) : Int) ≤ _; omega⟩, ⟨by show (0 : Int) ≤ ((scanK L gen).1.1.length : Nat); omega, by show (((scanK L gen).1.1.length : Nat) : Int) ≤ _; omega⟩⟩
  have hYok : J.anew.ok := ⟨hJok.base, hJok.size, hJok.gen, hJok.round, ⟨Int.le_refl _, by show (0 : Int) ≤ _; decide⟩, ⟨Int.le_refl _, by show (0 : Int) ≤ _; decide⟩⟩
  have j1 : J.base = base := by rw [hJ]
  have j2 : J.size = size := by rw [hJ]
  have j3 : J.gen = gen := by rw [hJ]
  have j4 : J.round = (scanK L gen).2 + 1 := by rw [hJ]
  have j5 : J.tail = (scanK L gen).1.2 := by rw [hJ]
  have j6 : J.seq = (scanK L gen).1.1.length := by rw [hJ]
  have j7 : J.dead = false := by rw [hJ]
  have hwr : IntKind.u32.wrap (((scanK L gen).2 : Int) + 1) = ((J.round : Nat) : Int) := by rw [IntKind.wrap_u32, j4]; omega
  refine (jCount_spec jgx).mono fun u w118 ⟨he, hw⟩ => ⟨_, he, fun h => absurd (by omega) h, fun _ => ?_⟩
  subst hw
  refine (jRoom_spec jgx hJok.tail.1 hJok.tail.2 hJok.size.1 hJok.size.2).mono fun u w122 ⟨he, X122⟩ => ⟨_, he, by omega, by omega, fun h => absurd (by omega) h, fun _ => ?_⟩
  have s122 := Step.of_no X122 st114.ok
  have jgx := jgx.step s122 id
  refine (jRound_spec jgx).mono fun u w126 ⟨he, hw⟩ => ⟨_, he, fun h => absurd hwr.symm h, fun _ => ?_⟩
  subst hw
  have jgy := jgy.step s122 id
  refine (jCount_spec jgy).mono fun u w130 ⟨he, hw⟩ => ⟨_, he, fun h => absurd rfl h, fun _ => ?_⟩
  subst hw
  refine (jRoom_spec jgy (Int.le_refl _) (by show (0 : Int) ≤ _; decide) hJok.size.1 hJok.size.2).mono fun u w134 ⟨he, X134⟩ => ⟨_, he, fun h => absurd (by show J.size - 0 = size; omega) h, fun _ => ?_⟩
  have s134 := Step.of_no X134 (st114.trans s122).ok
  have jgy := jgy.step s134 id
  refine (jRound_spec jgy).mono fun u w138 ⟨he, hw⟩ => ⟨_, he, fun h => absurd hwr.symm h, fun _ w140 X140 => ?_⟩
  subst hw
  have s138 := s122.trans s134
  have s140 := s138.trans (Step.of_no X140 s138.ok)
  have t140 := Step.of_no X140 s138.ok
  have jX := (jgx.step s134 id).step t140 id
  have jY := jgy.step t140 id
  have DX := Dx.step s140 id
  have CX := Cx.step s140 id
  have st140 := st114.trans s140
  have X140' : Ext no W w140 := st140.ext.mono fun b ⟨_, _, h⟩ _ => h
  have lq := jg.mem.lt
  have hqg : q ≠ g := by have := D48.lt; omega
  have hgcl := C51.lt
  have hqgc : q ≠ gc := by omega
  have hq2g : q2 ≠ g := by have := D48.lt; omega
  have hq2gc : q2 ≠ gc := by omega
  have hq2q : q2 ≠ q := by omega
  have ax := appendJ_ans (b := b) u48 k48 hJok (by omega) (by omega) j7 (by omega)
  have ay := appendJ_ans (b := b) (J := J.anew) u48 k48 hYok (by show J.gen ≠ 0; omega) (by show J.round ≠ 0; omega) j7 (by show J.base + J.size ≤ _; omega)
  have kx : (appendJ d J b).1.1.ok 124 := appendJ_ok k48 J b
  have ky : (appendJ d J.anew b).1.1.ok 124 := appendJ_ok k48 J.anew b
  have hb40 : partsN b.length ≠ 0 → b.length ≤ 4000 := fun h => by
    by_cases hb : b.length ≤ 4000
    · exact hb
    · unfold partsN at h; rw [if_pos (by omega)] at h; exact absurd rfl h
  have FX : partsN b.length ≠ 0 → (partsN b.length : Int) ≤ size - (scanK L gen).1.2 → ∃ R, (scanK (readsD (appendJ d J b).1.1 base.toNat size.toNat) gen).1.1 = (scanK L gen).1.1 ++ b :: R := fun h0 hf => by
    obtain ⟨_, _, _, hr⟩ := append_up u48 k48 hJok (b := b) (by omega) (by omega) j7 (hb40 h0) (by omega) (by omega)
    obtain ⟨T, hT, hr⟩ := hr size.toNat (by omega)
    rw [j1, hL, j3, j6, Int.toNat_natCast] at hr
    have hT' : T = (scanK L gen).1.2 := by omega
    rw [hT'] at hr
    exact scan_append (by omega) (by omega) (by omega) (hb40 h0) hr
  have FY : (partsN b.length ≠ 0 ∧ (partsN b.length : Int) ≤ size) → ∃ R, (scanK (readsD (appendJ d J.anew b).1.1 base.toNat size.toNat) gen).1.1 = b :: R := fun ⟨h0, hf⟩ => by
    obtain ⟨_, _, _, hr⟩ := append_up (J := J.anew) u48 k48 hYok (b := b) (by show J.gen ≠ 0; omega) (by show J.round ≠ 0; omega) j7 (hb40 h0) (by show 0 + (partsN b.length : Int) ≤ J.size; omega) (by show J.base + J.size ≤ _; omega)
    obtain ⟨T, hT, hr⟩ := hr size.toNat (by show _ = J.size; omega)
    have hT' : T = 0 := by have : (T : Int) = 0 := hT; omega
    subst hT'
    rw [List.take_zero, List.nil_append] at hr
    have hr' : readsD (appendJ d J.anew b).1.1 base.toNat size.toNat = frameL gen J.round 0 b ++ (readsD d J.base.toNat size.toNat).drop (0 + partsN b.length) := by rw [← j1, ← j3]; exact hr
    exact scan_first (by omega) (by omega) (by omega) (hb40 h0) hr'
  obtain ⟨XR, hXR⟩ : ∃ X, appendJ d J b = X := ⟨_, rfl⟩
  obtain ⟨YR, hYR⟩ : ∃ Y, appendJ d J.anew b = Y := ⟨_, rfl⟩
  rw [hXR] at ax kx FX
  rw [hYR] at ay ky FY
  have AX := Append_spec jX DX st140.ok hqg k48 (by omega) hJok (hb.no X140') hbc (by omega)
  rw [hXR] at AX
  refine AX.mono fun u w143 ⟨he, o143, s143, _, Dx2⟩ => ⟨_, he, ?_⟩
  have st143 : Step no W (fun _ => none) w143 o143 := st140.trans' s143 fun j hj => .inr (by rcases hj with rfl | rfl <;> omega)
  have X143 : Ext no W w143 := st143.ext.mono fun b ⟨_, _, h⟩ _ => h
  have jY2 := jY.step s143 (fun h => by rcases h with h | h <;> omega)
  have CX2 := CX.step s143 (fun h => by rcases h with h | h <;> omega)
  have AY := Append_spec jY2 CX2 st143.ok hq2gc k48 (by omega) hYok (hb.no X143) hbc (by omega)
  rw [hYR] at AY
  refine AY.mono fun u w146 ⟨he, o146, s146, _, Cy⟩ => ⟨_, he, ?_⟩
  have s146' : Step no W (fun _ => none) w146 o146 := st143.trans' s146 fun j hj => .inr (by rcases hj with rfl | rfl <;> omega)
  have X146 : Ext no W w146 := s146'.ext.mono fun b ⟨_, _, h⟩ _ => h
  have Dy := Dx2.step s146 (fun h => by rcases h with h | h <;> omega)
  have RX := ((Rx.step s140).step s143).step s146
  rw [refParts_F, partsI_nat]
  refine ⟨fun h0 => ?_, fun h0 => ?_⟩
  · have h0' : partsN b.length = 0 := by omega
    rw [if_pos h0'] at ax ay
    exact ⟨fun _ => ⟨fun _ => hal _ X146, fun h => absurd ay h⟩, fun h => absurd ax h⟩
  have h0 : partsN b.length ≠ 0 := fun e => h0 (by rw [e]; rfl)
  rw [if_neg h0] at ax ay
  have ay : YR.2 = if (partsN b.length : Int) ≤ size then 0 else 18 := by rw [ay, show J.anew.size - J.anew.tail = size from (by show J.size - 0 = size; omega)]
  rw [j2, j5] at ax
  have bx : (XR.2 == 0) = decide ((partsN b.length : Int) ≤ size - ((scanK L gen).1.2 : Nat)) := by
    rw [ax]
    by_cases hh : (partsN b.length : Int) ≤ size - ((scanK L gen).1.2 : Nat)
    · rw [if_pos hh, decide_eq_true hh]; rfl
    · rw [if_neg hh, decide_eq_false hh]; rfl
  have bY : (YR.2 == 0) = decide ((partsN b.length : Int) ≤ size) := by
    rw [ay]
    by_cases hh : (partsN b.length : Int) ≤ size
    · rw [if_pos hh, decide_eq_true hh]; rfl
    · rw [if_neg hh, decide_eq_false hh]; rfl
  have ax18 : XR.2 ≠ 0 → XR.2 = 18 := fun h => by
    rw [ax] at h ⊢
    split
    · rename_i hh; rw [if_pos hh] at h; exact absurd rfl h
    · rfl
  have ay18 : YR.2 ≠ 0 → YR.2 = 18 := fun h => by
    rw [ay] at h ⊢
    split
    · rename_i hh; rw [if_pos hh] at h; exact absurd rfl h
    · rfl
  have fitx : XR.2 = 0 → (partsN b.length : Int) ≤ size - ((scanK L gen).1.2 : Nat) := fun h => by
    rw [h] at bx; exact of_decide_eq_true bx.symm
  have fity : YR.2 = 0 → (partsN b.length : Int) ≤ size := fun h => by
    rw [h] at bY; exact of_decide_eq_true bY.symm
  refine ⟨by omega, by omega, fun h => absurd bx h, fun _ => ⟨fun h => absurd bY h, fun _ => ⟨fun hx => ⟨fun h => absurd (ax18 hx) h, fun _ => ⟨fun hy => ⟨fun h => absurd (ay18 hy) h, fun _ => ?_⟩, fun hy => ?_⟩⟩, fun hx => ⟨fun hy => ⟨fun h => absurd (ay18 hy) h, fun _ => ?_⟩, fun hy => ?_⟩⟩⟩⟩
  · refine secScan Dy s146'.ok kx (by omega) (by omega) (by omega) (by omega) (by omega) hg fun o3 w3 ra3 rc3 r3 s3 hm3 hr3 => ?_
    refine secScan (Cy.step s3 id) s3.ok ky (by omega) (by omega) (by omega) (by omega) (by omega) hg fun o9 w9 ra9 rc9 r9 s9 hm9 hr9 => hal _ ?_
    exact X146.trans ((s3.trans s9).ext.mono fun b ⟨_, _, h⟩ _ => h)
  · have hyf := fity hy
    refine secScan Dy s146'.ok kx (by omega) (by omega) (by omega) (by omega) (by omega) hg fun o3 w3 ra3 rc3 r3 s3 hm3 hr3 => ?_
    refine secScan (Cy.step s3 id) s3.ok ky (by omega) (by omega) (by omega) (by omega) (by omega) hg fun o9 w9 ra9 rc9 r9 s9 hm9 hr9 => ?_
    have X9 := X146.trans ((s3.trans s9).ext.mono fun b ⟨_, _, h⟩ _ => h)
    obtain ⟨R, hR⟩ := FY ⟨h0, hyf⟩
    rw [hR] at hm9
    obtain ⟨x, hx, hxb⟩ : ∃ x, r9[0]? = some x ∧ x.bs = b := by
      cases r9 with
      | nil => cases hm9
      | cons x _ => exact ⟨x, rfl, (List.cons.inj hm9).1⟩
    have hn9 : 1 ≤ r9.length := by have := (List.getElem?_eq_some_iff.1 hx).1; omega
    refine ⟨fun _ => ?_, fun h => absurd h (by omega)⟩
    obtain ⟨ad, ha, cx⟩ := hr9.at.cell hx
    obtain ⟨rx, _⟩ := hr9.oks x (List.mem_of_getElem? hx)
    exact ⟨ad, ha, by omega, x.a, x.bs.length, x.c, cx, (sameB_spec rx.1 (hb.no X9) (by rw [hxb]; omega)).mono fun u w8 ⟨he, X8⟩ => ⟨_, he, fun _ => hal _ (X9.trans X8), fun h => absurd hxb (of_decide_eq_false h)⟩⟩
  · have hxf := fitx hx
    refine secScan Dy s146'.ok kx (by omega) (by omega) (by omega) (by omega) (by omega) hg fun o3 w3 ra3 rc3 r3 s3 hm3 hr3 => ?_
    obtain ⟨R, hR⟩ := FX h0 hxf
    rw [hR] at hm3
    have hr3l : r.length + 1 ≤ r3.length := by
      have := congrArg List.length hm3
      rw [List.length_map, List.length_append, List.length_cons] at this
      omega
    have hc3 := hr3.le
    refine ⟨by omega, by omega, fun h => absurd h (by omega), fun _ => ⟨by omega, by omega, ?_⟩⟩
    have h3t : (r3.take r.length).map BS.bs = r.map BS.bs := by
      rw [List.map_take, hm3, hrm, hrlen, List.take_left]
    have htl : Int.toNat (r.length : Int) = (r3.take r.length).length := by rw [Int.toNat_natCast, List.length_take]; omega
    have hnx : r3[r.length]? = some (r3[r.length]'(by omega)) := List.getElem?_eq_getElem (by omega)
    have hxb : (r3[r.length]'(by omega)).bs = b := by
      have h1 : (r3.map BS.bs)[r.length]? = some b := by rw [hm3, hrlen, List.getElem?_append_right (Nat.le_refl _), Nat.sub_self]; rfl
      rw [List.getElem?_map, hnx] at h1
      exact Option.some.inj h1
    generalize r3[r.length]'(by omega) = x at *
    have RX3 := RX.step s3
    have hrow3 : RowAt w3 ra3 ((r3.take r.length).map BS.v) := (hr3.at.take r.length).row
    rw [htl]
    refine (lists_spec (ac := rc3) (bc := rc) hrow3 RX3.row.1 (fun y hy => ⟨(hr3.oks y (List.mem_of_mem_take hy)).1.1, hshort (by rw [h3t, hrm]) hy⟩) (fun y hy => (RX3.oks y hy).1.1) (by rw [List.length_take]; omega)).mono fun u w5 ⟨he, X5⟩ => ⟨_, he, fun h => absurd h3t (of_decide_eq_false h), fun _ => ?_⟩
    rw [← htl]
    have s5 := s3.trans (Step.of_no X5 s3.ok)
    have hr5 := hr3.step (Step.of_no X5 s3.ok)
    have X5' := X146.trans (s5.ext.mono fun b ⟨_, _, h⟩ _ => h)
    obtain ⟨ad, ha, cx⟩ := hr5.at.cell hnx
    obtain ⟨rx, _⟩ := hr5.oks x (List.mem_of_getElem? hnx)
    refine ⟨ad, ha, by omega, by omega, x.a, x.bs.length, x.c, by rw [Int.toNat_natCast]; exact cx, (sameB_spec rx.1 (hb.no X5') (by rw [hxb]; omega)).mono fun u w8 ⟨he, X8⟩ => ⟨_, he, fun h => absurd hxb (of_decide_eq_false h), fun _ => ?_⟩⟩
    have s8 := s5.trans (Step.of_no X8 s5.ok)
    refine secScan (Cy.step s8 id) s8.ok ky (by omega) (by omega) (by omega) (by omega) (by omega) hg fun o9 w9 ra9 rc9 r9 s9 hm9 hr9 => hal _ ?_
    exact X146.trans ((s8.trans s9).ext.mono fun b ⟨_, _, h⟩ _ => h)
  · have hxf := fitx hx
    have hyf := fity hy
    refine secScan Dy s146'.ok kx (by omega) (by omega) (by omega) (by omega) (by omega) hg fun o3 w3 ra3 rc3 r3 s3 hm3 hr3 => ?_
    obtain ⟨R, hR⟩ := FX h0 hxf
    rw [hR] at hm3
    have hr3l : r.length + 1 ≤ r3.length := by
      have := congrArg List.length hm3
      rw [List.length_map, List.length_append, List.length_cons] at this
      omega
    have hc3 := hr3.le
    refine ⟨by omega, by omega, fun h => absurd h (by omega), fun _ => ⟨by omega, by omega, ?_⟩⟩
    have h3t : (r3.take r.length).map BS.bs = r.map BS.bs := by
      rw [List.map_take, hm3, hrm, hrlen, List.take_left]
    have htl : Int.toNat (r.length : Int) = (r3.take r.length).length := by rw [Int.toNat_natCast, List.length_take]; omega
    have hnx : r3[r.length]? = some (r3[r.length]'(by omega)) := List.getElem?_eq_getElem (by omega)
    have hxb : (r3[r.length]'(by omega)).bs = b := by
      have h1 : (r3.map BS.bs)[r.length]? = some b := by rw [hm3, hrlen, List.getElem?_append_right (Nat.le_refl _), Nat.sub_self]; rfl
      rw [List.getElem?_map, hnx] at h1
      exact Option.some.inj h1
    generalize r3[r.length]'(by omega) = x at *
    have RX3 := RX.step s3
    have hrow3 : RowAt w3 ra3 ((r3.take r.length).map BS.v) := (hr3.at.take r.length).row
    rw [htl]
    refine (lists_spec (ac := rc3) (bc := rc) hrow3 RX3.row.1 (fun y hy => ⟨(hr3.oks y (List.mem_of_mem_take hy)).1.1, hshort (by rw [h3t, hrm]) hy⟩) (fun y hy => (RX3.oks y hy).1.1) (by rw [List.length_take]; omega)).mono fun u w5 ⟨he, X5⟩ => ⟨_, he, fun h => absurd h3t (of_decide_eq_false h), fun _ => ?_⟩
    rw [← htl]
    have s5 := s3.trans (Step.of_no X5 s3.ok)
    have hr5 := hr3.step (Step.of_no X5 s3.ok)
    have X5' := X146.trans (s5.ext.mono fun b ⟨_, _, h⟩ _ => h)
    obtain ⟨ad, ha, cx⟩ := hr5.at.cell hnx
    obtain ⟨rx, _⟩ := hr5.oks x (List.mem_of_getElem? hnx)
    refine ⟨ad, ha, by omega, by omega, x.a, x.bs.length, x.c, by rw [Int.toNat_natCast]; exact cx, (sameB_spec rx.1 (hb.no X5') (by rw [hxb]; omega)).mono fun u w8 ⟨he, X8⟩ => ⟨_, he, fun h => absurd hxb (of_decide_eq_false h), fun _ => ?_⟩⟩
    have s8 := s5.trans (Step.of_no X8 s5.ok)
    refine secScan (Cy.step s8 id) s8.ok ky (by omega) (by omega) (by omega) (by omega) (by omega) hg fun o9 w9 ra9 rc9 r9 s9 hm9 hr9 => ?_
    have X9 := X146.trans ((s8.trans s9).ext.mono fun b ⟨_, _, h⟩ _ => h)
    obtain ⟨R, hR⟩ := FY ⟨h0, hyf⟩
    rw [hR] at hm9
    obtain ⟨x, hx, hxb⟩ : ∃ x, r9[0]? = some x ∧ x.bs = b := by
      cases r9 with
      | nil => cases hm9
      | cons x _ => exact ⟨x, rfl, (List.cons.inj hm9).1⟩
    have hn9 : 1 ≤ r9.length := by have := (List.getElem?_eq_some_iff.1 hx).1; omega
    refine ⟨fun _ => ?_, fun h => absurd h (by omega)⟩
    obtain ⟨ad, ha, cx⟩ := hr9.at.cell hx
    obtain ⟨rx, _⟩ := hr9.oks x (List.mem_of_getElem? hx)
    exact ⟨ad, ha, by omega, x.a, x.bs.length, x.c, cx, (sameB_spec rx.1 (hb.no X9) (by rw [hxb]; omega)).mono fun u w8 ⟨he, X8⟩ => ⟨_, he, fun _ => hal _ (X9.trans X8), fun h => absurd hxb (of_decide_eq_false h)⟩⟩
theorem JournalOpens_walk (W : World) (a0 : Option Addr) (len0 cap0 : Nat) (n1 n2 n3 : Int) (a4 : Option Addr) (len4 cap4 : Nat) (o0 : RWsQ W [.slice a0 len0 cap0]) (w1 : (Lit.int .i64 n1).wf = true) (w2 : (Lit.int .i64 n2).wf = true) (w3 : (Lit.int .u32 n3).wf = true) (o4 : BytesQ W [.slice a4 len4 cap4]) :
    Calls Try.prog 7 #[.slice a0 len0 cap0, .int .i64 n1, .int .i64 n2, .int .u32 n3, .slice a4 len4 cap4] W (Ret (.bool true) fun w' => Ext no W w') := by
  obtain ⟨_, c0, l, e0, l0, _, r0, f0⟩ := o0
  obtain ⟨_, c4, b, e4, l4, _, r4⟩ := o4
  cases e0; cases e4
  have f3 := wf_u32 w3
  obtain ⟨gen, rfl⟩ := Int.eq_ofNat_of_zero_le f3.1
  exact JournalOpens_spec W r0 f0 r4 l4 (by omega)
end Go.Proofs.Ytgcjipbahfpopaa
