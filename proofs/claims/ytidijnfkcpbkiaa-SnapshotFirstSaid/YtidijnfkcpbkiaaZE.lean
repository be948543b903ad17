/- Snapshot, plainly: a store on a disk that is up. -/
import Derived.Test.YtidijnfkcpbkiaaZD
import Derived.Test.YtidijnfkcpbkiaaZC
set_option linter.unusedVariables false
set_option linter.unusedSimpArgs false
set_option maxRecDepth 20000
set_option maxHeartbeats 2000000
namespace Go.Proofs.Ytidijnfkcpbkiaa
open Go Go.Mx Go.Proofs
theorem whichN_lt (n : Nat) : whichN n < 2 := Nat.mod_lt _ (by decide)
theorem numH_head {n : Nat} (h0 : n ≠ 0) (h1 : n < 4294967296) : numH (headB n) (whichN n) = n := by
  have e : numB (headB n) 1 = n := by
    show byteN (headB n) 1 * 16777216 + byteN (headB n) 2 * 65536 + byteN (headB n) 3 * 256 + byteN (headB n) 4 = n
    show (UInt8.ofNat (n / 16777216)).toNat * 16777216 + (UInt8.ofNat (n / 65536)).toNat * 65536 + (UInt8.ofNat (n / 256)).toNat * 256 + (UInt8.ofNat n).toNat = n
    rw [UInt8.toNat_ofNat', UInt8.toNat_ofNat', UInt8.toNat_ofNat', UInt8.toNat_ofNat']; omega
  unfold numH
  rw [e, if_neg h0, if_neg (fun h => h rfl), if_pos rfl]
section
variable {d : DS} {J : JS} {S : SS} {m size base T gen R : Nat} {want : List (List UInt8)} {b : List UInt8}
theorem open_at (hd : d.down = false) (h1 : 1 ≤ size) (hfit : base + size ≤ d.good.length) (h0 : gen ≠ 0) (h : JI (readsD d base size) gen R want T) (hR : R < 4294967295) :
    openK d base size gen = (some ⟨base, size, gen, roundOf gen (readsD d base size) + 1, T, want.length, false⟩, want, 0) := by
  have hst : stretchK d base size gen = (readsD d base size, 0) := by
    unfold stretchK
    rw [if_neg (by omega), hd]; rfl
  have hr := h.le
  have hsc := h.scan
  have hrr : (scanK (readsD d base size) gen).2 = roundOf gen (readsD d base size) := rfl
  unfold openK
  rw [hst]
  rw [if_neg (show ¬ ((readsD d base size, (0 : Int)).2 ≠ 0) from not_not_intro rfl)]
  rw [if_neg (show ¬ (scanK (readsD d base size, (0 : Int)).1 gen).2 = 4294967295 from (by show ¬ roundOf gen (readsD d base size) = 4294967295; omega))]
  show (some (JS.mk base size gen (roundOf gen (readsD d base size) + 1) (((scanK (readsD d base size) gen).1.2 : Nat) : Int) (((scanK (readsD d base size) gen).1.1.length : Nat) : Int) false), (scanK (readsD d base size) gen).1.1, (0 : Int)) = _
  rw [hsc]
theorem append_all (h : Up d) (ok : d.ok m) (hJ : J.ok) (hgen : J.gen ≠ 0) (hro : J.round ≠ 0) (hd : J.dead = false) (hb : b.length ≤ 4000)
    (hfit : J.tail + partsN b.length ≤ J.size) (hdisk : J.base + J.size ≤ d.good.length) :
    (appendJ d J b).2 = 0 ∧ Up (appendJ d J b).1.1 ∧ (appendJ d J b).1.1.pend = [] ∧ (appendJ d J b).1.1.good.length = d.good.length ∧ (appendJ d J b).1.2 = { J with tail := J.tail + partsN b.length, seq := J.seq + 1 } ∧
      ∀ j : Int, readD (appendJ d J b).1.1 j = if J.base + J.tail ≤ j ∧ j < J.base + J.tail + partsN b.length then ((frameL J.gen J.round J.seq.toNat b)[(j - (J.base + J.tail)).toNat]?.getD [], 0) else readD d j := by
  have hp := partsN_pos hb
  obtain ⟨⟨hb0, hb1⟩, ⟨hs0, hs1⟩, hgen2, hrd, ⟨ht0, ht1⟩, ⟨hq0, hq1⟩⟩ := hJ
  have hF : appendF J b = frameL J.gen J.round J.seq.toNat b := by
    unfold appendF frameK
    rw [if_neg (by omega), if_neg (by omega)]
  have hFl : (appendF J b).length = partsN b.length := by rw [hF, frameL_len]
  have hF64 : ∀ s ∈ appendF J b, s.length = 64 := fun s hs => by rw [hF] at hs; exact (sec_mark hs).2
  obtain ⟨w0, wu, wl, wr⟩ := writes_up (appendF J b) d m (J.base + J.tail) h ok (by omega) (by rw [hFl]; omega) hF64
  have wok := writesD_ok (f := appendF J b) (i := J.base + J.tail) ok
  obtain ⟨s0, su, sp, sl⟩ := sync_up wu
  have hA : appendJ d J b = (((syncD (writesD d (J.base + J.tail) (appendF J b)).1).1, { J with tail := J.tail + partsN b.length, seq := J.seq + 1 }), 0) := by
    unfold appendJ
    rw [if_neg (by omega), if_neg (by rw [hd]; decide), if_neg (by omega), if_neg (not_not_intro w0), if_neg (not_not_intro s0)]
  rw [hA]
  refine ⟨rfl, su, sp, sl.trans wl, rfl, fun j => ?_⟩
  rw [← hF]
  show readD (syncD (writesD d (J.base + J.tail) (appendF J b)).1).1 j = _
  rw [read_sync wu wok, wr, hFl]
theorem reads_same {d2 : DS} (h : ∀ j : Int, (base : Int) ≤ j → j < base + size → readD d2 j = readD d j) : readsD d2 base size = readsD d base size := by
  apply List.ext_getElem?
  intro i
  rw [reads_get, reads_get]
  split
  · rw [h _ (by omega) (by omega)]
  · rfl
/-- no sector of the halves is of a later number. -/
def Gens (d : DS) (half N : Nat) : Prop := ∀ j : Int, 2 ≤ j → j < 2 + 2 * half → ∀ g, mg g (readD d j).1 → g ≤ N
/-- a store on a disk that is up, behind t acts. -/
structure PS (d : DS) (S : SS) (J : JS) (n half N : Nat) (snap : List UInt8) (all : List (List UInt8)) (T t : Nat) : Prop where
  up : Up d
  pend : d.pend = []
  ok : d.ok (200 * t)
  good : d.good.length = n
  fit : 2 + 2 * half ≤ n
  eS : S = ⟨half, N, false⟩
  base : J.base = ((2 + whichN N * half : Nat) : Int)
  jsize : J.size = half
  jgen : J.gen = N
  round : 1 ≤ J.round ∧ J.round ≤ t + 1
  tail : J.tail = T
  seq : J.seq = all.length + 1
  dead : J.dead = false
  ji : JI (readsD d (2 + whichN N * half) half) N J.round (snap :: all) T
  mine : numH (readD d (whichN N : Nat)).1 (whichN N : Nat) = N
  other : numH (readD d ((1 - whichN N : Nat) : Int)).1 ((1 - whichN N : Nat) : Int) < N
  gens : Gens d half N
  nb : 1 ≤ N ∧ N ≤ t
  len : all.length ≤ t
theorem PS.tl {n half N t : Nat} {snap : List UInt8} {all : List (List UInt8)} (h : PS d S J n half N snap all T t) : T ≤ half ∧ all.length + 1 ≤ T := by
  have := h.ji.len
  rw [readsD_len] at this
  exact this
theorem half_in {half N : Nat} : 2 ≤ 2 + whichN N * half ∧ 2 + whichN N * half + half ≤ 2 + 2 * half ∧ (whichN N * half = 0 ∨ whichN N * half = half) := by
  have := whichN_lt N
  rcases Nat.lt_or_ge (whichN N) 1 with h0 | h0
  · rw [show whichN N = 0 by omega]; omega
  · rw [show whichN N = 1 by omega]; omega
theorem PS.jok {n half N t : Nat} {snap : List UInt8} {all : List (List UInt8)} (h : PS d S J n half N snap all T t) (hn : n ≤ 400) (ht : t ≤ 1000) : J.ok := by
  have h1 := h.tl
  have h2 := h.round
  have h3 := h.base
  have h4 := h.jsize
  have h5 := h.jgen
  have h6 := h.tail
  have h7 := h.seq
  have h8 := h.nb
  have h9 := h.fit
  have hi := half_in (half := half) (N := N)
  have hl := h.len
  exact ⟨by omega, by omega, by omega, by omega, by omega, by omega⟩
theorem PS.up' {n half N t : Nat} {snap : List UInt8} {all : List (List UInt8)} (h : PS d S J n half N snap all T t) : PS d S J n half N snap all T (t + 1) :=
  ⟨h.up, h.pend, h.ok.up (by omega), h.good, h.fit, h.eS, h.base, h.jsize, h.jgen, ⟨h.round.1, Nat.le_succ_of_le h.round.2⟩, h.tail, h.seq, h.dead, h.ji, h.mine, h.other, h.gens, ⟨h.nb.1, Nat.le_succ_of_le h.nb.2⟩, Nat.le_succ_of_le h.len⟩
theorem gens_put {d2 : DS} {half N g r q k : Nat} {lo : Int} {b : List UInt8} (h : Gens d half N) (hg : g ≤ N) (hg2 : g < 4294967296) (hr : ∀ j : Int, readD d2 j = if lo ≤ j ∧ j < lo + k then ((frameL g r q b)[(j - lo).toNat]?.getD [], 0) else readD d j) : Gens d2 half N := by
  intro j h0 h1 g2 hm
  rw [hr] at hm
  split at hm
  · by_cases hl : (j - lo).toNat < (frameL g r q b).length
    · rw [frame_get hl] at hm
      have e : numB (secL g r q (j - lo).toNat (partsN b.length) (partL b (j - lo).toNat)) 1 = g2 := hm.2.2
      rw [sec_gen _ _ _ _ _ _ hg2] at e
      omega
    · rw [List.getElem?_eq_none (by omega)] at hm
      exact absurd hm (nil_mg g2)
  · exact h j h0 h1 g2 hm
/-- an append. -/
theorem PS.app {n half N t : Nat} {snap : List UInt8} {all : List (List UInt8)} (h : PS d S J n half N snap all T t) (hn : n ≤ 400) (ht : t ≤ 100) (hb : b.length ≤ 4000) (hfit : T + partsN b.length ≤ half) :
    (appendJ d J b).2 = 0 ∧ PS (appendJ d J b).1.1 S (appendJ d J b).1.2 n half N snap (all ++ [b]) (T + partsN b.length) (t + 1) := by
  have hj := h.jok hn (by omega)
  have hp := partsN_pos hb
  have htl := h.tl
  have hrd := h.round
  have hbs := h.base
  have hsz := h.jsize
  have hgn := h.jgen
  have hta := h.tail
  have hsq := h.seq
  have hgo := h.good
  have hln := h.len
  have hnb := h.nb
  have hft := h.fit
  obtain ⟨hi1, hi2, hi3⟩ := half_in (half := half) (N := N)
  have kA := (appendJ_ok h.ok J b).up (n := 200 * (t + 1)) (by omega)
  obtain ⟨a1, a2, a3, a4, a5, a6⟩ := append_all h.up h.ok hj (by omega) (by omega) h.dead hb (by omega) (by omega)
  have hw := whichN_lt N
  have hFl := frameL_len N J.round J.seq.toNat b
  have hcut : readsD (appendJ d J b).1.1 (2 + whichN N * half) half = (readsD d (2 + whichN N * half) half).take T ++ (frameL N J.round (all.length + 1) b ++ (readsD d (2 + whichN N * half) half).drop (T + partsN b.length)) := by
    have := reads_cut (d := d) (d2 := (appendJ d J b).1.1) (base := 2 + whichN N * half) (size := half) (T := T) (f := frameL N J.round (all.length + 1) b) (by rw [frameL_len]; omega) fun j => by
      rw [a6 j, frameL_len, hgn, hbs, hta, show J.seq.toNat = all.length + 1 by omega]
      split <;> rfl
    rw [this, frameL_len]
  refine ⟨a1, a2, a3, kA, a4.trans hgo, hft, h.eS, ?_, ?_, ?_, ?_, ?_, ?_, ?_, ?_, ?_, ?_, ?_, ⟨hnb.1, by omega⟩, by rw [List.length_append]; show all.length + 1 ≤ _; omega⟩
  · rw [a5]; exact hbs
  · rw [a5]; exact hsz
  · rw [a5]; exact hgn
  · rw [a5]; exact ⟨hrd.1, by show J.round ≤ _; omega⟩
  · rw [a5]; show J.tail + (partsN b.length : Int) = ((T + partsN b.length : Nat) : Int); omega
  · rw [a5]; show J.seq + 1 = (((all ++ [b]).length : Nat) : Int) + 1; rw [List.length_append]; show J.seq + 1 = ((all.length + 1 : Nat) : Int) + 1; omega
  · rw [a5]; exact h.dead
  · rw [a5]
    exact h.ji.app (by omega) (by omega) (by omega) (by omega) hb (by rw [List.length_cons]; omega) (by rw [readsD_len]; omega) hcut
  · rw [a6, if_neg (by omega)]; exact h.mine
  · rw [a6, if_neg (by omega)]; exact h.other
  · exact gens_put h.gens (g := J.gen) (by omega) (by omega) a6
/-- a Compact of what has room. -/
theorem compact_up {n half N t : Nat} (hu : Up d) (hp0 : d.pend = []) (ok : d.ok (200 * t)) (hgo : d.good.length = n) (hft : 2 + 2 * half ≤ n) (hS : S = ⟨half, N, false⟩) (hn : n ≤ 400) (ht : t ≤ 100) (hNt : N ≤ t) (hb : b.length ≤ 4000) (hfit : partsN b.length ≤ half)
    (hh0 : numH (readD d (0 : Nat)).1 (0 : Nat) ≤ N) (hh1 : numH (readD d (1 : Nat)).1 (1 : Nat) ≤ N) (hg : Gens d half N) :
    ∃ d2 J2, compactK d S b = (d2, some J2, 0) ∧ PS d2 ⟨half, N + 1, false⟩ J2 n half (N + 1) b [] (partsN b.length) (t + 1) := by
  have hp := partsN_pos hb
  obtain ⟨hi1, hi2, hi3⟩ := half_in (half := half) (N := N + 1)
  have hw := whichN_lt (N + 1)
  have hbl : ∀ s ∈ readsD d (2 + whichN (N + 1) * half) half, ¬ mg (N + 1) s := fun s hs hm => by
    obtain ⟨i, hi⟩ := List.mem_iff_getElem?.1 hs
    rw [reads_get] at hi
    split at hi
    · have := hg (((2 + whichN (N + 1) * half : Nat) : Int) + (i : Int)) (by omega) (by omega) (N + 1) (by rw [Option.some.inj hi]; exact hm)
      omega
    · cases hi
  have hji : JI (readsD d (2 + whichN (N + 1) * half) half) (N + 1) 0 [] 0 := JI.blank (by omega) hbl
  have hrl := hji.le
  have hopen := open_at (d := d) (base := 2 + whichN (N + 1) * half) (size := half) (gen := N + 1) hu.1 (by omega) (by omega) (by omega) hji (by decide)
  have hr1 : roundOf (N + 1) (readsD d (2 + whichN (N + 1) * half) half) + 1 = 1 := by omega
  rw [hr1] at hopen
  obtain ⟨J, hJ⟩ : ∃ J : JS, J = ⟨((2 + whichN (N + 1) * half : Nat) : Int), half, N + 1, 1, 0, 0, false⟩ := ⟨_, rfl⟩
  have hopen : openK d ((2 + whichN (N + 1) * half : Nat) : Int) half (N + 1) = (some J, [], 0) := by rw [hopen, hJ]; rfl
  have hJa : J.anew = J := by rw [hJ]; rfl
  have hji1 : JI (readsD d (2 + whichN (N + 1) * half) half) (N + 1) 1 [] 0 := by have := hji.re; rwa [hr1] at this
  have e1 : J.base = ((2 + whichN (N + 1) * half : Nat) : Int) := by rw [hJ]
  have e2 : J.size = half := by rw [hJ]
  have e3 : J.gen = N + 1 := by rw [hJ]
  have e4 : J.round = 1 := by rw [hJ]
  have e5 : J.tail = 0 := by rw [hJ]
  have e6 : J.seq = 0 := by rw [hJ]
  have e7 : J.dead = false := by rw [hJ]
  have hj : J.ok := ⟨by omega, by omega, by omega, by omega, by omega, by omega⟩
  have kA := appendJ_ok ok J b
  obtain ⟨a1, a2, a3, a4, a5, a6⟩ := append_all hu ok hj (by omega) (by omega) e7 hb (by omega) (by omega)
  have hw64 : (headB (N + 1)).length = 64 := rfl
  obtain ⟨A, hA⟩ : ∃ A, (appendJ d J b).1.1 = A := ⟨_, rfl⟩
  rw [hA] at a2 a3 a4 a6 kA
  have hwr := write_up a2 (i := ((whichN (N + 1) : Nat) : Int)) (by omega) (by omega) hw64
  have hrw := fun j => read_write a2 (i := ((whichN (N + 1) : Nat) : Int)) (by omega) (by omega) hw64 j
  obtain ⟨X, hX⟩ : ∃ X, (writeD A (whichN (N + 1) : Nat) (headB (N + 1))).1 = X := ⟨_, rfl⟩
  have x0 : (writeD A (whichN (N + 1) : Nat) (headB (N + 1))).2 = 0 := by rw [hwr]
  have xu : Up X := by rw [← hX, hwr]; exact a2
  have xl : X.good.length = A.good.length := by rw [← hX, hwr]
  have kX : X.ok (200 * t + 84 + 1) := by rw [← hX]; exact writeD_ok kA _ _
  rw [hX] at hrw
  obtain ⟨s0, su, sp, sl⟩ := sync_up xu
  have hrs := fun j => read_sync xu kX j
  have kS := syncD_ok kX
  have hC : compactK d S b = ((syncD X).1, some (appendJ d J b).1.2, 0) := by
    unfold compactK
    rw [hS]
    show (match openK d (2 + (whichN (N + 1) : Int) * (half : Int)) half (N + 1) with
      | (none, _, k) => (d, none, k)
      | (some J, _, _) => _) = _
    rw [show (2 + (whichN (N + 1) : Int) * (half : Int)) = ((2 + whichN (N + 1) * half : Nat) : Int) by rw [Int.natCast_add, Int.natCast_mul]; rfl, hopen]
    show (if (appendJ d J.anew b).2 ≠ 0 then _ else _) = _
    rw [hJa, if_neg (not_not_intro a1), hA]
    show (if (writeD A (whichN (N + 1) : Nat) (headB (N + 1))).2 ≠ 0 then _ else _) = _
    rw [if_neg (not_not_intro x0)]
    show (if (syncD (writeD A (whichN (N + 1) : Nat) (headB (N + 1))).1).2 ≠ 0 then _ else _) = _
    rw [hX, if_neg (not_not_intro s0)]
  refine ⟨_, _, hC, su, sp, kS.up (by omega), by omega, hft, rfl, ?_, ?_, ?_, ?_, ?_, ?_, ?_, ?_, ?_, ?_, ?_, ⟨by omega, by omega⟩, Nat.zero_le _⟩
  · rw [a5]; exact e1
  · rw [a5]; exact e2
  · rw [a5]; exact e3
  · rw [a5]; show 1 ≤ J.round ∧ J.round ≤ _; omega
  · rw [a5]; show J.tail + (partsN b.length : Int) = _; omega
  · rw [a5]; show J.seq + 1 = _; rw [e6]; rfl
  · rw [a5]; exact e7
  · rw [a5]
    show JI _ (N + 1) J.round [b] (partsN b.length)
    have hsame : readsD (syncD X).1 (2 + whichN (N + 1) * half) half = readsD A (2 + whichN (N + 1) * half) half := reads_same fun j h0 h1 => by rw [hrs, hrw, if_neg (by omega)]
    have hcut : readsD (syncD X).1 (2 + whichN (N + 1) * half) half = (readsD d (2 + whichN (N + 1) * half) half).take 0 ++ (frameL (N + 1) 1 0 b ++ (readsD d (2 + whichN (N + 1) * half) half).drop (0 + partsN b.length)) := by
      have := reads_cut (d := d) (d2 := A) (base := 2 + whichN (N + 1) * half) (size := half) (T := 0) (f := frameL (N + 1) 1 0 b) (by rw [frameL_len]; omega) fun j => by
        rw [a6, frameL_len, e3, e4, e1, show J.tail = ((0 : Nat) : Int) from e5, show J.seq.toNat = 0 by omega]
        split <;> rfl
      rw [hsame, this, frameL_len]
    have := hji1.app (b := b) (by omega) (by omega) (by decide) (by decide) hb (by simp) (by rw [readsD_len]; omega) hcut
    rw [e4]
    rwa [Nat.zero_add] at this
  · rw [hrs, hrw, if_pos rfl]
    exact numH_head (by omega) (by omega)
  · rw [hrs, hrw, if_neg (by omega), a6, if_neg (by omega)]
    rcases Nat.lt_or_ge (whichN (N + 1)) 1 with h0 | h0
    · rw [show 1 - whichN (N + 1) = 1 by omega]; omega
    · rw [show 1 - whichN (N + 1) = 0 by omega]; omega
  · intro j h0 h1 g2 hm
    rw [hrs, hrw, if_neg (by omega)] at hm
    exact gens_put (fun j h0 h1 g hm => Nat.le_succ_of_le (hg j h0 h1 g hm)) (g := J.gen) (N := N + 1) (by omega) (by omega) a6 j h0 h1 g2 hm
end
end Go.Proofs.Ytidijnfkcpbkiaa

/- Snapshot, plainly: Open, and what sectors say. -/
set_option linter.unusedVariables false
set_option linter.unusedSimpArgs false
set_option maxRecDepth 20000
set_option maxHeartbeats 2000000
namespace Go.Proofs.Ytidijnfkcpbkiaa
open Go Go.Mx Go.Proofs
/-- what Compact does, and answers. -/
def compactS (d : DS) (S : SS) (b : List UInt8) : DS × Option JS × Int :=
  if partsN b.length = 0 then (d, none, 3)
  else if S.dead then (d, none, 19)
  else if S.number = 4294967295 then (d, none, 2)
  else if (partsN b.length : Int) > S.half then (d, none, 18)
  else compactK d S b
/-- what Open found. -/
structure OS where
  d : DS
  s : Option (SS × JS)
  l : List (List UInt8)
  k : Int
def bigN (d : DS) : Nat := max (numH (readD d 0).1 0) (numH (readD d 1).1 1)
def halfD (d : DS) : Int := ((d.good.length : Int) - 2).tdiv 2
def openS (d : DS) : OS :=
  if (d.good.length : Int) < 6 then ⟨d, none, [], 1⟩
  else if d.down then ⟨d, none, [], 19⟩
  else if bigN d = 0 then
    (match compactS d ⟨halfD d, 0, false⟩ [] with
    | (d2, some J, _) => ⟨d2, some (⟨halfD d, 1, false⟩, J), [], 0⟩
    | (d2, none, k) => ⟨d2, none, [], k⟩)
  else
    (match openK d (2 + whichN (bigN d) * halfD d) (halfD d) (bigN d) with
    | (none, _, k) => ⟨d, none, [], k⟩
    | (some J, l, _) => if l = [] then ⟨d, none, [], 4⟩ else ⟨d, some (⟨halfD d, bigN d, false⟩, J), l, 0⟩)
/-- what sectors say: number, snapshot and records, room, kind. -/
def ofK (L : List (List UInt8)) : Nat × List (List UInt8) × Int × Int :=
  if L.length < 6 then (0, [], 0, 1)
  else
    let a := numH (L[0]?.getD []) 0
    let b := numH (L[1]?.getD []) 1
    let half := (L.length - 2) / 2
    if a = 0 ∧ b = 0 then (if (scanK ((L.drop 2).take half) 1).2 = 4294967295 then (0, [], 0, 2) else (0, [], 0, 0))
    else
      let n := if b > a then b else a
      let from_ := if b > a then 2 + half else 2
      let s := scanK ((L.drop from_).take half) n
      if s.2 = 4294967295 then (0, [], 0, 2)
      else if s.1.1 = [] then (0, [], 0, 4)
      else (n, s.1.1, (half : Int) - s.1.2, 0)
section
variable {d : DS} {J : JS} {S : SS} {n half N T t : Nat} {snap b : List UInt8} {all : List (List UInt8)}
theorem halfD_eq (hg : d.good.length = n) (h6 : 6 ≤ n) : halfD d = (((n - 2) / 2 : Nat) : Int) := by
  unfold halfD
  rw [hg, Int.tdiv_eq_ediv_of_nonneg (by omega)]
  omega
theorem PS.big (h : PS d S J n half N snap all T t) : bigN d = N ∧ (whichN N = 0 → numH (readD d 0).1 0 = N ∧ numH (readD d 1).1 1 < N) ∧ (whichN N = 1 → numH (readD d 1).1 1 = N ∧ numH (readD d 0).1 0 < N) := by
  have h1 := h.mine
  have h2 := h.other
  have hw := whichN_lt N
  rcases Nat.lt_or_ge (whichN N) 1 with h0 | h0
  · have e : whichN N = 0 := by omega
    rw [e] at h1 h2
    have h1 : numH (readD d 0).1 0 = N := h1
    have h2 : numH (readD d 1).1 1 < N := h2
    exact ⟨by unfold bigN; omega, fun _ => ⟨h1, h2⟩, fun h => by omega⟩
  · have e : whichN N = 1 := by omega
    rw [e] at h1 h2
    have h1 : numH (readD d 1).1 1 = N := h1
    have h2 : numH (readD d 0).1 0 < N := h2
    exact ⟨by unfold bigN; omega, fun h => by omega, fun _ => ⟨h1, h2⟩⟩
/-- another Open. -/
theorem PS.reopen (h : PS d S J n half N snap all T t) (h6 : 6 ≤ n) (hn : n ≤ 400) (ht : t ≤ 1000) (hh : half = (n - 2) / 2) :
    ∃ J2, openS d = ⟨d, some (S, J2), snap :: all, 0⟩ ∧ PS d S J2 n half N snap all T (t + 1) := by
  have hb := h.big.1
  have hnb := h.nb
  have hf := h.fit
  have hrd := h.round
  have hgo := h.good
  have hle := h.ji.le
  obtain ⟨hi1, hi2, hi3⟩ := half_in (half := half) (N := N)
  have hD : halfD d = (half : Int) := by rw [halfD_eq h.good h6, hh]
  have hO := open_at (d := d) (base := 2 + whichN N * half) (size := half) (gen := N) h.up.1 (by omega) (by omega) (by omega) h.ji (by omega)
  obtain ⟨J2, hJ2⟩ : ∃ J2 : JS, J2 = ⟨((2 + whichN N * half : Nat) : Int), half, N, roundOf N (readsD d (2 + whichN N * half) half) + 1, T, (snap :: all).length, false⟩ := ⟨_, rfl⟩
  rw [← hJ2] at hO
  refine ⟨J2, ?_, ?_⟩
  · unfold openS
    rw [if_neg (by omega), if_neg (by rw [h.up.1]; decide), if_neg (by omega), hb, hD, show (2 + (whichN N : Int) * (half : Int)) = ((2 + whichN N * half : Nat) : Int) by rw [Int.natCast_add, Int.natCast_mul]; rfl, hO]
    show (if snap :: all = [] then _ else _) = _
    rw [if_neg (by simp), h.eS]
  · have hu := h.up'
    refine ⟨hu.up, hu.pend, hu.ok, hu.good, hu.fit, hu.eS, ?_, ?_, ?_, ?_, ?_, ?_, ?_, ?_, hu.mine, hu.other, hu.gens, hu.nb, hu.len⟩
    · rw [hJ2]
    · rw [hJ2]
    · rw [hJ2]
    · rw [hJ2]; show 1 ≤ roundOf _ _ + 1 ∧ roundOf _ _ + 1 ≤ _; omega
    · rw [hJ2]
    · rw [hJ2]; show (((snap :: all).length : Nat) : Int) = _; rw [List.length_cons]; omega
    · rw [hJ2]
    · rw [hJ2]; exact h.ji.re
theorem reads_drop (d : DS) (n k m : Nat) (h : k + m ≤ n) : ((readsD d 0 n).drop k).take m = readsD d k m := by
  apply List.ext_getElem?
  intro i
  rw [reads_get]
  by_cases hi : i < m
  · rw [List.getElem?_take_of_lt hi, List.getElem?_drop, reads_get, if_pos (by omega), if_pos hi]
    congr 3; omega
  · rw [if_neg hi, List.getElem?_eq_none (by rw [List.length_take]; omega)]
/-- what the sectors of a store say. -/
theorem PS.of (h : PS d S J n half N snap all T t) (h6 : 6 ≤ n) (hn : n ≤ 400) (ht : t ≤ 1000) (hh : half = (n - 2) / 2) : ofK (readsD d 0 n) = (N, snap :: all, (half : Int) - T, 0) := by
  obtain ⟨_, b0, b1⟩ := h.big
  have hl := readsD_len d 0 n
  have hw := whichN_lt N
  have hnb := h.nb
  have hrd := h.round
  have hf := h.fit
  have hle := h.ji.le
  obtain ⟨hi1, hi2, hi3⟩ := half_in (half := half) (N := N)
  have g0 : (readsD d 0 n)[0]?.getD [] = (readD d 0).1 := by rw [reads_get, if_pos (by omega)]; rfl
  have g1 : (readsD d 0 n)[1]?.getD [] = (readD d 1).1 := by rw [reads_get, if_pos (by omega)]; rfl
  have hs : scanK (readsD d (2 + whichN N * half) half) N = ((snap :: all, T), roundOf N (readsD d (2 + whichN N * half) half)) := by
    have := h.ji.scan
    have h2 : (scanK (readsD d (2 + whichN N * half) half) N).2 = roundOf N (readsD d (2 + whichN N * half) half) := rfl
    exact Prod.ext this h2
  unfold ofK
  rw [if_neg (by omega)]
  simp only [g0, g1, hl, ← hh]
  rcases Nat.lt_or_ge (whichN N) 1 with h0 | h0
  · have e : whichN N = 0 := by omega
    obtain ⟨c0, c1⟩ := b0 e
    rw [e, Nat.zero_mul, Nat.add_zero] at hs hle
    rw [c0, if_neg (show ¬ (N = 0 ∧ numH (readD d 1).1 1 = 0) by omega), if_neg (show ¬ numH (readD d 1).1 1 > N by omega), if_neg (show ¬ numH (readD d 1).1 1 > N by omega), reads_drop d n 2 half (by omega), hs]
    show (if roundOf N _ = 4294967295 then _ else if snap :: all = [] then _ else _) = _
    rw [if_neg (by omega), if_neg (by simp)]
  · have e : whichN N = 1 := by omega
    obtain ⟨c0, c1⟩ := b1 e
    rw [e, Nat.one_mul] at hs hle
    rw [c0, if_neg (show ¬ (numH (readD d 0).1 0 = 0 ∧ N = 0) by omega), if_pos (show N > numH (readD d 0).1 0 from c1), if_pos (show N > numH (readD d 0).1 0 from c1), reads_drop d n (2 + half) half (by omega), hs]
    show (if roundOf N _ = 4294967295 then _ else if snap :: all = [] then _ else _) = _
    rw [if_neg (by omega), if_neg (by simp)]
/-- a Compact. -/
theorem PS.compact (h : PS d S J n half N snap all T t) (hn : n ≤ 400) (ht : t ≤ 100) (hb : b.length ≤ 4000) (hfit : partsN b.length ≤ half) :
    ∃ d2 J2, compactS d S b = (d2, some J2, 0) ∧ PS d2 ⟨half, N + 1, false⟩ J2 n half (N + 1) b [] (partsN b.length) (t + 1) := by
  obtain ⟨_, b0, b1⟩ := h.big
  have hp := partsN_pos hb
  have hnb := h.nb
  have hw := whichN_lt N
  have hh : numH (readD d (0 : Nat)).1 (0 : Nat) ≤ N ∧ numH (readD d (1 : Nat)).1 (1 : Nat) ≤ N := by
    rcases Nat.lt_or_ge (whichN N) 1 with h0 | h0
    · obtain ⟨c0, c1⟩ := b0 (by omega)
      exact ⟨Nat.le_of_eq c0, Nat.le_of_lt c1⟩
    · obtain ⟨c0, c1⟩ := b1 (by omega)
      exact ⟨Nat.le_of_lt c1, Nat.le_of_eq c0⟩
  obtain ⟨d2, J2, hC, hP⟩ := compact_up h.up h.pend h.ok h.good h.fit h.eS hn ht hnb.2 hb hfit hh.1 hh.2 h.gens
  refine ⟨d2, J2, ?_, hP⟩
  unfold compactS
  rw [if_neg (by omega), h.eS, if_neg (show ¬ (false = true) by decide), if_neg (by show ¬ N = 4294967295; omega), if_neg (by show ¬ (partsN b.length : Int) > (half : Int); omega), ← h.eS, hC]
end
theorem zero_no : numH (List.replicate 64 0) 0 = 0 ∧ numH (List.replicate 64 0) 1 = 0 := by
  have : numB (List.replicate 64 0) 1 = 0 := rfl
  unfold numH
  rw [this]; exact ⟨rfl, rfl⟩
theorem new_read2 (n : Nat) (i : Int) : (readD (newDS n) i).1 = List.replicate 64 0 ∨ (readD (newDS n) i).1 = [] := by
  have hs : readS (newDS n) i = Sec.z := by
    unfold readS newDS
    show ((List.replicate n Sec.z)[i.toNat]?).getD Sec.z = Sec.z
    rw [List.getElem?_replicate]
    split <;> rfl
  unfold readD
  rw [hs]
  split
  · exact .inl rfl
  · exact .inr rfl
theorem new_numH (n : Nat) (i : Int) {j : Int} (hj : j = 0 ∨ j = 1) : numH (readD (newDS n) i).1 j = 0 := by
  rcases new_read2 n i with e | e
  · rw [e]
    rcases hj with rfl | rfl
    · exact zero_no.1
    · exact zero_no.2
  · rw [e]; exact numH_nil _
theorem new_gens (n half N : Nat) : Gens (newDS n) half N := fun j _ _ g hm => by
  rcases new_read2 n j with e | e
  · rw [e] at hm
    have : (0 : Nat) = 197 := hm.2.1
    omega
  · rw [e] at hm
    exact absurd hm (nil_mg g)
/-- the first Open. -/
theorem PS.new {n half : Nat} (h6 : 6 ≤ n) (hn : n ≤ 400) (hh : half = (n - 2) / 2) :
    ∃ d J, openS (newDS n) = ⟨d, some (⟨half, 1, false⟩, J), [], 0⟩ ∧ PS d ⟨half, 1, false⟩ J n half 1 [] [] 1 1 := by
  have hgl : (newDS n).good.length = n := by simp [newDS]
  have hD : halfD (newDS n) = (half : Int) := by rw [halfD_eq hgl h6, hh]
  obtain ⟨d2, J2, hC, hP⟩ := compact_up (d := newDS n) (S := ⟨half, 0, false⟩) (b := []) (N := 0) (t := 0) (half := half) (n := n) ⟨rfl, rfl⟩ rfl (newDS_ok (by omega) hn) hgl (by omega) rfl hn (by decide) (Nat.le_refl _) (by decide) (by show 1 ≤ half; omega) (Nat.le_of_eq (new_numH n 0 (.inl rfl))) (Nat.le_of_eq (new_numH n 1 (.inr rfl))) (new_gens _ _ _)
  refine ⟨d2, J2, ?_, hP⟩
  have hbig : bigN (newDS n) = 0 := by unfold bigN; rw [new_numH _ _ (.inl rfl), new_numH _ _ (.inr rfl)]; rfl
  have hS : compactS (newDS n) ⟨half, 0, false⟩ [] = (d2, some J2, 0) := by
    unfold compactS
    rw [if_neg (show ¬ partsN ([] : List UInt8).length = 0 by decide), if_neg (show ¬ (false = true) by decide), if_neg (show ¬ 0 = 4294967295 by decide), if_neg (by show ¬ ((1 : Nat) : Int) > (half : Int); omega), hC]
  unfold openS
  rw [if_neg (by omega), if_neg (show ¬ ((newDS n).down = true) from fun h => by cases h), if_pos hbig, hD, hS]
end Go.Proofs.Ytidijnfkcpbkiaa

/- SnapshotFirst, plainly: a crash as a store is made the first time. -/
set_option linter.unusedVariables false
set_option linter.unusedSimpArgs false
set_option maxRecDepth 20000
set_option maxHeartbeats 2000000
namespace Go.Proofs.Ytidijnfkcpbkiaa
open Go Go.Mx Go.Proofs
section
variable {d : DS} {J : JS} {S : SS} {m size base T gen R : Nat} {want : List (List UInt8)} {b : List UInt8}
/-- a Compact of what has room. -/
theorem compact_gen {n half N t R : Nat} {J0 : JS} {l0 : List (List UInt8)} {L0 : List (List UInt8)} (hu : Up d) (hp0 : d.pend = []) (ok : d.ok (200 * t)) (hgo : d.good.length = n) (hft : 2 + 2 * half ≤ n) (hS : S = ⟨half, N, false⟩) (hn : n ≤ 400) (ht : t ≤ 100) (hNt : N ≤ t) (hb : b.length ≤ 4000) (hfit : partsN b.length ≤ half)
    (hh0 : numH (readD d (0 : Nat)).1 (0 : Nat) ≤ N) (hh1 : numH (readD d (1 : Nat)).1 (1 : Nat) ≤ N) (hg : Gens d half (N + 1))
    (hopen : openK d ((2 + whichN (N + 1) * half : Nat) : Int) half (N + 1) = (some J0, l0, 0)) (hJ0 : J0.anew = ⟨((2 + whichN (N + 1) * half : Nat) : Int), half, N + 1, R, 0, 0, false⟩) (hR0 : 1 ≤ R) (hRt : R ≤ t + 2) (hji1 : JI L0 (N + 1) R [] 0) (hL0 : L0.length = half) (hLd : L0.drop (partsN b.length) = (readsD d (2 + whichN (N + 1) * half) half).drop (partsN b.length)) :
    ∃ d2 J2, compactK d S b = (d2, some J2, 0) ∧ PS d2 ⟨half, N + 1, false⟩ J2 n half (N + 1) b [] (partsN b.length) (t + 1) := by
  have hp := partsN_pos hb
  obtain ⟨hi1, hi2, hi3⟩ := half_in (half := half) (N := N + 1)
  have hw := whichN_lt (N + 1)
  obtain ⟨J, hJ⟩ : ∃ J : JS, J = ⟨((2 + whichN (N + 1) * half : Nat) : Int), half, N + 1, R, 0, 0, false⟩ := ⟨_, rfl⟩
  have hJa : J0.anew = J := by rw [hJ, hJ0]
  have e1 : J.base = ((2 + whichN (N + 1) * half : Nat) : Int) := by rw [hJ]
  have e2 : J.size = half := by rw [hJ]
  have e3 : J.gen = N + 1 := by rw [hJ]
  have e4 : J.round = R := by rw [hJ]
  have e5 : J.tail = 0 := by rw [hJ]
  have e6 : J.seq = 0 := by rw [hJ]
  have e7 : J.dead = false := by rw [hJ]
  have hj : J.ok := ⟨by omega, by omega, by omega, by omega, by omega, by omega⟩
  have kA := appendJ_ok ok J b
  obtain ⟨a1, a2, a3, a4, a5, a6⟩ := append_all hu ok hj (by omega) (by omega) e7 hb (by omega) (by omega)
  have hw64 : (headB (N + 1)).length = 64 := rfl
  obtain ⟨A, hA⟩ : ∃ A, (appendJ d J b).1.1 = A := ⟨_, rfl⟩
  rw [hA] at a2 a3 a4 a6 kA
  have hwr := write_up a2 (i := ((whichN (N + 1) : Nat) : Int)) (by omega) (by omega) hw64
  have hrw := fun j => read_write a2 (i := ((whichN (N + 1) : Nat) : Int)) (by omega) (by omega) hw64 j
  obtain ⟨X, hX⟩ : ∃ X, (writeD A (whichN (N + 1) : Nat) (headB (N + 1))).1 = X := ⟨_, rfl⟩
  have x0 : (writeD A (whichN (N + 1) : Nat) (headB (N + 1))).2 = 0 := by rw [hwr]
  have xu : Up X := by rw [← hX, hwr]; exact a2
  have xl : X.good.length = A.good.length := by rw [← hX, hwr]
  have kX : X.ok (200 * t + 84 + 1) := by rw [← hX]; exact writeD_ok kA _ _
  rw [hX] at hrw
  obtain ⟨s0, su, sp, sl⟩ := sync_up xu
  have hrs := fun j => read_sync xu kX j
  have kS := syncD_ok kX
  have hC : compactK d S b = ((syncD X).1, some (appendJ d J b).1.2, 0) := by
    unfold compactK
    rw [hS]
    show (match openK d (2 + (whichN (N + 1) : Int) * (half : Int)) half (N + 1) with
      | (none, _, k) => (d, none, k)
      | (some J, _, _) => _) = _
    rw [show (2 + (whichN (N + 1) : Int) * (half : Int)) = ((2 + whichN (N + 1) * half : Nat) : Int) by rw [Int.natCast_add, Int.natCast_mul]; rfl, hopen]
    show (if (appendJ d J0.anew b).2 ≠ 0 then _ else _) = _
    rw [hJa, if_neg (not_not_intro a1), hA]
    show (if (writeD A (whichN (N + 1) : Nat) (headB (N + 1))).2 ≠ 0 then _ else _) = _
    rw [if_neg (not_not_intro x0)]
    show (if (syncD (writeD A (whichN (N + 1) : Nat) (headB (N + 1))).1).2 ≠ 0 then _ else _) = _
    rw [hX, if_neg (not_not_intro s0)]
  refine ⟨_, _, hC, su, sp, kS.up (by omega), by omega, hft, rfl, ?_, ?_, ?_, ?_, ?_, ?_, ?_, ?_, ?_, ?_, ?_, ⟨by omega, by omega⟩, Nat.zero_le _⟩
  · rw [a5]; exact e1
  · rw [a5]; exact e2
  · rw [a5]; exact e3
  · rw [a5]; show 1 ≤ J.round ∧ J.round ≤ _; omega
  · rw [a5]; show J.tail + (partsN b.length : Int) = _; omega
  · rw [a5]; show J.seq + 1 = _; rw [e6]; rfl
  · rw [a5]; exact e7
  · rw [a5]
    show JI _ (N + 1) J.round [b] (partsN b.length)
    have hsame : readsD (syncD X).1 (2 + whichN (N + 1) * half) half = readsD A (2 + whichN (N + 1) * half) half := reads_same fun j h0 h1 => by rw [hrs, hrw, if_neg (by omega)]
    have hcut : readsD (syncD X).1 (2 + whichN (N + 1) * half) half = L0.take 0 ++ (frameL (N + 1) R 0 b ++ L0.drop (0 + partsN b.length)) := by
      have := reads_cut (d := d) (d2 := A) (base := 2 + whichN (N + 1) * half) (size := half) (T := 0) (f := frameL (N + 1) R 0 b) (by rw [frameL_len]; omega) fun j => by
        rw [a6, frameL_len, e3, e4, e1, show J.tail = ((0 : Nat) : Int) from e5, show J.seq.toNat = 0 by omega]
        split <;> rfl
      rw [hsame, this, frameL_len, Nat.zero_add, hLd]
      rfl
    have := hji1.app (b := b) (by omega) (by omega) (by omega) (by omega) hb (by simp) (by rw [hL0]; omega) hcut
    rw [e4]
    rwa [Nat.zero_add] at this
  · rw [hrs, hrw, if_pos rfl]
    exact numH_head (by omega) (by omega)
  · rw [hrs, hrw, if_neg (by omega), a6, if_neg (by omega)]
    rcases Nat.lt_or_ge (whichN (N + 1)) 1 with h0 | h0
    · rw [show 1 - whichN (N + 1) = 1 by omega]; omega
    · rw [show 1 - whichN (N + 1) = 0 by omega]; omega
  · intro j h0 h1 g2 hm
    rw [hrs, hrw, if_neg (by omega)] at hm
    exact gens_put hg (g := J.gen) (N := N + 1) (by omega) (by omega) a6 j h0 h1 g2 hm
end
/-- a disk that is not armed, else the same. -/
def un (d : DS) : DS := { d with armed := false, left := 0 }
theorem write_un {d : DS} {i : Int} {b : List UInt8} (ha : d.armed = true) (hd : d.down = false) (h0 : 0 ≤ i) (h1 : i < d.good.length) (hb : b.length = 64) (hl : d.left ≠ 0) : un (writeD d i b).1 = (writeD (un d) i b).1 ∧ (writeD d i b).2 = 0 ∧ (writeD d i b).1.armed = true ∧ (writeD d i b).1.left = d.left - 1 := by
  have hh : hasD d i = 0 := hasD_up hd h0 h1
  have hh2 : hasD (un d) i = 0 := hh
  have e : writeD d i b = ({ d with pend := d.pend ++ [⟨i, ⟨b, false, hb⟩⟩], left := d.left - 1, count := d.count + 1 }, 0) := by
    unfold writeD
    rw [if_pos hh, dif_pos hb, if_pos ha, if_neg hl]
  have e2 : writeD (un d) i b = ({ un d with pend := d.pend ++ [⟨i, ⟨b, false, hb⟩⟩], count := d.count + 1 }, 0) := by
    unfold writeD
    rw [if_pos hh2, dif_pos hb, if_neg (show ¬ ((un d).armed = true) from fun h => by cases h)]; rfl
  rw [e, e2]
  exact ⟨rfl, rfl, ha, rfl⟩
theorem write_torn {d : DS} {i : Int} {b : List UInt8} (ha : d.armed = true) (hd : d.down = false) (h0 : 0 ≤ i) (h1 : i < d.good.length) (hb : b.length = 64) (hl : d.left = 0) : writeD d i b = ({ d with pend := d.pend ++ [⟨i, ⟨b, true, hb⟩⟩], down := true }, 19) := by
  have hh : hasD d i = 0 := hasD_up hd h0 h1
  unfold writeD
  rw [if_pos hh, dif_pos hb, if_pos ha, if_pos hl]
theorem sync_un {d : DS} (hd : d.down = false) : un (syncD d).1 = (syncD (un d)).1 ∧ (syncD d).2 = 0 ∧ (syncD d).1.armed = d.armed ∧ (syncD d).1.left = d.left ∧ (syncD d).1.down = false := by
  have e : syncD d = (settleD d fun _ => true, 0) := by unfold syncD; rw [hd]; rfl
  have e2 : syncD (un d) = (settleD (un d) fun _ => true, 0) := by unfold syncD; rw [show (un d).down = false from hd]; rfl
  rw [e, e2]
  exact ⟨rfl, rfl, rfl, rfl, hd⟩
/-- behind a restart, a write that was torn. -/
theorem torn_restart {d : DS} {m : Nat} {i : Int} {b : List UInt8} (hb : b.length = 64) (ok : d.ok m) (hd : d.down = false) (hp : d.pend = []) (h0 : 0 ≤ i) (h1 : i < d.good.length) (keep : List Bool) :
    ∃ D, restartD ({ d with pend := d.pend ++ [⟨i, ⟨b, true, hb⟩⟩], down := true }) keep = D ∧ Up D ∧ D.pend = [] ∧ D.good.length = d.good.length ∧ D.ok (m + 1) ∧ ∀ j, readD D j = readD d j ∨ (j = i ∧ readD D j = ([], 5)) := by
  have ok2 : ({ d with pend := d.pend ++ [⟨i, ⟨b, true, hb⟩⟩], down := true } : DS).ok (m + 1) := by
    refine ⟨ok.n1, ok.n2, fun x hx => ?_, ?_, ?_, ok.left⟩
    · show 0 ≤ x.i ∧ x.i < d.good.length
      have hx : x ∈ d.pend ++ [⟨i, ⟨b, true, hb⟩⟩] := hx
      rcases List.mem_append.1 hx with hx | hx
      · exact ok.at_ x hx
      · rw [List.mem_singleton.1 hx]; exact ⟨h0, h1⟩
    · show (d.pend ++ [_]).length ≤ m + 1
      rw [List.length_append]; have := ok.pl; show d.pend.length + 1 ≤ _; omega
    · have := ok.cl; exact ⟨this.1, by show d.count ≤ _; omega⟩
  refine ⟨_, rfl, ⟨rfl, rfl⟩, rfl, settleL_len _ _ _ _, restartD_ok ok2 keep, fun j => ?_⟩
  obtain ⟨D, hD⟩ : ∃ D, restartD ({ d with pend := d.pend ++ [⟨i, ⟨b, true, hb⟩⟩], down := true }) keep = D := ⟨_, rfl⟩
  rw [hD]
  have hg : D.good = settleL (keepF keep) 0 d.good [⟨i, ⟨b, true, hb⟩⟩] := by rw [← hD]; show settleL _ 0 d.good (d.pend ++ _) = _; rw [hp]; rfl
  have hg : D.good = if keepF keep 0 then d.good.set i.toNat ⟨b, true, hb⟩ else d.good := by rw [hg]; rfl
  have hDp : D.pend = [] := by rw [← hD]; rfl
  have hDd : D.down = false := by rw [← hD]; rfl
  have hl : D.good.length = d.good.length := by rw [hg]; split <;> simp
  have hh : hasD D j = hasD d j := by unfold hasD; rw [hDd, hd, hl]
  have hS : readS D j = D.good[j.toNat]?.getD Sec.z := by unfold readS; rw [hDp]; rfl
  have hS2 : readS d j = d.good[j.toNat]?.getD Sec.z := by unfold readS; rw [hp]; rfl
  by_cases hk : hasD d j = 0
  · have hj : 0 ≤ j ∧ j < d.good.length := (hasD_0 hk).2
    cases hkeep : keepF keep 0 with
    | false =>
      rw [hkeep] at hg
      left
      unfold readD
      rw [hh, hS, hS2, hg]; rfl
    | true =>
      rw [hkeep] at hg
      by_cases hji : j = i
      · right
        refine ⟨hji, ?_⟩
        have : readS D j = ⟨b, true, hb⟩ := by
          rw [hS, hg, hji]
          show ((d.good.set i.toNat _)[i.toNat]?).getD _ = _
          rw [List.getElem?_set_self (by omega)]; rfl
        unfold readD
        rw [hh, if_pos hk, this]; rfl
      · left
        have : readS D j = readS d j := by
          rw [hS, hS2, hg]
          show ((d.good.set i.toNat _)[j.toNat]?).getD _ = _
          rw [List.getElem?_set_ne (by omega)]
        unfold readD
        rw [hh, this]
  · left
    unfold readD
    rw [hh, if_neg hk, if_neg hk]
/-- a store's first Open on an armed disk, a restart, and the next Open. -/
theorem first_up {n half : Nat} {armed : Int} (h6 : 6 ≤ n) (hn : n ≤ 60) (hh : half = (n - 2) / 2) (ha : 0 ≤ armed) (ha2 : armed < 9223372036854775808) :
    ∃ d1, (armD (newDS n) armed).1 = d1 ∧ d1.ok 0 ∧ (openS d1).k = (if armed < 2 then 19 else 0) ∧ (openS d1).d.ok 200 ∧ ∀ keep, ∃ d3 J l, openS (restartD (openS d1).d keep) = ⟨d3, some (⟨half, 1, false⟩, J), l, 0⟩ ∧ (l = [] ∨ l = [[]]) ∧ (restartD (openS d1).d keep).ok 300 ∧ PS d3 ⟨half, 1, false⟩ J n half 1 [] [] 1 3 := by
  obtain ⟨d1, hd1⟩ : ∃ d1 : DS, d1 = { newDS n with left := armed, armed := true } := ⟨_, rfl⟩
  have hA : armD (newDS n) armed = (d1, 0) := by
    unfold armD
    rw [if_neg (show ¬ ((newDS n).down = true) from fun h => by cases h), if_neg (by omega), hd1]
  have kn := newDS_ok (n := n) (by omega) (by omega)
  have k1 : d1.ok 0 := by have := armD_ok (d := newDS n) kn ha2; rwa [hA] at this
  have u1 : un d1 = newDS n := by rw [hd1]; rfl
  have gl : d1.good.length = n := by rw [hd1]; simp [newDS]
  have dn : d1.down = false := by rw [hd1]; rfl
  have pn : d1.pend = [] := by rw [hd1]; rfl
  have ar : d1.armed = true := by rw [hd1]
  have lf : d1.left = armed := by rw [hd1]
  have rd : ∀ j, readD d1 j = readD (newDS n) j := fun j => by rw [← u1]; rfl
  have rds : ∀ base size, readsD d1 base size = readsD (newDS n) base size := fun base size => by rw [← u1]; rfl
  have hgn : (newDS n).good.length = n := by simp [newDS]
  have hhalf : halfD d1 = (half : Int) := by rw [halfD_eq gl h6, hh]
  have hw1 : whichN 1 = 0 := rfl
  have big0 : ∀ {d : DS}, numH (readD d 0).1 0 = 0 → numH (readD d 1).1 1 = 0 → bigN d = 0 := fun h0 h1 => by unfold bigN; rw [h0, h1]; rfl
  have cS : ∀ d : DS, compactS d ⟨half, 0, false⟩ [] = compactK d ⟨half, 0, false⟩ [] := fun d => by
    unfold compactS
    rw [if_neg (show ¬ partsN ([] : List UInt8).length = 0 by decide), if_neg (show ¬ (false = true) by decide), if_neg (show ¬ 0 = 4294967295 by decide), if_neg (by show ¬ ((1 : Nat) : Int) > (half : Int); omega)]
  have oS : ∀ d : DS, d.good.length = n → d.down = false → bigN d = 0 → openS d = match compactK d ⟨half, 0, false⟩ [] with
      | (d2, some J, _) => ⟨d2, some (⟨half, 1, false⟩, J), [], 0⟩
      | (d2, none, k) => ⟨d2, none, [], k⟩ := fun d hg hd hb => by
    unfold openS
    rw [hg, if_neg (by omega), hd, if_neg (by decide), if_pos hb, halfD_eq hg h6, ← hh, cS]
    try rfl
  have b1 : bigN d1 = 0 := big0 (by rw [rd]; exact new_numH n 0 (.inl rfl)) (by rw [rd]; exact new_numH n 1 (.inr rfl))
  have hji : JI (readsD (newDS n) 2 half) 1 0 [] 0 := JI.blank (by decide) fun s hs hm => by
    obtain ⟨i, hi⟩ := List.mem_iff_getElem?.1 hs
    rw [reads_get] at hi
    split at hi
    · have := new_gens n half 0 (((2 : Nat) : Int) + (i : Int)) (by omega) (by omega) 1 (by rw [Option.some.inj hi]; exact hm)
      omega
    · cases hi
  obtain ⟨J, hJ⟩ : ∃ J : JS, J = ⟨2, half, 1, 1, 0, 0, false⟩ := ⟨_, rfl⟩
  have hrl := hji.le
  have hr1 : roundOf 1 (readsD (newDS n) 2 half) = 0 := by omega
  have hop1 : ∀ d : DS, d.good.length = n → d.down = false → readsD d 2 half = readsD (newDS n) 2 half → openK d 2 half 1 = (some J, [], 0) := fun d hg hd hr => by
    have := open_at (d := d) (base := 2) (size := half) (gen := 1) hd (by omega) (by omega) (by decide) (by rw [hr]; exact hji) (by decide)
    rw [hr, hr1] at this
    rw [hJ]; exact this
  have hopen := hop1 d1 gl dn (rds _ _)
  have hJa : J.anew = J := by rw [hJ]; rfl
  have hj : J.ok := by
    rw [hJ]
    exact ⟨⟨by show (0 : Int) ≤ 2; decide, by show (2 : Int) ≤ 1000000; decide⟩, ⟨by show (0 : Int) ≤ half; omega, by show (half : Int) ≤ _; omega⟩, by show 1 < 4294967296; decide, by show 1 < 4294967296; decide, ⟨Int.le_refl _, by show (0 : Int) ≤ 1000000; decide⟩, ⟨Int.le_refl _, by show (0 : Int) ≤ 1000000; decide⟩⟩
  obtain ⟨F, hF⟩ : ∃ F, secL 1 1 0 0 1 [] = F := ⟨_, rfl⟩
  have hFl : F.length = 64 := by rw [← hF]; rfl
  have hAF : appendF J [] = [F] := by rw [hJ, ← hF]; rfl
  have hC : ∀ d : DS, openK d 2 half 1 = (some J, [], 0) → compactK d ⟨half, 0, false⟩ [] = if (appendJ d J []).2 ≠ 0 then ((appendJ d J []).1.1, none, (appendJ d J []).2)
      else if (writeD (appendJ d J []).1.1 0 (headB 1)).2 ≠ 0 then ((writeD (appendJ d J []).1.1 0 (headB 1)).1, none, (writeD (appendJ d J []).1.1 0 (headB 1)).2)
      else if (syncD (writeD (appendJ d J []).1.1 0 (headB 1)).1).2 ≠ 0 then ((syncD (writeD (appendJ d J []).1.1 0 (headB 1)).1).1, none, (syncD (writeD (appendJ d J []).1.1 0 (headB 1)).1).2)
      else ((syncD (writeD (appendJ d J []).1.1 0 (headB 1)).1).1, some (appendJ d J []).1.2, 0) := fun d ho => by
    unfold compactK
    show (match openK d (2 + (whichN 1 : Int) * (half : Int)) half 1 with
      | (none, _, k) => (d, none, k)
      | (some J, _, _) => _) = _
    rw [show (2 + (whichN 1 : Int) * (half : Int)) = 2 by rw [hw1]; omega, ho]
    have hz : ((whichN (0 + 1) : Nat) : Int) = 0 := by rw [show whichN (0 + 1) = 0 from rfl]; rfl
    simp only [hJa, hz]
    try rfl
  have hAp : ∀ d : DS, appendJ d J [] = if (writeD d 2 F).2 ≠ 0 then (((writeD d 2 F).1, { J with dead := true }), (writeD d 2 F).2)
      else if (syncD (writeD d 2 F).1).2 ≠ 0 then (((syncD (writeD d 2 F).1).1, { J with dead := true }), (syncD (writeD d 2 F).1).2)
      else (((syncD (writeD d 2 F).1).1, { J with tail := J.tail + 1, seq := J.seq + 1 }), 0) := fun d => by
    have hwr : writesD d (J.base + J.tail) (appendF J []) = if (writeD d 2 F).2 ≠ 0 then writeD d 2 F else ((writeD d 2 F).1, 0) := by
      rw [hAF, hJ]; rfl
    unfold appendJ
    rw [if_neg (show ¬ partsN ([] : List UInt8).length = 0 by decide), hwr, if_neg (by rw [hJ]; exact fun h => by cases h), if_neg (by rw [hJ]; show ¬ ((1 : Nat) : Int) > (half : Int) - 0; omega)]
    by_cases hz : (writeD d 2 F).2 ≠ 0
    · rw [if_pos hz, if_pos hz, if_pos hz]
    · rw [if_neg hz, if_neg hz, if_neg (show ¬ (((writeD d 2 F).1, (0 : Int)).2 ≠ 0) from not_not_intro rfl)]
      by_cases hz2 : (syncD (writeD d 2 F).1).2 ≠ 0
      · rw [if_pos hz2, if_pos hz2]
      · rw [if_neg hz2, if_neg hz2]; rfl
  have blankL : ∀ R, JI (readsD (newDS n) 2 half) 1 R [] 0 := fun R => ⟨hji.scan, hji.seq, fun s hs hm => by have := hji.rnd s hs hm; omega, fun s hs hm => by
    obtain ⟨i, hi⟩ := List.mem_iff_getElem?.1 hs
    rw [reads_get] at hi
    split at hi
    · have := new_gens n half 0 (((2 : Nat) : Int) + (i : Int)) (by omega) (by omega) 1 (by rw [Option.some.inj hi]; exact hm)
      omega
    · cases hi⟩
  refine ⟨d1, by rw [hA], k1, ?_⟩
  rw [oS d1 gl dn b1, hC d1 hopen]
  by_cases h0 : armed = 0
  · -- the frame was torn
    have hw := write_torn (i := 2) (b := F) ar dn (by omega) (by omega) hFl (by rw [lf, h0])
    have hap : appendJ d1 J [] = (((writeD d1 2 F).1, { J with dead := true }), 19) := by rw [hAp, if_pos (by rw [hw]; show (19 : Int) ≠ 0; decide), hw]
    rw [hap, if_pos (show (19 : Int) ≠ 0 by decide), if_pos (show armed < 2 by omega), hw]
    refine ⟨rfl, ?_, fun keep => ?_⟩
    · have := writeD_ok k1 2 F
      rw [hw] at this
      exact this.up (by omega)
    · obtain ⟨D, hD, Du, Dp, Dg, Dk, Dr⟩ := torn_restart (b := F) hFl k1 dn pn (i := 2) (by omega) (by omega) keep
      show ∃ d3 J l, openS (restartD _ keep) = _ ∧ _
      rw [hD]
      have rdD : ∀ j, (readD D j).1 = (readD (newDS n) j).1 ∨ (readD D j).1 = [] := fun j => by
        rcases Dr j with e | ⟨_, e⟩
        · rw [e, rd]; exact .inl rfl
        · rw [e]; exact .inr rfl
      have hnum : ∀ (i : Int) {j : Int}, (j = 0 ∨ j = 1) → numH (readD D i).1 j = 0 := fun i {j} hj => by
        rcases rdD i with e | e
        · rw [e]; exact new_numH n i hj
        · rw [e]; exact numH_nil j
      have gD : Gens D half 0 := fun j hj0 hj1 g hm => by
        rcases rdD j with e | e
        · exact new_gens n half 0 j hj0 hj1 g (by rw [← e]; exact hm)
        · rw [e] at hm; exact absurd hm (nil_mg g)
      obtain ⟨d2, J2, hC2, hP⟩ := compact_up (d := D) (S := ⟨half, 0, false⟩) (b := []) (N := 0) (t := 2) (half := half) (n := n) Du Dp (Dk.up (by omega)) (by omega) (by omega) rfl (by omega) (by decide) (by decide) (by decide) (by show 1 ≤ half; omega) (Nat.le_of_eq (hnum 0 (.inl rfl))) (Nat.le_of_eq (hnum 1 (.inr rfl))) gD
      refine ⟨d2, J2, [], ?_, .inl rfl, Dk.up (by omega), hP⟩
      rw [oS D (by omega) Du.1 (big0 (hnum 0 (.inl rfl)) (hnum 1 (.inr rfl))), hC2]
  · -- the frame is there
    obtain ⟨w1, w2, w3, w4⟩ := write_un (i := 2) (b := F) ar dn (by omega) (by omega) hFl (by rw [lf]; exact h0)
    have wok := writeD_ok k1 2 F
    have wdn : (writeD d1 2 F).1.down = false := by
      have : (un (writeD d1 2 F).1).down = (writeD (un d1) 2 F).1.down := by rw [w1]
      rw [u1] at this
      have h2 := write_up (d := newDS n) ⟨rfl, rfl⟩ (i := 2) (by omega) (by omega) hFl
      rw [h2] at this; exact this
    obtain ⟨s1, s2, s3, s4, s5⟩ := sync_un wdn
    rw [w1, u1] at s1
    obtain ⟨e, he⟩ : ∃ e, (syncD (writeD d1 2 F).1).1 = e := ⟨_, rfl⟩
    rw [he] at s1 s3 s4 s5
    have ke : e.ok 1 := by rw [← he]; exact syncD_ok wok
    have hap : appendJ d1 J [] = ((e, { J with tail := J.tail + 1, seq := J.seq + 1 }), 0) := by rw [hAp, if_neg (not_not_intro w2), if_neg (not_not_intro s2), he]
    -- as on a disk that is not armed
    have hapN : appendJ (newDS n) J [] = ((un e, { J with tail := J.tail + 1, seq := J.seq + 1 }), 0) := by
      have hw2 := write_up (d := newDS n) ⟨rfl, rfl⟩ (i := 2) (by omega) (by omega) hFl
      rw [hAp, if_neg (by rw [hw2]; exact not_not_intro rfl), if_neg (by have := (sync_un (d := (writeD (newDS n) 2 F).1) (by rw [hw2]; rfl)).2.1; rw [this]; exact not_not_intro rfl), s1]
    obtain ⟨a1, a2, a3, a4, a5, a6⟩ := append_all (d := newDS n) (J := J) (b := []) (m := 0) ⟨rfl, rfl⟩ kn hj (by rw [hJ]; show (1 : Nat) ≠ 0; decide) (by rw [hJ]; show (1 : Nat) ≠ 0; decide) (by rw [hJ]) (by decide) (by rw [hJ]; show (0 : Int) + 1 ≤ half; omega) (by rw [hJ, hgn]; show (2 : Int) + half ≤ n; omega)
    rw [hapN] at a2 a3 a4 a6
    have ep : e.pend = [] := a3
    have eg : e.good.length = n := by have : e.good.length = (newDS n).good.length := a4; omega
    have rde : ∀ j : Int, readD e j = if j = 2 then (F, 0) else readD (newDS n) j := fun j => by
      have := a6 j
      rw [show readD ((un e, ({ J with tail := J.tail + 1, seq := J.seq + 1 } : JS)), (0 : Int)).1.1 j = readD e j from rfl] at this
      rw [this, hJ]
      by_cases hj2 : j = 2
      · subst hj2
        rw [if_pos (by show (2 : Int) + 0 ≤ 2 ∧ (2 : Int) < 2 + 0 + ((1 : Nat) : Int); decide), if_pos rfl, ← hF]; rfl
      · rw [if_neg (show ¬ ((2 : Int) + 0 ≤ j ∧ j < 2 + 0 + ((partsN ([] : List UInt8).length : Nat) : Int)) from fun h => by have e1 : ((partsN ([] : List UInt8).length : Nat) : Int) = 1 := rfl; omega), if_neg hj2]
    have hw64 : (headB 1).length = 64 := rfl
    rw [hap, if_neg (show ¬ ((0 : Int) ≠ 0) by decide)]
    by_cases h1 : armed = 1
    · -- the head was torn
      have hw := write_torn (d := e) (i := 0) (b := headB 1) (by rw [s3]; exact w3) s5 (by omega) (by omega) hw64 (by rw [s4, w4, lf, h1]; rfl)
      show ((match (if (writeD e 0 (headB 1)).2 ≠ 0 then _ else _ : DS × Option JS × Int) with
        | (d2, some J, _) => (⟨d2, some (⟨half, 1, false⟩, J), [], 0⟩ : OS)
        | (d2, none, k) => ⟨d2, none, [], k⟩).k = _) ∧ _
      rw [if_pos (show (writeD e 0 (headB 1)).2 ≠ 0 by rw [hw]; show (19 : Int) ≠ 0; decide), if_pos (show armed < 2 by omega), hw]
      refine ⟨rfl, ?_, fun keep => ?_⟩
      · have := writeD_ok ke 0 (headB 1)
        rw [hw] at this
        exact this.up (by omega)
      · obtain ⟨D, hD, Du, Dp, Dg, Dk, Dr⟩ := torn_restart (b := headB 1) hw64 ke s5 ep (i := 0) (by omega) (by omega) keep
        show ∃ d3 J l, openS (restartD _ keep) = _ ∧ _
        rw [hD]
        have hnum : ∀ (i : Int) {j : Int}, (i = 0 ∨ i = 1) → (j = 0 ∨ j = 1) → numH (readD D i).1 j = 0 := fun i {j} hi hj => by
          rcases Dr i with e | ⟨_, e⟩
          · rw [e, rde, if_neg (by omega)]; exact new_numH n i hj
          · rw [e]; exact numH_nil j
        have rD2 : ∀ j : Int, 2 ≤ j → readD D j = if j = 2 then (F, 0) else readD (newDS n) j := fun j hj => by
          rcases Dr j with e | ⟨h, _⟩
          · rw [e, rde]
          · omega
        have gD : Gens D half 1 := fun j hj0 hj1 g hm => by
          rw [rD2 j hj0] at hm
          split at hm
          · have this : numB F 1 = g := hm.2.2
            rw [← hF] at this
            have h3 : numB (secL 1 1 0 0 1 []) 1 = 1 := rfl
            omega
          · have := new_gens n half 0 j hj0 hj1 g hm; omega
        have hcut : readsD D 2 half = (readsD (newDS n) 2 half).take 0 ++ (frameL 1 1 0 [] ++ (readsD (newDS n) 2 half).drop (0 + 1)) := by
          have hFr : frameL 1 1 0 [] = [F] := by rw [← hF]; rfl
          rw [List.take_zero, List.nil_append, hFr]
          apply List.ext_getElem?
          intro i
          rw [reads_get]
          show _ = (F :: (readsD (newDS n) 2 half).drop (0 + 1))[i]?
          cases i with
          | zero => rw [if_pos (by omega), rD2 _ (by omega), if_pos (by omega)]; rfl
          | succ i =>
            rw [List.getElem?_cons_succ, List.getElem?_drop, reads_get, show 0 + 1 + i = i + 1 by omega]
            by_cases hi : i + 1 < half
            · rw [if_pos hi, if_pos hi, rD2 _ (by omega), if_neg (by omega)]
            · rw [if_neg hi, if_neg hi]
        have hjiD : JI (readsD D 2 half) 1 1 [[]] 1 := by
          have := (blankL 1).app (b := []) (by decide) (by decide) (by decide) (by decide) (by decide) (by decide) (by rw [readsD_len]; show 0 + 1 ≤ half; omega) hcut
          exact this
        have hleD := hjiD.le
        have hopD := open_at (d := D) (base := 2) (size := half) (gen := 1) Du.1 (by omega) (by omega) (by decide) hjiD (by decide)
        have hdrop : (readsD (newDS n) 2 half).drop (partsN ([] : List UInt8).length) = (readsD D 2 half).drop (partsN ([] : List UInt8).length) := by
          rw [hcut]; rfl
        have h2i : ((2 + whichN (0 + 1) * half : Nat) : Int) = ((2 : Nat) : Int) := by show ((2 + 0 * half : Nat) : Int) = _; omega
        have h2n : 2 + whichN (0 + 1) * half = 2 := by show 2 + 0 * half = 2; omega
        obtain ⟨Rr, hRr⟩ : ∃ Rr, roundOf 1 (readsD D 2 half) + 1 = Rr := ⟨_, rfl⟩
        rw [hRr] at hopD
        obtain ⟨J0, hJ0⟩ : ∃ J0 : JS, J0 = ⟨((2 : Nat) : Int), half, 1, Rr, ((1 : Nat) : Int), (([[]] : List (List UInt8)).length : Nat), false⟩ := ⟨_, rfl⟩
        rw [← hJ0] at hopD
        have hJan : J0.anew = ⟨((2 + whichN (0 + 1) * half : Nat) : Int), half, 0 + 1, Rr, 0, 0, false⟩ := by rw [hJ0, h2i]; rfl
        obtain ⟨d2, J2, hC2, hP⟩ := compact_gen (d := D) (S := ⟨half, 0, false⟩) (b := []) (N := 0) (t := 2) (half := half) (n := n) (R := Rr) (J0 := J0) (l0 := [[]]) (L0 := readsD (newDS n) 2 half) Du Dp (Dk.up (by omega)) (by omega) (by omega) rfl (by omega) (by decide) (by decide) (by decide) (by show 1 ≤ half; omega) (Nat.le_of_eq (hnum 0 (.inl rfl) (.inl rfl))) (Nat.le_of_eq (hnum 1 (.inr rfl) (.inr rfl))) gD (by rw [h2i]; exact hopD) hJan (by omega) (by omega) (blankL Rr) (readsD_len _ _ _) (by rw [h2n]; exact hdrop)
        refine ⟨d2, J2, [], ?_, .inl rfl, Dk.up (by omega), hP⟩
        rw [oS D (by omega) Du.1 (big0 (hnum 0 (.inl rfl) (.inl rfl)) (hnum 1 (.inr rfl) (.inr rfl))), hC2]
    · -- all is there
      have el : e.left ≠ 0 := by rw [s4, w4, lf]; omega
      obtain ⟨x1, x2, x3, x4⟩ := write_un (d := e) (i := 0) (b := headB 1) (by rw [s3]; exact w3) s5 (by omega) (by omega) hw64 el
      have xok := writeD_ok ke 0 (headB 1)
      have uUp : Up (un e) := a2
      have xdn : (writeD e 0 (headB 1)).1.down = false := by
        have : (un (writeD e 0 (headB 1)).1).down = (writeD (un e) 0 (headB 1)).1.down := by rw [x1]
        have h2 := write_up (d := un e) uUp (i := 0) (by omega) (by show (0 : Int) < e.good.length; omega) hw64
        rw [h2] at this; exact this.trans uUp.1
      obtain ⟨y1, y2, y3, y4, y5⟩ := sync_un xdn
      rw [x1] at y1
      obtain ⟨f, hf⟩ : ∃ f, (syncD (writeD e 0 (headB 1)).1).1 = f := ⟨_, rfl⟩
      rw [hf] at y1 y3 y4 y5
      have kf : f.ok 2 := by rw [← hf]; exact syncD_ok xok
      show ((match (if (writeD e 0 (headB 1)).2 ≠ 0 then _ else if (syncD (writeD e 0 (headB 1)).1).2 ≠ 0 then _ else _ : DS × Option JS × Int) with
        | (d2, some J, _) => (⟨d2, some (⟨half, 1, false⟩, J), [], 0⟩ : OS)
        | (d2, none, k) => ⟨d2, none, [], k⟩).k = _) ∧ _
      rw [if_neg (not_not_intro x2), if_neg (not_not_intro y2), if_neg (show ¬ armed < 2 by omega), hf]
      refine ⟨rfl, kf.up (by omega), fun keep => ?_⟩
      show ∃ d3 J l, openS (restartD f keep) = _ ∧ _ ∧ (restartD f keep).ok 300 ∧ _
      obtain ⟨d2, J2, hC2, hP⟩ := compact_up (d := newDS n) (S := ⟨half, 0, false⟩) (b := []) (N := 0) (t := 0) (half := half) (n := n) ⟨rfl, rfl⟩ rfl kn hgn (by omega) rfl (by omega) (by decide) (Nat.le_refl _) (by decide) (by show 1 ≤ half; omega) (Nat.le_of_eq (new_numH n 0 (.inl rfl))) (Nat.le_of_eq (new_numH n 1 (.inr rfl))) (new_gens _ _ _)
      have hwU := write_up (d := un e) uUp (i := 0) (by omega) (by show (0 : Int) < e.good.length; omega) hw64
      have hsU := (sync_un (d := (writeD (un e) 0 (headB 1)).1) (by rw [hwU]; exact uUp.1)).2.1
      rw [hC (newDS n) (hop1 (newDS n) hgn rfl rfl), hapN] at hC2
      have hC3 : ((syncD (writeD (un e) 0 (headB 1)).1).1, some ({ J with tail := J.tail + 1, seq := J.seq + 1 } : JS), (0 : Int)) = (d2, some J2, 0) := by
        rw [← hC2]
        show _ = if (0 : Int) ≠ 0 then _ else if (writeD (un e) 0 (headB 1)).2 ≠ 0 then _ else if (syncD (writeD (un e) 0 (headB 1)).1).2 ≠ 0 then _ else _
        rw [if_neg (by decide), if_neg (by rw [hwU]; exact not_not_intro rfl), if_neg (not_not_intro hsU)]
      have hd2 : un f = d2 := by rw [y1]; exact congrArg Prod.fst hC3
      rw [← hd2] at hP
      have P2 := hP.up'
      have rok := restartD_ok kf keep
      have hfp : f.pend = [] := hP.pend
      have hfd : f.down = false := y5
      obtain ⟨fg, fp, fl, fa, fd, fc⟩ := f
      have hfp : fp = [] := hfp
      subst hfp
      have eD : restartD ⟨fg, [], fl, fa, fd, fc⟩ keep = ⟨fg, [], fl, false, false, fc⟩ := rfl
      have hfd : fd = false := hfd
      subst hfd
      rw [eD] at rok ⊢
      have PD : PS ⟨fg, [], fl, false, false, fc⟩ ⟨half, 0 + 1, false⟩ J2 n half (0 + 1) [] [] (partsN ([] : List UInt8).length) (0 + 1 + 1) :=
        ⟨⟨rfl, rfl⟩, rfl, rok.up (by omega), P2.good, P2.fit, P2.eS, P2.base, P2.jsize, P2.jgen, P2.round, P2.tail, P2.seq, P2.dead, P2.ji, P2.mine, P2.other, P2.gens, P2.nb, P2.len⟩
      obtain ⟨J3, hO3, P3⟩ := PD.reopen h6 (by omega) (by decide) hh
      exact ⟨_, J3, [[]], hO3, .inr rfl, rok.up (by omega), P3⟩
end Go.Proofs.Ytidijnfkcpbkiaa

/- Snapshot: the loop of a Compact. -/
set_option linter.unusedVariables false
set_option linter.unusedSimpArgs false
set_option maxRecDepth 20000
set_option maxHeartbeats 4000000
namespace Go.Proofs.Ytidijnfkcpbkiaa
open Go Go.Mx Go.Proofs
open W (OwnB GivesW)
/-- a block of nobody's stays. -/
theorem free_blk {K : Nat → Prop} {w w' : World} {o o' : Own} {b : Nat} {t : TypeId} {cs : List Value} (h : Blk w b t cs) (ho : o b = none) (s : Step K w o w' o') : Blk w' b t cs ∧ o' b = none :=
  ⟨h.ext s.ext (fun ⟨k, h1, _⟩ => by rw [ho] at h1; cases h1), by rw [s.own h.lt]; exact ho⟩
section
variable {w w' w1 : World} {o o' o1 : Own} {q g p N m qa qk ql qs qp qn : Nat} {K : Nat → Prop} {b : List UInt8} {a ba : Option Addr} {c bc : Nat} {d : DS} {J : JS} {S : SS} {k : Int} {lg ln : Option Addr}
/-- the captured variables, and the array of the steps. -/
structure Caps (w : World) (o : Own) (qa qk ql qs qp qn p g n : Nat) (k : Int) (ln a : Option Addr) (len c : Nat) : Prop where
  ba : Blk w qa 68 [.func (.func 30) #[] #[.pointer (some (blk qk))], .func (.func 31) #[] #[.pointer (some (blk ql)), .pointer (some (blk qs))], .func (.func 33) #[] #[.pointer (some (blk qp)), .pointer (some (blk qn))], .func (.func 37) #[.pointer (some (blk g))] #[]]
  bk : Blk w qk 26 [.int .i64 k]
  bl : Blk w ql 58 [.pointer ln]
  bs : Blk w qs 30 [.slice a len c]
  bp : Blk w qp 29 [.pointer (some (blk p))]
  bn : Blk w qn 34 [.int .u32 n]
  free : o qa = none ∧ o qk = none ∧ o ql = none ∧ o qs = none ∧ o qp = none ∧ o qn = none
theorem Caps.step {n len : Nat} (h : Caps w o qa qk ql qs qp qn p g n k ln a len c) (s : Step K w o w' o') : Caps w' o' qa qk ql qs qp qn p g n k ln a len c := by
  obtain ⟨f1, f2, f3, f4, f5, f6⟩ := h.free
  obtain ⟨b1, g1⟩ := free_blk h.ba f1 s
  obtain ⟨b2, g2⟩ := free_blk h.bk f2 s
  obtain ⟨b3, g3⟩ := free_blk h.bl f3 s
  obtain ⟨b4, g4⟩ := free_blk h.bs f4 s
  obtain ⟨b5, g5⟩ := free_blk h.bp f5 s
  obtain ⟨b6, g6⟩ := free_blk h.bn f6 s
  exact ⟨b1, b2, b3, b4, b5, b6, g1, g2, g3, g4, g5, g6⟩
end
end Go.Proofs.Ytidijnfkcpbkiaa

/- Snapshot: the loop of a Compact, walked. -/
set_option linter.unusedVariables false
set_option linter.unusedSimpArgs false
set_option maxRecDepth 20000
set_option maxHeartbeats 4000000
namespace Go.Proofs.Ytidijnfkcpbkiaa
open Go Go.Mx Go.Proofs
open W (OwnB GivesW)
section
variable {w w' w1 : World} {o o' o1 : Own} {q g p N m qa qk ql qs qp qn n : Nat} {b : List UInt8} {a ba : Option Addr} {c bc : Nat} {d : DS} {J : JS} {S : SS} {k : Int} {lg ln : Option Addr}
def KC (p q g : Nat) : Nat → Prop := fun i => i = p ∨ i = q ∨ i = g
theorem compact_loop {R : Value → World → Prop} (C : Caps w o qa qk ql qs qp qn p g n k ln a b.length c) (h : SG w o p g lg S) (hD : DG w o g d) (ok : Tags w o) (hd : d.ok m) (hm : m + 300 < 100000) (hn : n < 4294967296)
    (hb : Row w o a (bytesV b)) (hc : b.length ≤ c) (hbl : b.length < 1000000) (hln : k = 0 → ln = some (blk q) ∧ JG w o q g J ∧ J.ok) (hpq : p ≠ q) (hpg : p ≠ g) (hqg : q ≠ g)
    {A : (DS × JS) × Int} (hA : appendJ d J b = A) {X : DS × Int} (hX : writeD A.1.1 (whichN n) (headB n) = X) {Y : DS × Int} (hY : syncD X.1 = Y)
    (E : ∀ w' o' d' e, e ≠ 0 → Step (KC p q g) w o w' o' → SG w' o' p g lg (S.seen e) → DG w' o' g d' → ((k ≠ 0 ∧ d' = d ∧ e = k) ∨ (k = 0 ∧ A.2 = e ∧ d' = A.1.1) ∨ (k = 0 ∧ A.2 = 0 ∧ X.2 = e ∧ d' = X.1) ∨ (k = 0 ∧ A.2 = 0 ∧ X.2 = 0 ∧ Y.2 = e ∧ d' = Y.1)) → R (.int .i64 e) w')
    (Z : ∀ w' o', k = 0 → A.2 = 0 → X.2 = 0 → Y.2 = 0 → Step (KC p q g) w o w' o' → SG w' o' p g (some (blk q)) { S with number := n } → JG w' o' q g A.1.2 → DG w' o' g Y.1 → R (.int .i64 0) w') :
    ∃ (I1 : Nat → List Value → World → Prop) (m87 : Nat), I1 m87 [.int .i64 0] w ∧ ∀ (m88 : Nat) (ww89 : World) (t86 : Int), I1 m88 [.int .i64 t86] ww89 →
      (t86 < (4 : Int) →
        0 ≤ (t86 : Int) ∧ (t86 : Int) < (4 : Int) ∧
        ∃ (x92k : Nat) (x92f : Array Value) (x92g : Array Value), ww89.cell? ((blk qa).add (Int.toNat t86 * 1)) = some (.func (.func x92k) x92f x92g) ∧
        ∃ (x95 : Option Addr), ww89.cell? (blk qp) = some (.pointer x95) ∧
        ∀ (ww93 : World), Ext no ww89 ww93 →
        enters Try.prog x92k = true ∧ Calls Try.prog x92k (x92f.toList ++ ([] : List Value) ++ x92g.toList).toArray ww93 (fun ee97 ww98 => ∃ (r96 : Int), ee97 = .returned (.int .i64 r96) ∧
        ww98.cell? (blk qp) = some (.pointer x95) ∧
        Calls Try.prog 38 #[.pointer x95, .int .i64 r96] ww98 fun ee101 ww102 => ∃ (see100 : Int), ee101 = .returned (.int .i64 see100) ∧
        (see100 ≠ 0 → R (.int .i64 see100) ww102) ∧
        (see100 = 0 → (-9223372036854775808 : Int) ≤ (t86 + 1) ∧ (t86 + 1) < 9223372036854775808 ∧ ∃ m104, m104 < m88 ∧ I1 m104 [.int .i64 (t86 + 1)] ww102))) ∧
      ((4 : Int) ≤ t86 →
        ∃ (x107 : Option Addr), ww89.cell? (blk qp) = some (.pointer x107) ∧
        ∃ (x109 : Option Addr), ww89.cell? (blk qp) = some (.pointer x109) ∧
        ∃ (x111 : Int), ww89.cell? (blk qn) = some (.int .u32 x111) ∧
        ∃ (x113 : Option Addr), ww89.cell? (blk ql) = some (.pointer x113) ∧
        ∃ a114 : Addr, x107 = some a114 ∧
        ∀ (ww105 : World), Ext no ww89 ww105 →
        canStore ww105 ((a114.add 2).add 0) ∧
        thenW (ww105.setCell ((a114.add 2).add 0) (.int .u32 x111)) fun ww115 =>
        ww115.cell? (blk ql) = some (.pointer x113) ∧
        ww115.cell? (blk qp) = some (.pointer x109) ∧
        ∃ a118 : Addr, x109 = some a118 ∧
        canStore ww115 ((a118.add 3).add 0) ∧
        thenW (ww115.setCell ((a118.add 3).add 0) (.pointer x113)) fun ww119 =>
        R (.int .i64 0) ww119) := by
  refine ⟨fun m1 vs w1 => ∃ (t : Nat) (o1 : Own) (d1 : DS) (J1 : JS), vs = [.int .i64 t] ∧ m1 + t = 4 ∧ Step (KC p q g) w o w1 o1 ∧ Caps w1 o1 qa qk ql qs qp qn p g n k ln a b.length c ∧ SG w1 o1 p g lg S ∧ DG w1 o1 g d1 ∧ (k = 0 → JG w1 o1 q g J1) ∧ d1.ok (m + 100 + t) ∧
    ((t = 0 ∧ d1 = d ∧ J1 = J) ∨ (t = 1 ∧ k = 0 ∧ d1 = d ∧ J1 = J) ∨ (t = 2 ∧ k = 0 ∧ A.2 = 0 ∧ d1 = A.1.1 ∧ J1 = A.1.2) ∨ (t = 3 ∧ k = 0 ∧ A.2 = 0 ∧ X.2 = 0 ∧ d1 = X.1 ∧ J1 = A.1.2) ∨ (t = 4 ∧ k = 0 ∧ A.2 = 0 ∧ X.2 = 0 ∧ Y.2 = 0 ∧ d1 = Y.1 ∧ J1 = A.1.2)), 4,
    ⟨0, o, d, J, rfl, rfl, Step.refl _ ok, C, h, hD, fun e => (hln e).2.1, hd.up (by omega), .inl ⟨rfl, rfl, rfl⟩⟩, ?_⟩
  rintro m1 w7 i ⟨t, o7, d1, J1, hi, hm1, s7, C7, h7, D7, J7, k7, stg⟩
  simp only [List.cons.injEq, Value.int.injEq, true_and, and_true] at hi
  subst hi
  refine ⟨fun ht => ⟨by omega, by omega, ?_⟩, fun ht => ?_⟩
  · -- what see does behind each step
    have fin : ∀ (w9 : World) (o9 : Own) (d9 : DS) (J9 : JS) (e : Int), Step (KC p q g) w o w9 o9 → Caps w9 o9 qa qk ql qs qp qn p g n k ln a b.length c → SG w9 o9 p g lg S → DG w9 o9 g d9 → (k = 0 → JG w9 o9 q g J9) → d9.ok (m + 100 + (t + 1)) →
        (e ≠ 0 → ((k ≠ 0 ∧ d9 = d ∧ e = k) ∨ (k = 0 ∧ A.2 = e ∧ d9 = A.1.1) ∨ (k = 0 ∧ A.2 = 0 ∧ X.2 = e ∧ d9 = X.1) ∨ (k = 0 ∧ A.2 = 0 ∧ X.2 = 0 ∧ Y.2 = e ∧ d9 = Y.1))) →
        (e = 0 → ((t + 1 = 0 ∧ d9 = d ∧ J9 = J) ∨ (t + 1 = 1 ∧ k = 0 ∧ d9 = d ∧ J9 = J) ∨ (t + 1 = 2 ∧ k = 0 ∧ A.2 = 0 ∧ d9 = A.1.1 ∧ J9 = A.1.2) ∨ (t + 1 = 3 ∧ k = 0 ∧ A.2 = 0 ∧ X.2 = 0 ∧ d9 = X.1 ∧ J9 = A.1.2) ∨ (t + 1 = 4 ∧ k = 0 ∧ A.2 = 0 ∧ X.2 = 0 ∧ Y.2 = 0 ∧ d9 = Y.1 ∧ J9 = A.1.2))) →
        Calls Try.prog 38 #[.pointer (some (blk p)), .int .i64 e] w9 fun ee101 ww102 => ∃ (see100 : Int), ee101 = .returned (.int .i64 see100) ∧
          (see100 ≠ 0 → R (.int .i64 see100) ww102) ∧
          (see100 = 0 → (-9223372036854775808 : Int) ≤ ((t : Int) + 1) ∧ ((t : Int) + 1) < 9223372036854775808 ∧ ∃ m104, m104 < m1 ∧ ∃ (t2 : Nat) (o1 : Own) (d1 : DS) (J1 : JS), [Value.int .i64 ((t : Int) + 1)] = [.int .i64 t2] ∧ m104 + t2 = 4 ∧ Step (KC p q g) w o ww102 o1 ∧ Caps ww102 o1 qa qk ql qs qp qn p g n k ln a b.length c ∧ SG ww102 o1 p g lg S ∧ DG ww102 o1 g d1 ∧ (k = 0 → JG ww102 o1 q g J1) ∧ d1.ok (m + 100 + t2) ∧
            ((t2 = 0 ∧ d1 = d ∧ J1 = J) ∨ (t2 = 1 ∧ k = 0 ∧ d1 = d ∧ J1 = J) ∨ (t2 = 2 ∧ k = 0 ∧ A.2 = 0 ∧ d1 = A.1.1 ∧ J1 = A.1.2) ∨ (t2 = 3 ∧ k = 0 ∧ A.2 = 0 ∧ X.2 = 0 ∧ d1 = X.1 ∧ J1 = A.1.2) ∨ (t2 = 4 ∧ k = 0 ∧ A.2 = 0 ∧ X.2 = 0 ∧ Y.2 = 0 ∧ d1 = Y.1 ∧ J1 = A.1.2))) := fun w9 o9 d9 J9 e s9 C9 h9 D9 J9' k9 hE h0 => by
      refine (see_spec h9 s9.ok e).mono fun u w12 ⟨he, o12, s12, S12⟩ => ⟨_, he, fun hne => ?_, fun hz => ⟨by omega, by omega, m1 - 1, by omega, t + 1, o12, d9, J9, rfl, by omega, ?_, C9.step s12, ?_, D9.step s12 (show ¬ g = p from fun e => hpg e.symm), fun hk => (J9' hk).step s12 (show ¬ q = p from fun e => hpq e.symm), k9, h0 hz⟩⟩
      · exact E w12 o12 d9 e hne (s9.trans (s12.mono fun _ h _ => .inl h)) S12 (D9.step s12 (show ¬ g = p from fun e => hpg e.symm)) (hE hne)
      · exact s9.trans (s12.mono fun _ h _ => .inl h)
      · subst hz; exact S12
    have cp : ∀ {w9 : World}, Ext no w7 w9 → w9.cell? (blk qp) = some (.pointer (some (blk p))) := fun X9 => (C7.bp.ext X9 id).cella (i := 0) rfl
    rcases stg with ⟨rfl, rfl, rfl⟩ | ⟨rfl, hk, rfl, rfl⟩ | ⟨rfl, hk, a0, rfl, rfl⟩ | ⟨rfl, hk, a0, x0, rfl, rfl⟩ | ⟨rfl, _⟩
    · refine ⟨_, _, _, C7.ba.cella (i := 0) rfl, _, C7.bp.cella (i := 0) rfl, fun w9 X9 => ⟨by kernel_rfl, ?_⟩⟩
      have t9 := Step.of_no X9 s7.ok
      have C9 := C7.step t9
      refine Calls.mono (step1_spec (C9.bk.cella (i := 0) rfl)) fun u w10 ⟨he, hw⟩ => ⟨_, he, ?_⟩
      subst hw
      exact ⟨C9.bp.cella (i := 0) rfl, fin _ _ _ _ k (s7.trans t9.none) C9 (h7.step t9 id) (D7.step t9 id) (fun hk => (J7 hk).step t9 id) (k7.up (by omega)) (fun hk => .inl ⟨hk, rfl, rfl⟩) (fun hk => .inr (.inl ⟨rfl, hk, rfl, rfl⟩))⟩
    · obtain ⟨rfl, _, jok⟩ := hln hk
      refine ⟨_, _, _, C7.ba.cella (i := 1) rfl, _, C7.bp.cella (i := 0) rfl, fun w9 X9 => ⟨by kernel_rfl, ?_⟩⟩
      have t9 := Step.of_no X9 s7.ok
      have C9 := C7.step t9
      have hrow := (hb.step s7).step t9
      have hs := step2_spec (C9.bl.cella (i := 0) rfl) (C9.bs.cella (i := 0) rfl) ((J7 hk).step t9 id) (D7.step t9 id) t9.ok hqg k7 (by omega) jok hrow.1 hc hbl
      rw [hA] at hs
      refine Calls.mono hs fun u w10 ⟨he, o10, s10, J10, D10⟩ => ⟨_, he, ?_⟩
      have C10 := C9.step s10
      have kA : A.1.1.ok (m + 100 + 1 + 1) := by have := (appendJ_ok hd J1 b).up (n := m + 100 + 1 + 1) (by omega); rwa [hA] at this
      exact ⟨C10.bp.cella (i := 0) rfl, fin _ _ _ _ A.2 ((s7.trans t9.none).trans (s10.mono fun _ h _ => .inr h)) C10 ((h7.step t9 id).step s10 (show ¬ (p = q ∨ p = g) by omega)) D10 (fun _ => J10) kA (fun hne => .inr (.inl ⟨hk, rfl, rfl⟩)) (fun hz => .inr (.inr (.inl ⟨rfl, hk, hz, rfl, rfl⟩)))⟩
    · refine ⟨_, _, _, C7.ba.cella (i := 2) rfl, _, C7.bp.cella (i := 0) rfl, fun w9 X9 => ⟨by kernel_rfl, ?_⟩⟩
      have t9 := Step.of_no X9 s7.ok
      have C9 := C7.step t9
      have hs := step3_spec (C9.bp.cella (i := 0) rfl) (C9.bn.cella (i := 0) rfl) hn (h7.step t9 id) (D7.step t9 id) t9.ok k7 (by omega)
      rw [hX] at hs
      refine Calls.mono hs fun u w10 ⟨he, o10, s10, D10⟩ => ⟨_, he, ?_⟩
      have C10 := C9.step s10
      have kX : X.1.ok (m + 100 + 2 + 1) := by have := writeD_ok k7 (whichN n) (headB n); rwa [hX] at this
      exact ⟨C10.bp.cella (i := 0) rfl, fin _ _ _ _ X.2 ((s7.trans t9.none).trans (s10.mono fun _ h _ => .inr (.inr h))) C10 ((h7.step t9 id).step s10 (show ¬ p = g from hpg)) D10 (fun hk => ((J7 hk).step t9 id).step s10 (show ¬ q = g from hqg)) kX (fun hne => .inr (.inr (.inl ⟨hk, a0, rfl, rfl⟩))) (fun hz => .inr (.inr (.inr (.inl ⟨rfl, hk, a0, hz, rfl, rfl⟩))))⟩
    · refine ⟨_, _, _, C7.ba.cella (i := 3) rfl, _, C7.bp.cella (i := 0) rfl, fun w9 X9 => ⟨by kernel_rfl, ?_⟩⟩
      have t9 := Step.of_no X9 s7.ok
      have C9 := C7.step t9
      have hs := dSync_spec (D7.step t9 id) t9.ok k7 (by omega)
      rw [hY] at hs
      refine Calls.mono hs fun u w10 ⟨he, o10, s10, D10⟩ => ⟨_, he, ?_⟩
      have C10 := C9.step s10
      have kY : Y.1.ok (m + 100 + 3 + 1) := by have := (syncD_ok k7).up (n := m + 100 + 3 + 1) (by omega); rwa [hY] at this
      exact ⟨C10.bp.cella (i := 0) rfl, fin _ _ _ _ Y.2 ((s7.trans t9.none).trans (s10.mono fun _ h _ => .inr (.inr h))) C10 ((h7.step t9 id).step s10 (show ¬ p = g from hpg)) D10 (fun hk => ((J7 hk).step t9 id).step s10 (show ¬ q = g from hqg)) kY (fun hne => .inr (.inr (.inr ⟨hk, a0, x0, rfl, rfl⟩))) (fun hz => .inr (.inr (.inr (.inr ⟨rfl, hk, a0, x0, hz, rfl, rfl⟩))))⟩
    · omega
  · rcases stg with ⟨rfl, _⟩ | ⟨rfl, _⟩ | ⟨rfl, _⟩ | ⟨rfl, _⟩ | ⟨rfl, hk, a0, x0, y0, rfl, rfl⟩
    · omega
    · omega
    · omega
    · omega
    obtain ⟨rfl, _, _⟩ := hln hk
    have ha2 : ((blk p).add 2).add 0 = (blk p).add 2 := by rw [add_add]
    have ha3 : ((blk p).add 3).add 0 = (blk p).add 3 := by rw [add_add]
    refine ⟨_, C7.bp.cella (i := 0) rfl, _, C7.bp.cella (i := 0) rfl, _, C7.bn.cella (i := 0) rfl, _, C7.bl.cella (i := 0) rfl, _, rfl, fun w9 X9 => ?_⟩
    have t9 := Step.of_no X9 s7.ok
    have C9 := C7.step t9
    have h9 := h7.step t9 id
    rw [ha2]
    refine ⟨h9.mem.cana (i := 2) rfl, thenW_in fun w57 e57 => ?_⟩
    have X57 : Ext (fun b => b = p) w9 w57 := (Ext.refl (fun b => b = p) w9).x_set (q := p) (i := 2) rfl (.inl rfl) e57
    have b57 := h9.mem.seti 2 rfl e57
    obtain ⟨o57, s57⟩ := Step.store1 X57 t9.ok h9.tg
    have C57 := C9.step s57
    refine ⟨C57.bl.cella (i := 0) rfl, C57.bp.cella (i := 0) rfl, _, rfl, ?_⟩
    rw [ha3]
    refine ⟨b57.cana (i := 3) rfl, thenW_in fun w60 e60 => ?_⟩
    have X60 : Ext (fun b => b = p) w57 w60 := (Ext.refl (fun b => b = p) w57).x_set (q := p) (i := 3) rfl (.inl rfl) e60
    have tg57 : o57 p = some p := by rw [s57.own h9.mem.lt]; exact h9.tg
    obtain ⟨o60, s60⟩ := Step.store1 X60 s57.ok tg57
    have st := s57.trans s60
    have hgp : ¬ g = p := fun e => hpg e.symm
    have hqp : ¬ q = p := fun e => hpq e.symm
    exact Z w60 o60 hk a0 x0 y0 ((s7.trans t9.none).trans (st.mono fun _ h _ => .inl h)) ⟨b57.seti 3 rfl e60, by rw [s60.own b57.lt]; exact tg57⟩ (((J7 hk).step t9 id).step st hqp) ((D7.step t9 id).step st hgp)
end
end Go.Proofs.Ytidijnfkcpbkiaa

/- Snapshot: Compact of a store. -/
set_option linter.unusedVariables false
set_option linter.unusedSimpArgs false
set_option maxRecDepth 20000
set_option maxHeartbeats 4000000
namespace Go.Proofs.Ytidijnfkcpbkiaa
open Go Go.Mx Go.Proofs
open W (OwnB GivesW)
/-- some blocks become nobody's. -/
def untag (o : Own) (L : List Nat) : Own := fun b => if b ∈ L then none else o b
theorem DG.own {w : World} {o o' : Own} {g : Nat} {d : DS} (h : DG w o g d) (k : ∀ b, o b = some g → o' b = some g) : DG w o' g d := by
  obtain ⟨⟨ga, gc, pa, pc, hb, hg, hp⟩, tg⟩ := h
  exact ⟨⟨ga, gc, pa, pc, hb, ⟨hg.own, fun ad ha => ⟨k _ (hg.tg ad ha).1, (hg.tg ad ha).2⟩⟩, ⟨hp.own, fun ad ha => ⟨k _ (hp.tg ad ha).1, (hp.tg ad ha).2⟩⟩⟩, k _ tg⟩
section
variable {w0 w w' wc : World} {o0 o o' : Own} {q g p m qk ql qs qp qn n : Nat} {K : Nat → Prop} {b : List UInt8} {a : Option Addr} {c : Nat} {d : DS} {S : SS} {lg jp : Option Addr} {L l : List Nat}
/-- on the way through Compact. -/
structure CW (w0 : World) (o0 : Own) (qp qs qn p g : Nat) (lg : Option Addr) (S : SS) (d : DS) (a : Option Addr) (b : List UInt8) (c n : Nat) (w : World) (o : Own) : Prop where
  st : Step no w0 o0 w o
  bp : Blk w qp 29 [.pointer (some (blk p))] ∧ o qp = none
  bs : Blk w qs 30 [.slice a b.length c] ∧ o qs = none
  bn : Blk w qn 34 [.int .u32 n] ∧ o qn = none
  sg : SG w o p g lg S
  dg : DG w o g d
  lt : p < w0.heap.size ∧ g < w0.heap.size
theorem CW.move (h : CW w0 o0 qp qs qn p g lg S d a b c n w o) (s : Step K w o w' o') (hk : ∀ k, K k → w0.heap.size ≤ k) : CW w0 o0 qp qs qn p g lg S d a b c n w' o' :=
  ⟨h.st.trans' s fun i hi => .inr (hk i hi), free_blk h.bp.1 h.bp.2 s, free_blk h.bs.1 h.bs.2 s, free_blk h.bn.1 h.bn.2 s, h.sg.step s fun hp => by have := hk _ hp; have := h.lt.1; omega, h.dg.step s fun hp => by have := hk _ hp; have := h.lt.2; omega, h.lt⟩
theorem CW.cp (h : CW w0 o0 qp qs qn p g lg S d a b c n w o) : w.cell? (blk qp) = some (.pointer (some (blk p))) := h.bp.1.cella (i := 0) rfl
theorem CW.cn (h : CW w0 o0 qp qs qn p g lg S d a b c n w o) : w.cell? (blk qn) = some (.int .u32 n) := h.bn.1.cella (i := 0) rfl
theorem CW.ch (h : CW w0 o0 qp qs qn p g lg S d a b c n w o) : w.cell? ((blk p).add 1) = some (.int .i64 S.half) := h.sg.mem.cella (i := 1) rfl
theorem CW.cd (h : CW w0 o0 qp qs qn p g lg S d a b c n w o) : w.cell? ((blk p).add 0) = some (.pointer (some (blk g))) := h.sg.mem.cella (i := 0) rfl
theorem CW.still (h : CW w0 o0 qp qs qn p g lg S d a b c n w o) (X : Ext no w w') : ∃ o', CW w0 o0 qp qs qn p g lg S d a b c n w' o' ∧ Step no w o w' o' :=
  ⟨_, h.move (Step.of_no X h.st.ok) (fun _ h => h.elim), Step.of_no X h.st.ok⟩
theorem CW.priv (h : CW w0 o0 qp qs qn p g lg S d a b c n w o) (X : Ext no w w') (P : Priv w w' L) : ∃ o', CW w0 o0 qp qs qn p g lg S d a b c n w' o' ∧ Mine L w' o' ∧ (∀ k ∈ L, w0.heap.size ≤ k) ∧ Step no w o w' o' := by
  obtain ⟨s, M⟩ := Step.priv X P h.st.ok
  exact ⟨_, h.move s (fun _ h => h.elim), M, fun k hk => Nat.le_trans h.st.size (P k hk).1, s⟩
theorem CW.join (h : CW w0 o0 qp qs qn p g lg S d a b c n w o) (M : Mine L w o) (hL : ∀ k ∈ L, w0.heap.size ≤ k) (X : Ext (fun b => b ∈ L) w w') (P : PrivJ L w w' l) : ∃ o', CW w0 o0 qp qs qn p g lg S d a b c n w' o' ∧ Mine l w' o' ∧ (∀ k ∈ l, w0.heap.size ≤ k) ∧ Step (fun j => j ∈ L) w o w' o' := by
  obtain ⟨s, M2⟩ := Step.join X h.st.ok M P
  exact ⟨_, h.move s hL, M2, fun k hk => (P k hk).1.elim (hL k) fun h2 => Nat.le_trans h.st.size h2, s⟩
theorem CW.joins (h : CW w0 o0 qp qs qn p g lg S d a b c n w o) (M : Mine L w o) (hL : ∀ k ∈ L, w0.heap.size ≤ k) (X : Ext (fun b => b ∈ L) w w') : ∃ o', CW w0 o0 qp qs qn p g lg S d a b c n w' o' ∧ Step (fun j => j ∈ L) w o w' o' :=
  ⟨_, h.move (Step.joins X h.st.ok M) hL, Step.joins X h.st.ok M⟩
theorem CW.seen (h : CW w0 o0 qp qs qn p g lg S d a b c n w o) (X : Ext no w w') {t : TypeId} {cs : List Value} (hb : Blk w' q t cs) (hq : w.heap.size ≤ q) : ∃ o', CW w0 o0 qp qs qn p g lg S d a b c n w' o' ∧ (Blk w' q t cs ∧ o' q = none) ∧ Step no w o w' o' :=
  ⟨_, h.move (Step.of_no X h.st.ok) (fun _ h => h.elim), ⟨hb, grow_ge hq⟩, Step.of_no X h.st.ok⟩
/-- what Create made. -/
def JR (S : SS) (d : DS) (wc : World) (g : Nat) (jp : Option Addr) (w : World) (o : Own) : Prop :=
  ∀ J, (openK d (2 + whichN (S.number + 1) * S.half) S.half (S.number + 1)).1 = some J → ∃ q, jp = some (blk q) ∧ wc.heap.size ≤ q ∧ JG w o q g J.anew
theorem JR.move (h : JR S d wc g jp w o) (s : Step K w o w' o') (hk : ∀ k, K k → k < wc.heap.size ∨ w.heap.size ≤ k) : JR S d wc g jp w' o' := fun J hJ => by
  obtain ⟨q, e, hq, jg⟩ := h J hJ
  exact ⟨q, e, hq, jg.step s fun hK => by have := jg.mem.lt; rcases hk q hK with h | h <;> omega⟩
theorem JR.still (h : JR S d wc g jp w o) (s : Step no w o w' o') : JR S d wc g jp w' o' := h.move s fun _ h => h.elim
/-- what is left where a Compact ended. -/
def Left (w : World) (o : Own) (p g : Nat) (lg : Option Addr) (S : SS) (C : DS × Option JS × Int) (w' : World) : Prop :=
  ∃ o', Step (fun i => i = p ∨ i = g) w o w' o' ∧ DG w' o' g C.1 ∧ (C.2.1 = none → SG w' o' p g lg (S.seen C.2.2)) ∧ ∀ J, C.2.1 = some J → ∃ q, w.heap.size ≤ q ∧ SG w' o' p g (some (blk q)) { S with number := S.number + 1 } ∧ JG w' o' q g J
theorem openK_ok {J : JS} (hd : d.ok m) (hn : n < 4294967296) {base size : Int} (h : (openK d base size n).1 = some J) : J.anew.ok := by
  have hl := stretchK_len d base size n hd.n2
  have hr := roundOf_lt n (stretchK d base size n).1
  have h1 : ∀ x, (scanK (stretchK d base size n).1 n).2 = x → roundOf n (stretchK d base size n).1 = x := fun x e => e
  unfold openK at h
  split at h
  · cases h
  · rename_i hk
    split at h
    · cases h
    · rename_i hk2
      have e := Option.some.inj h
      subst e
      have hs : ¬ (n = 0 ∨ base < 0 ∨ size < 1 ∨ base > d.good.length ∨ size > (d.good.length : Int) - base) := fun hs => hk (by unfold stretchK; rw [if_pos hs]; decide)
      have := hd.n2
      have h2 : (scanK (stretchK d base size n).1 n).2 = roundOf n (stretchK d base size n).1 := rfl
      exact ⟨by show 0 ≤ base ∧ base ≤ _; omega, by show 0 ≤ size ∧ size ≤ _; omega, hn, by show (scanK (stretchK d base size n).1 n).2 + 1 < _; omega, by show (0 : Int) ≤ 0 ∧ (0 : Int) ≤ _; omega, by show (0 : Int) ≤ 0 ∧ (0 : Int) ≤ _; omega⟩
theorem compact_tail {R : Value → World → Prop} (C : CW w0 o0 qp qs qn p g lg S d a b c n w o) (fl : Blk w ql 58 [.pointer none] ∧ o ql = none) (fk : Blk w qk 26 [.int .i64 0] ∧ o qk = none)
    (hql : w0.heap.size ≤ ql) (hqk : w0.heap.size ≤ qk) (hne : ql ≠ qk) (jr : JR S d wc g jp w o) (hwc : w0.heap.size ≤ wc.heap.size) (hpg : p ≠ g)
    (hd : d.ok m) (hm : m + 300 < 100000) (hN : n = S.number + 1) (hn : n < 4294967296) (hc : b.length ≤ c) (hbl : b.length < 1000000)
    (hb : Row w0 o0 a (bytesV b)) (hR : ∀ e w', e = (compactK d S b).2.2 → Left w0 o0 p g lg S (compactK d S b) w' → R (.int .i64 e) w') :
    canStore w ((blk ql).add 0) ∧
    thenW (w.setCell ((blk ql).add 0) (.pointer jp)) fun ww77 =>
    canStore ww77 ((blk qk).add 0) ∧
    thenW (ww77.setCell ((blk qk).add 0) (.int .i64 (openK d (2 + whichN (S.number + 1) * S.half) S.half (S.number + 1)).2.2)) fun ww78 =>
    ∃ (x80 : Option Addr), ww78.cell? (blk qp) = some (.pointer x80) ∧
    ∃ a81 : Addr, x80 = some a81 ∧
    ∃ (d83 : Option Addr), ww78.cell? (a81.add 0) = some (.pointer d83) ∧
    ∀ (ww84 : World) (q85 : Nat), Ext no ww78 ww84 → Blk ww84 q85 68 [.func (.func 30) #[] #[.pointer (some (blk qk))], .func (.func 31) #[] #[.pointer (some (blk ql)), .pointer (some (blk qs))], .func (.func 33) #[] #[.pointer (some (blk qp)), .pointer (some (blk qn))], .func (.func 37) #[.pointer d83] #[]] → ww78.heap.size ≤ q85 → q85 < ww84.heap.size →
    ∃ (I1 : Nat → List Value → World → Prop) (m87 : Nat), I1 m87 [.int .i64 0] ww84 ∧ ∀ (m88 : Nat) (ww89 : World) (t86 : Int), I1 m88 [.int .i64 t86] ww89 →
    (t86 < (4 : Int) →
      0 ≤ (t86 : Int) ∧ (t86 : Int) < (4 : Int) ∧
      ∃ (x92k : Nat) (x92f : Array Value) (x92g : Array Value), ww89.cell? ((blk q85).add (Int.toNat t86 * 1)) = some (.func (.func x92k) x92f x92g) ∧
      ∃ (x95 : Option Addr), ww89.cell? (blk qp) = some (.pointer x95) ∧
      ∀ (ww93 : World), Ext no ww89 ww93 →
      enters Try.prog x92k = true ∧ Calls Try.prog x92k (x92f.toList ++ ([] : List Value) ++ x92g.toList).toArray ww93 (fun ee97 ww98 => ∃ (r96 : Int), ee97 = .returned (.int .i64 r96) ∧
      ww98.cell? (blk qp) = some (.pointer x95) ∧
      Calls Try.prog 38 #[.pointer x95, .int .i64 r96] ww98 fun ee101 ww102 => ∃ (see100 : Int), ee101 = .returned (.int .i64 see100) ∧
      (see100 ≠ 0 →
        R (.int .i64 see100) ww102) ∧
      (see100 = 0 →
        (-9223372036854775808 : Int) ≤ (t86 + 1) ∧ (t86 + 1) < 9223372036854775808 ∧
        ∃ m104, m104 < m88 ∧ I1 m104 [.int .i64 (t86 + 1)] ww102))) ∧
    ((4 : Int) ≤ t86 →
      ∃ (x107 : Option Addr), ww89.cell? (blk qp) = some (.pointer x107) ∧
      ∃ (x109 : Option Addr), ww89.cell? (blk qp) = some (.pointer x109) ∧
      ∃ (x111 : Int), ww89.cell? (blk qn) = some (.int .u32 x111) ∧
      ∃ (x113 : Option Addr), ww89.cell? (blk ql) = some (.pointer x113) ∧
      ∃ a114 : Addr, x107 = some a114 ∧
      ∀ (ww105 : World), Ext no ww89 ww105 →
      canStore ww105 ((a114.add 2).add 0) ∧
      thenW (ww105.setCell ((a114.add 2).add 0) (.int .u32 x111)) fun ww115 =>
      ww115.cell? (blk ql) = some (.pointer x113) ∧
      ww115.cell? (blk qp) = some (.pointer x109) ∧
      ∃ a118 : Addr, x109 = some a118 ∧
      canStore ww115 ((a118.add 3).add 0) ∧
      thenW (ww115.setCell ((a118.add 3).add 0) (.pointer x113)) fun ww119 =>
      R (.int .i64 0) ww119) := by
  have hql2 := fl.1.lt
  have hqk2 := fk.1.lt
  refine ⟨fl.1.cana (i := 0) rfl, thenW_in fun w1 e1 => ?_⟩
  have bl1 := fl.1.seta 0 (.pointer jp)
  rw [← e1] at bl1
  have bk1 : Blk w1 qk _ _ := fk.1.off (show qk ≠ ((blk ql).add 0).block from fun e => hne e.symm) e1
  refine ⟨bk1.cana (i := 0) rfl, thenW_in fun w2 e2 => ?_⟩
  have bk2 := bk1.seta 0 (.int .i64 (openK d (2 + whichN (S.number + 1) * S.half) S.half (S.number + 1)).2.2)
  rw [← e2] at bk2
  have bl2 : Blk w2 ql _ _ := bl1.off (show ql ≠ ((blk qk).add 0).block from hne) e2
  -- the two blocks are their own for the stores, and nobody's behind them
  have X : Ext (fun x => x = ql ∨ x = qk) w w2 := ((Ext.refl (fun x => x = ql ∨ x = qk) w).x_set (q := ql) (i := 0) rfl (.inl (.inl rfl)) e1).x_set (q := qk) (i := 0) rfl (.inl (.inr rfl)) e2
  have t1 := (C.st.tag hql hql2).tag hqk hqk2
  have mine : Mine [ql, qk] w (tag (tag o ql ql) qk qk) := fun x hx => by
    rcases List.mem_cons.1 hx with rfl | hx
    · exact ⟨hql2, by rw [tag_ne hne]; exact tag_self⟩
    · rw [List.mem_singleton.1 hx]; exact ⟨hqk2, tag_self⟩
  have keepo : ∀ {g' : Nat} (x : Nat), o x = some g' → tag (tag o ql ql) qk qk x = some g' := fun {g'} x hx => by
    rw [tag_ne (fun e => by rw [e, fk.2] at hx; cases hx), tag_ne (fun e => by rw [e, fl.2] at hx; cases hx)]; exact hx
  have keepn : ∀ x : Nat, o x = none → x ≠ ql → x ≠ qk → tag (tag o ql ql) qk qk x = none := fun x hx h1 h2 => by rw [tag_ne h2, tag_ne h1]; exact hx
  have s2 := Step.stores X t1.ok mine fun x hx => by rcases hx with rfl | rfl <;> simp
  have Kge : ∀ i, i ∈ [ql, qk] → w0.heap.size ≤ i := fun i hi => by
    rcases List.mem_cons.1 hi with rfl | hi
    · exact hql
    · rw [List.mem_singleton.1 hi]; exact hqk
  have t2 := t1.trans' s2 fun i hi => .inr (Kge i hi)
  obtain ⟨o2, ho2⟩ : ∃ o2, o2 = untag (grow w (tag (tag o ql ql) qk qk)) [ql, qk] := ⟨_, rfl⟩
  have o2s : ∀ (x : Nat) (g' : Nat), o x = some g' → x < w.heap.size → o2 x = some g' := fun x g' hx hl => by
    rw [ho2]; unfold untag
    rw [if_neg, grow_lt hl]
    · exact keepo x hx
    · intro hm
      rcases List.mem_cons.1 hm with rfl | hm
      · rw [fl.2] at hx; cases hx
      · rw [List.mem_singleton.1 hm, fk.2] at hx; cases hx
  have o2n : ∀ x, o x = none → x < w.heap.size → o2 x = none := fun x hx hl => by
    rw [ho2]; unfold untag
    by_cases hm : x ∈ [ql, qk]
    · rw [if_pos hm]
    · rw [if_neg hm, grow_lt hl, keepn x hx (fun e => hm (by simp [e])) (fun e => hm (by simp [e]))]
  have st2 : Step no w0 o0 w2 o2 := ⟨t2.ext, fun x hx => by
    rw [ho2]; unfold untag
    rw [if_neg (fun hm => by have := Kge x hm; omega)]; exact t2.same x hx, t2.ok0, fun x j hx hj => by
      rw [ho2] at hj; unfold untag at hj
      split at hj
      · cases hj
      · exact t2.ok x j hx hj⟩
  have un : ∀ (g' : Nat), g' ≠ ql → g' ≠ qk → ∀ x, grow w (tag (tag o ql ql) qk qk) x = some g' → o2 x = some g' := fun g' h1 h2 x hx => by
    rw [ho2]; unfold untag
    rw [if_neg]
    · exact hx
    · intro hm
      rcases List.mem_cons.1 hm with rfl | hm
      · rw [grow_lt hql2, (mine x (by simp)).2] at hx; cases hx; exact h1 rfl
      · rw [List.mem_singleton.1 hm, grow_lt hqk2, (mine qk (by simp)).2] at hx; cases hx; exact h2 rfl
  have gne : ∀ {g' : Nat}, o g' = some g' → g' ≠ ql ∧ g' ≠ qk := fun {g'} hg => ⟨fun e => (by rw [e, fl.2] at hg; cases hg), fun e => (by rw [e, fk.2] at hg; cases hg)⟩
  have nK : ∀ {g' : Nat}, o g' = some g' → ¬ g' ∈ [ql, qk] := fun {g'} hg hm => by
    rcases List.mem_cons.1 hm with e | hm
    · exact (gne hg).1 e
    · exact (gne hg).2 (List.mem_singleton.1 hm)
  have D2 : DG w2 o2 g d := ((C.dg.own fun x hx => keepo x hx).step s2 (nK C.dg.tg)).own (un g (gne C.dg.tg).1 (gne C.dg.tg).2)
  have hfree : ∀ {x : Nat} {t : TypeId} {cs : List Value}, Blk w x t cs ∧ o x = none → x ≠ ql → x ≠ qk → Blk w2 x t cs ∧ o2 x = none := fun {x t cs} h h1 h2 => ⟨h.1.ext X (fun hx => hx.elim h1 h2), o2n x h.2 h.1.lt⟩
  have one : ∀ {g' : Nat} {t : TypeId} {cs : List Value}, Blk w g' t cs → o g' = some g' → Blk w2 g' t cs ∧ o2 g' = some g' := fun {g' t cs} h hg => ⟨h.ext X (fun hx => hx.elim (gne hg).1 (gne hg).2), o2s g' g' hg h.lt⟩
  have tyne : ∀ {x y : Nat} {t u : TypeId} {cs cs' : List Value}, Blk w x t cs → Blk w y u cs' → t ≠ u → x ≠ y := fun {x y t u cs cs'} h1 h2 ht e => by
    subst e
    unfold Blk at h1 h2
    rw [h1] at h2
    injection h2 with h2
    injection h2 with _ h2
    exact ht h2
  have p2 := hfree C.bp (tyne C.bp.1 fl.1 (by decide)) (tyne C.bp.1 fk.1 (by decide))
  have s2' := hfree C.bs (tyne C.bs.1 fl.1 (by decide)) (tyne C.bs.1 fk.1 (by decide))
  have n2 := hfree C.bn (tyne C.bn.1 fl.1 (by decide)) (tyne C.bn.1 fk.1 (by decide))
  have S2 : SG w2 o2 p g lg S := ⟨(one C.sg.mem C.sg.tg).1, (one C.sg.mem C.sg.tg).2⟩
  have J2 : JR S d wc g jp w2 o2 := fun J hJ => by
    obtain ⟨q, e, hq, jg⟩ := jr J hJ
    exact ⟨q, e, hq, (one jg.mem jg.tg).1, (one jg.mem jg.tg).2⟩
  refine ⟨_, p2.1.cella (i := 0) rfl, _, rfl, _, S2.mem.cella (i := 0) rfl, fun w4 q4 X4 b4 hq4 hq4' => ?_⟩
  have s4 := Step.of_no X4 st2.ok
  have st4 := st2.trans s4
  obtain ⟨O, hO⟩ : ∃ O, openK d (2 + whichN (S.number + 1) * S.half) S.half (S.number + 1) = O := ⟨_, rfl⟩
  have hK := openK_kind d (2 + whichN (S.number + 1) * S.half) S.half (S.number + 1)
  have J4 := J2.still s4
  have hgl := C.lt
  have caps : Caps w4 (grow w2 o2) q4 qk ql qs qp qn p g n O.2.2 jp a b.length c := by
    have l2 := free_blk bl2 (o2n ql fl.2 hql2) s4
    have k2 := free_blk bk2 (o2n qk fk.2 hqk2) s4
    have p4 := free_blk p2.1 p2.2 s4
    have b4' := free_blk s2'.1 s2'.2 s4
    have n4 := free_blk n2.1 n2.2 s4
    rw [hO] at k2
    exact ⟨b4, k2.1, l2.1, b4'.1, p4.1, n4.1, grow_ge hq4, k2.2, l2.2, b4'.2, p4.2, n4.2⟩
  have lgs : w0.heap.size ≤ w4.heap.size := st4.size
  have toW : ∀ {w' : World} {o' : Own} {q : Nat}, w0.heap.size ≤ q → Step (KC p q g) w4 (grow w2 o2) w' o' → Step (fun i => i = p ∨ i = g) w0 o0 w' o' := fun {w' o' q} hq s =>
    (st4.mono (K1 := fun i => i = p ∨ i = g) fun _ h _ => h.elim).trans' s fun i hi => by
      rcases hi with h | h | h
      · exact .inl (.inl h)
      · exact .inr (by rw [h]; exact hq)
      · exact .inl (.inr h)
  obtain ⟨jo, jl, jk⟩ := O
  cases jo with
  | none =>
    have hk0 : jk ≠ 0 := fun e => by
      obtain ⟨J, hJ⟩ := hK.1 (by rw [hO]; exact e)
      rw [hO] at hJ; cases hJ
    have hCK : compactK d S b = (d, none, jk) := by unfold compactK; rw [hO]
    refine compact_loop (q := w4.heap.size) (J := ⟨0, 0, 0, 0, 0, 0, false⟩) caps (S2.step s4 id) (D2.step s4 id) s4.ok hd hm hn (hb.step st4) hc hbl (fun e => absurd e hk0) (by omega) hpg (by omega) rfl rfl rfl (fun w' o' d' e he s' S' D' hc' => ?_) (fun w' o' h0 => absurd h0 hk0)
    rcases hc' with ⟨_, rfl, rfl⟩ | ⟨h0, _⟩ | ⟨h0, _⟩ | ⟨h0, _⟩
    · refine hR _ w' (by rw [hCK]) ⟨o', toW lgs s', by rw [hCK]; exact D', fun _ => by rw [hCK]; exact S', fun J hJ => by rw [hCK] at hJ; cases hJ⟩
    · exact absurd h0 hk0
    · exact absurd h0 hk0
    · exact absurd h0 hk0
  | some J =>
    have hk0 : jk = 0 := by
      by_cases e : jk = 0
      · exact e
      · have := (hK.2 (by rw [hO]; exact e)).1
        rw [hO] at this; cases this
    subst hk0
    obtain ⟨q, rfl, hq, jg⟩ := J4 J (by rw [hO])
    have jok := openK_ok (n := S.number + 1) hd (by omega) (show (openK d (2 + whichN (S.number + 1) * S.half) S.half (S.number + 1)).1 = some J by rw [hO])
    have hCK : compactK d S b = if (appendJ d J.anew b).2 ≠ 0 then ((appendJ d J.anew b).1.1, none, (appendJ d J.anew b).2)
      else if (writeD (appendJ d J.anew b).1.1 (whichN (S.number + 1)) (headB (S.number + 1))).2 ≠ 0 then ((writeD (appendJ d J.anew b).1.1 (whichN (S.number + 1)) (headB (S.number + 1))).1, none, (writeD (appendJ d J.anew b).1.1 (whichN (S.number + 1)) (headB (S.number + 1))).2)
      else if (syncD (writeD (appendJ d J.anew b).1.1 (whichN (S.number + 1)) (headB (S.number + 1))).1).2 ≠ 0 then ((syncD (writeD (appendJ d J.anew b).1.1 (whichN (S.number + 1)) (headB (S.number + 1))).1).1, none, (syncD (writeD (appendJ d J.anew b).1.1 (whichN (S.number + 1)) (headB (S.number + 1))).1).2)
      else ((syncD (writeD (appendJ d J.anew b).1.1 (whichN (S.number + 1)) (headB (S.number + 1))).1).1, some (appendJ d J.anew b).1.2, 0) := by unfold compactK; rw [hO]
    refine compact_loop (q := q) (J := J.anew) caps (S2.step s4 id) (D2.step s4 id) s4.ok hd hm hn (hb.step st4) hc hbl (fun _ => ⟨rfl, jg, jok⟩) (by omega) hpg (by omega) rfl rfl rfl (fun w' o' d' e he s' S' D' hc' => ?_) (fun w' o' h0 a0 x0 y0 s' S' J' D' => ?_)
    · rcases hc' with ⟨h0, _⟩ | ⟨_, rfl, rfl⟩ | ⟨_, a0, rfl, rfl⟩ | ⟨_, a0, x0, rfl, rfl⟩
      · exact absurd rfl h0
      · rw [if_pos he] at hCK
        exact hR _ w' (by rw [hCK]) ⟨o', toW (by omega) s', by rw [hCK]; exact D', fun _ => by rw [hCK]; exact S', fun J hJ => by rw [hCK] at hJ; cases hJ⟩
      · subst hN
        rw [if_neg (not_not_intro a0), if_pos he] at hCK
        exact hR _ w' (by rw [hCK]) ⟨o', toW (by omega) s', by rw [hCK]; exact D', fun _ => by rw [hCK]; exact S', fun J hJ => by rw [hCK] at hJ; cases hJ⟩
      · subst hN
        rw [if_neg (not_not_intro a0), if_neg (not_not_intro x0), if_pos he] at hCK
        exact hR _ w' (by rw [hCK]) ⟨o', toW (by omega) s', by rw [hCK]; exact D', fun _ => by rw [hCK]; exact S', fun J hJ => by rw [hCK] at hJ; cases hJ⟩
    · subst hN
      rw [if_neg (not_not_intro a0), if_neg (not_not_intro x0), if_neg (not_not_intro y0)] at hCK
      exact hR _ w' (by rw [hCK]) ⟨o', toW (by omega) s', by rw [hCK]; exact D', fun h => (by rw [hCK] at h; cases h), fun J2 hJ2 => by
        rw [hCK] at hJ2
        cases hJ2
        exact ⟨q, by omega, S', J'⟩⟩
theorem sCompact_spec (h : SG w o p g lg S) (hD : DG w o g d) (ok : Tags w o) (hpg : p ≠ g) (hd : d.ok m) (hm : m + 300 < 100000) (hh : 0 ≤ S.half ∧ S.half ≤ 1000) (hnum : S.number < 4294967296) (hb : Row w o a (bytesV b)) (hc : b.length ≤ c) (hbl : b.length < 1000000) :
    Calls Try.prog 10 #[.pointer (some (blk p)), .slice a b.length c] w (Ret (.int .i64 (compactS d S b).2.2) fun w' => Left w o p g lg S (compactS d S b) w') := by
  refine snapshot_Store_Compact.run _ _ _ _ ?_
  unfold snapshot_Store_Compact.N
  intro w1 qp X1 bp hqp hqp' w2 qs X2 bs hqs hqs'
  have s1 := Step.of_no X1 ok
  have s2 := Step.of_no X2 s1.ok
  have s12 := s1.trans s2
  have bp2 := bp.ext X2 id
  have h2 := h.step s12 id
  have D2 := hD.step s12 id
  have early : ∀ (k : Int) (w3 : World), Ext no w2 w3 → S.seen k = S → compactS d S b = (d, none, k) → (Value.int .i64 k = .int .i64 (compactS d S b).2.2 ∧ Left w o p g lg S (compactS d S b) w3) := fun k w3 X3 hk hC => by
    rw [hC]
    have s3 := s12.trans (Step.of_no X3 s12.ok)
    exact ⟨rfl, _, s3.none, hD.step s3 id, fun _ => by show SG w3 _ p g lg (S.seen k); rw [hk]; exact h.step s3 id, fun J hJ => by cases hJ⟩
  have hpar : journal_Parts.F (b.length : Int) = (partsN b.length : Int) := by rw [parts_F, partsI_nat]
  refine ⟨_, bp2.cella (i := 0) rfl, fun e => (by cases e), fun _ => ⟨_, _, _, bs.cella (i := 0) rfl, ?_⟩⟩
  rw [hpar]
  refine ⟨fun hz w3 X3 => early 3 w3 X3 rfl (by unfold compactS; rw [if_pos (by omega)]), fun hz => ⟨_, bp2.cella (i := 0) rfl, _, rfl, S.dead, h2.mem.cella (i := 4) rfl, fun hdd w3 X3 => ?_, fun hdd => ⟨_, bp2.cella (i := 0) rfl, _, rfl, _, h2.mem.cella (i := 2) rfl, fun hl w3 X3 => ?_, fun hl => ⟨_, bp2.cella (i := 0) rfl, _, rfl, _, h2.mem.cella (i := 1) rfl, fun hf w3 X3 => ?_, fun hf => ⟨_, bp2.cella (i := 0) rfl, _, rfl, _, h2.mem.cella (i := 2) rfl, ?_⟩⟩⟩⟩⟩
  · refine early 19 w3 X3 ?_ (by unfold compactS; rw [if_neg (by omega), if_pos hdd])
    unfold SS.seen
    rw [if_pos rfl, ← hdd]
  · exact early 2 w3 X3 rfl (by unfold compactS; rw [if_neg (by omega), if_neg (by rw [hdd]; decide), if_pos (by omega)])
  · exact early 18 w3 X3 rfl (by unfold compactS; rw [if_neg (by omega), if_neg (by rw [hdd]; decide), if_neg (by omega), if_pos hf])
  have hC : compactS d S b = compactK d S b := by unfold compactS; rw [if_neg (by omega), if_neg (by rw [hdd]; decide), if_neg (by omega), if_neg (by omega)]
  intro w3 qn X3 bn hqn hqn'
  refine ⟨bn.cana (i := 0) rfl, thenW_in fun w4 e4 => ?_⟩
  rw [show IntKind.u32.wrap ((S.number : Int) + 1) = ((S.number + 1 : Nat) : Int) by rw [IntKind.wrap_u32]; omega] at e4
  have bn4 := bn.seta 0 (.int .u32 ((S.number + 1 : Nat) : Int))
  rw [← e4] at bn4
  have X4 : Ext no w2 w4 := X3.x_set (q := qn) (i := 0) rfl (.inr hqn) e4
  have s4 := s12.trans (Step.of_no X4 s12.ok)
  have l1 := X1.size
  have l2 := X2.size
  have X14 := X2.trans X4
  have t4 : Step no w o w4 (grow w o) := dNoStep (K := no) s4
  have hpl := h.mem.lt
  have hgl := hD.lt
  have c : CW w o qp qs qn p g lg S d a b c (S.number + 1) w4 (grow w o) := ⟨t4, ⟨bp.ext X14 id, grow_ge hqp⟩, ⟨bs.ext X4 id, grow_ge (by omega)⟩, ⟨bn4, grow_ge (by omega)⟩, h.step t4 id, hD.step t4 id, ⟨hpl, hgl⟩⟩
  have hR' : ∀ e w', e = (compactK d S b).2.2 → Left w o p g lg S (compactK d S b) w' → (fun v w' => v = Value.int .i64 (compactS d S b).2.2 ∧ Left w o p g lg S (compactS d S b) w') (.int .i64 e) w' := fun e w' he hl => by
    rw [hC]; exact ⟨by rw [he], hl⟩
  refine ⟨_, c.cp, _, rfl, _, c.cd, _, c.cp, _, c.cn, _, c.cp, _, rfl, _, c.ch, _, c.cn, ?_⟩
  refine ⟨?_, ?_, ?_⟩
  · intro w1 L X P
    obtain ⟨o1, c, M, hL, s⟩ := c.priv X P
    refine (base_spec c.sg hh (S.number + 1) (by omega)).mono fun u w1 ⟨he, X⟩ => ⟨_, he, ?_⟩
    obtain ⟨o1, c, s⟩ := c.still X
    refine ⟨M.keep s (fun _ _ h => h), c.cn, c.ch, c.cp, c.cd, c.cp, ?_⟩
    have M := M.step s
    refine ⟨?_, ?_, ?_⟩
    · intro w1 L X P
      obtain ⟨o1, c, M, hL, s⟩ := c.join M hL X P
      have hLt := fun k (hk : k ∈ _) => M.lt hk
      refine (Create_spec c.dg c.st.ok hd (by omega) _ _ (S.number + 1)).mono fun u w1 ⟨o1, jp, he, s, jr⟩ => ⟨_, _, he, M.keep s (fun _ _ h => h), ?_⟩
      have jr : JR S d _ g jp w1 o1 := jr
      have hwc := c.st.size
      have c := c.move s (fun _ h => h.elim)
      have M := M.step s
      refine ⟨?_, ?_⟩
      · intro w1 X
        obtain ⟨o1, c, s⟩ := c.joins M hL X
        have jr := jr.move s fun k hk => .inl (hLt k hk)
        intro w1 ql X hb1 hq1 hq1'
        have hql := Nat.le_trans c.st.size hq1
        obtain ⟨o1, c, fl, s⟩ := c.seen X hb1 hq1
        have jr := jr.still s
        intro w1 qk X hb1 hq1 hq1'
        have hfl := fl.1.lt
        have hqk := Nat.le_trans c.st.size hq1
        obtain ⟨o1, c, fk, s⟩ := c.seen X hb1 hq1
        have fl := free_blk fl.1 fl.2 s
        have jr := jr.still s
        have hne : ql ≠ qk := by omega
        exact compact_tail (R := fun v w' => v = Value.int .i64 (compactS d S b).2.2 ∧ Left w o p g lg S (compactS d S b) w') c fl fk hql hqk hne jr hwc hpg hd hm rfl (by omega) hc hbl hb hR'
      · intro w1 X
        obtain ⟨o1, c, s⟩ := c.joins M hL X
        have jr := jr.move s fun k hk => .inl (hLt k hk)
        intro w1 qk X hb1 hq1 hq1'
        have hqk := Nat.le_trans c.st.size hq1
        obtain ⟨o1, c, fk, s⟩ := c.seen X hb1 hq1
        have jr := jr.still s
        intro w1 ql X hb1 hq1 hq1'
        have hfk := fk.1.lt
        have hql := Nat.le_trans c.st.size hq1
        obtain ⟨o1, c, fl, s⟩ := c.seen X hb1 hq1
        have fk := free_blk fk.1 fk.2 s
        have jr := jr.still s
        have hne : ql ≠ qk := by omega
        exact compact_tail (R := fun v w' => v = Value.int .i64 (compactS d S b).2.2 ∧ Left w o p g lg S (compactS d S b) w') c fl fk hql hqk hne jr hwc hpg hd hm rfl (by omega) hc hbl hb hR'
    · intro w1 X
      obtain ⟨o1, c, s⟩ := c.joins M hL X
      intro w1 ql X hb1 hq1 hq1'
      have hql := Nat.le_trans c.st.size hq1
      obtain ⟨o1, c, fl, s⟩ := c.seen X hb1 hq1
      refine ⟨c.cn, c.ch, c.cp, c.cd, c.cp, ?_⟩
      refine ⟨?_, ?_⟩
      · intro w1 L X P
        obtain ⟨o1, c, M, hL, s⟩ := c.priv X P
        have fl := free_blk fl.1 fl.2 s
        have hLt := fun k (hk : k ∈ _) => M.lt hk
        refine (Create_spec c.dg c.st.ok hd (by omega) _ _ (S.number + 1)).mono fun u w1 ⟨o1, jp, he, s, jr⟩ => ⟨_, _, he, M.keep s (fun _ _ h => h), ?_⟩
        have jr : JR S d _ g jp w1 o1 := jr
        have hwc := c.st.size
        have c := c.move s (fun _ h => h.elim)
        have M := M.step s
        have fl := free_blk fl.1 fl.2 s
        intro w1 X
        obtain ⟨o1, c, s⟩ := c.joins M hL X
        have fl := free_blk fl.1 fl.2 s
        have jr := jr.move s fun k hk => .inl (hLt k hk)
        intro w1 qk X hb1 hq1 hq1'
        have hfl := fl.1.lt
        have hqk := Nat.le_trans c.st.size hq1
        obtain ⟨o1, c, fk, s⟩ := c.seen X hb1 hq1
        have fl := free_blk fl.1 fl.2 s
        have jr := jr.still s
        have hne : ql ≠ qk := by omega
        exact compact_tail (R := fun v w' => v = Value.int .i64 (compactS d S b).2.2 ∧ Left w o p g lg S (compactS d S b) w') c fl fk hql hqk hne jr hwc hpg hd hm rfl (by omega) hc hbl hb hR'
      · intro w1 qk X hb1 hq1 hq1'
        have hfl := fl.1.lt
        have hqk := Nat.le_trans c.st.size hq1
        obtain ⟨o1, c, fk, s⟩ := c.seen X hb1 hq1
        have fl := free_blk fl.1 fl.2 s
        have hne : ql ≠ qk := by omega
        refine ⟨c.cn, c.ch, c.cp, c.cd, c.cp, ?_⟩
        intro w1 L X P
        obtain ⟨o1, c, M, hL, s⟩ := c.priv X P
        have fl := free_blk fl.1 fl.2 s
        have fk := free_blk fk.1 fk.2 s
        have hLt := fun k (hk : k ∈ _) => M.lt hk
        refine (Create_spec c.dg c.st.ok hd (by omega) _ _ (S.number + 1)).mono fun u w1 ⟨o1, jp, he, s, jr⟩ => ⟨_, _, he, M.keep s (fun _ _ h => h), ?_⟩
        have jr : JR S d _ g jp w1 o1 := jr
        have hwc := c.st.size
        have c := c.move s (fun _ h => h.elim)
        have M := M.step s
        have fl := free_blk fl.1 fl.2 s
        have fk := free_blk fk.1 fk.2 s
        intro w1 X
        obtain ⟨o1, c, s⟩ := c.joins M hL X
        have fl := free_blk fl.1 fl.2 s
        have fk := free_blk fk.1 fk.2 s
        have jr := jr.move s fun k hk => .inl (hLt k hk)
        exact compact_tail (R := fun v w' => v = Value.int .i64 (compactS d S b).2.2 ∧ Left w o p g lg S (compactS d S b) w') c fl fk hql hqk hne jr hwc hpg hd hm rfl (by omega) hc hbl hb hR'
    · intro w1 X
      obtain ⟨o1, c, s⟩ := c.joins M hL X
      intro w1 qk X hb1 hq1 hq1'
      have hqk := Nat.le_trans c.st.size hq1
      obtain ⟨o1, c, fk, s⟩ := c.seen X hb1 hq1
      refine ⟨c.cn, c.ch, c.cp, c.cd, c.cp, ?_⟩
      refine ⟨?_, ?_⟩
      · intro w1 L X P
        obtain ⟨o1, c, M, hL, s⟩ := c.priv X P
        have fk := free_blk fk.1 fk.2 s
        have hLt := fun k (hk : k ∈ _) => M.lt hk
        refine (Create_spec c.dg c.st.ok hd (by omega) _ _ (S.number + 1)).mono fun u w1 ⟨o1, jp, he, s, jr⟩ => ⟨_, _, he, M.keep s (fun _ _ h => h), ?_⟩
        have jr : JR S d _ g jp w1 o1 := jr
        have hwc := c.st.size
        have c := c.move s (fun _ h => h.elim)
        have M := M.step s
        have fk := free_blk fk.1 fk.2 s
        intro w1 X
        obtain ⟨o1, c, s⟩ := c.joins M hL X
        have fk := free_blk fk.1 fk.2 s
        have jr := jr.move s fun k hk => .inl (hLt k hk)
        intro w1 ql X hb1 hq1 hq1'
        have hfk := fk.1.lt
        have hql := Nat.le_trans c.st.size hq1
        obtain ⟨o1, c, fl, s⟩ := c.seen X hb1 hq1
        have fk := free_blk fk.1 fk.2 s
        have jr := jr.still s
        have hne : ql ≠ qk := by omega
        exact compact_tail (R := fun v w' => v = Value.int .i64 (compactS d S b).2.2 ∧ Left w o p g lg S (compactS d S b) w') c fl fk hql hqk hne jr hwc hpg hd hm rfl (by omega) hc hbl hb hR'
      · intro w1 ql X hb1 hq1 hq1'
        have hfk := fk.1.lt
        have hql := Nat.le_trans c.st.size hq1
        obtain ⟨o1, c, fl, s⟩ := c.seen X hb1 hq1
        have fk := free_blk fk.1 fk.2 s
        have hne : ql ≠ qk := by omega
        refine ⟨c.cn, c.ch, c.cp, c.cd, c.cp, ?_⟩
        intro w1 L X P
        obtain ⟨o1, c, M, hL, s⟩ := c.priv X P
        have fl := free_blk fl.1 fl.2 s
        have fk := free_blk fk.1 fk.2 s
        have hLt := fun k (hk : k ∈ _) => M.lt hk
        refine (Create_spec c.dg c.st.ok hd (by omega) _ _ (S.number + 1)).mono fun u w1 ⟨o1, jp, he, s, jr⟩ => ⟨_, _, he, M.keep s (fun _ _ h => h), ?_⟩
        have jr : JR S d _ g jp w1 o1 := jr
        have hwc := c.st.size
        have c := c.move s (fun _ h => h.elim)
        have M := M.step s
        have fl := free_blk fl.1 fl.2 s
        have fk := free_blk fk.1 fk.2 s
        intro w1 X
        obtain ⟨o1, c, s⟩ := c.joins M hL X
        have fl := free_blk fl.1 fl.2 s
        have fk := free_blk fk.1 fk.2 s
        have jr := jr.move s fun k hk => .inl (hLt k hk)
        exact compact_tail (R := fun v w' => v = Value.int .i64 (compactS d S b).2.2 ∧ Left w o p g lg S (compactS d S b) w') c fl fk hql hqk hne jr hwc hpg hd hm rfl (by omega) hc hbl hb hR'
  · intro w1 ql X hb1 hq1 hq1'
    have hql := Nat.le_trans c.st.size hq1
    obtain ⟨o1, c, fl, s⟩ := c.seen X hb1 hq1
    refine ⟨c.cn, c.ch, c.cp, c.cn, c.cp, c.cd, c.cp, ?_⟩
    refine ⟨?_, ?_⟩
    · intro w1 L X P
      obtain ⟨o1, c, M, hL, s⟩ := c.priv X P
      have fl := free_blk fl.1 fl.2 s
      refine (base_spec c.sg hh (S.number + 1) (by omega)).mono fun u w1 ⟨he, X⟩ => ⟨_, he, ?_⟩
      obtain ⟨o1, c, s⟩ := c.still X
      refine ⟨M.keep s (fun _ _ h => h), c.cn, c.ch, c.cp, c.cd, c.cp, ?_⟩
      have M := M.step s
      have fl := free_blk fl.1 fl.2 s
      refine ⟨?_, ?_⟩
      · intro w1 L X P
        obtain ⟨o1, c, M, hL, s⟩ := c.join M hL X P
        have fl := free_blk fl.1 fl.2 s
        have hLt := fun k (hk : k ∈ _) => M.lt hk
        refine (Create_spec c.dg c.st.ok hd (by omega) _ _ (S.number + 1)).mono fun u w1 ⟨o1, jp, he, s, jr⟩ => ⟨_, _, he, M.keep s (fun _ _ h => h), ?_⟩
        have jr : JR S d _ g jp w1 o1 := jr
        have hwc := c.st.size
        have c := c.move s (fun _ h => h.elim)
        have M := M.step s
        have fl := free_blk fl.1 fl.2 s
        intro w1 X
        obtain ⟨o1, c, s⟩ := c.joins M hL X
        have fl := free_blk fl.1 fl.2 s
        have jr := jr.move s fun k hk => .inl (hLt k hk)
        intro w1 qk X hb1 hq1 hq1'
        have hfl := fl.1.lt
        have hqk := Nat.le_trans c.st.size hq1
        obtain ⟨o1, c, fk, s⟩ := c.seen X hb1 hq1
        have fl := free_blk fl.1 fl.2 s
        have jr := jr.still s
        have hne : ql ≠ qk := by omega
        exact compact_tail (R := fun v w' => v = Value.int .i64 (compactS d S b).2.2 ∧ Left w o p g lg S (compactS d S b) w') c fl fk hql hqk hne jr hwc hpg hd hm rfl (by omega) hc hbl hb hR'
      · intro w1 X
        obtain ⟨o1, c, s⟩ := c.joins M hL X
        have fl := free_blk fl.1 fl.2 s
        intro w1 qk X hb1 hq1 hq1'
        have hfl := fl.1.lt
        have hqk := Nat.le_trans c.st.size hq1
        obtain ⟨o1, c, fk, s⟩ := c.seen X hb1 hq1
        have fl := free_blk fl.1 fl.2 s
        have hne : ql ≠ qk := by omega
        refine ⟨c.cn, c.ch, c.cp, c.cd, c.cp, ?_⟩
        intro w1 L X P
        obtain ⟨o1, c, M, hL, s⟩ := c.priv X P
        have fl := free_blk fl.1 fl.2 s
        have fk := free_blk fk.1 fk.2 s
        have hLt := fun k (hk : k ∈ _) => M.lt hk
        refine (Create_spec c.dg c.st.ok hd (by omega) _ _ (S.number + 1)).mono fun u w1 ⟨o1, jp, he, s, jr⟩ => ⟨_, _, he, M.keep s (fun _ _ h => h), ?_⟩
        have jr : JR S d _ g jp w1 o1 := jr
        have hwc := c.st.size
        have c := c.move s (fun _ h => h.elim)
        have M := M.step s
        have fl := free_blk fl.1 fl.2 s
        have fk := free_blk fk.1 fk.2 s
        intro w1 X
        obtain ⟨o1, c, s⟩ := c.joins M hL X
        have fl := free_blk fl.1 fl.2 s
        have fk := free_blk fk.1 fk.2 s
        have jr := jr.move s fun k hk => .inl (hLt k hk)
        exact compact_tail (R := fun v w' => v = Value.int .i64 (compactS d S b).2.2 ∧ Left w o p g lg S (compactS d S b) w') c fl fk hql hqk hne jr hwc hpg hd hm rfl (by omega) hc hbl hb hR'
    · intro w1 qk X hb1 hq1 hq1'
      have hfl := fl.1.lt
      have hqk := Nat.le_trans c.st.size hq1
      obtain ⟨o1, c, fk, s⟩ := c.seen X hb1 hq1
      have fl := free_blk fl.1 fl.2 s
      have hne : ql ≠ qk := by omega
      refine ⟨c.cn, c.ch, c.cp, c.cn, c.cp, c.cd, c.cp, ?_⟩
      intro w1 L X P
      obtain ⟨o1, c, M, hL, s⟩ := c.priv X P
      have fl := free_blk fl.1 fl.2 s
      have fk := free_blk fk.1 fk.2 s
      refine (base_spec c.sg hh (S.number + 1) (by omega)).mono fun u w1 ⟨he, X⟩ => ⟨_, he, ?_⟩
      obtain ⟨o1, c, s⟩ := c.still X
      refine ⟨M.keep s (fun _ _ h => h), c.cn, c.ch, c.cp, c.cd, c.cp, ?_⟩
      have M := M.step s
      have fl := free_blk fl.1 fl.2 s
      have fk := free_blk fk.1 fk.2 s
      intro w1 L X P
      obtain ⟨o1, c, M, hL, s⟩ := c.join M hL X P
      have fl := free_blk fl.1 fl.2 s
      have fk := free_blk fk.1 fk.2 s
      have hLt := fun k (hk : k ∈ _) => M.lt hk
      refine (Create_spec c.dg c.st.ok hd (by omega) _ _ (S.number + 1)).mono fun u w1 ⟨o1, jp, he, s, jr⟩ => ⟨_, _, he, M.keep s (fun _ _ h => h), ?_⟩
      have jr : JR S d _ g jp w1 o1 := jr
      have hwc := c.st.size
      have c := c.move s (fun _ h => h.elim)
      have M := M.step s
      have fl := free_blk fl.1 fl.2 s
      have fk := free_blk fk.1 fk.2 s
      intro w1 X
      obtain ⟨o1, c, s⟩ := c.joins M hL X
      have fl := free_blk fl.1 fl.2 s
      have fk := free_blk fk.1 fk.2 s
      have jr := jr.move s fun k hk => .inl (hLt k hk)
      exact compact_tail (R := fun v w' => v = Value.int .i64 (compactS d S b).2.2 ∧ Left w o p g lg S (compactS d S b) w') c fl fk hql hqk hne jr hwc hpg hd hm rfl (by omega) hc hbl hb hR'
  · intro w1 qk X hb1 hq1 hq1'
    have hqk := Nat.le_trans c.st.size hq1
    obtain ⟨o1, c, fk, s⟩ := c.seen X hb1 hq1
    refine ⟨c.cn, c.ch, c.cp, c.cn, c.cp, c.cd, c.cp, ?_⟩
    refine ⟨?_, ?_⟩
    · intro w1 L X P
      obtain ⟨o1, c, M, hL, s⟩ := c.priv X P
      have fk := free_blk fk.1 fk.2 s
      refine (base_spec c.sg hh (S.number + 1) (by omega)).mono fun u w1 ⟨he, X⟩ => ⟨_, he, ?_⟩
      obtain ⟨o1, c, s⟩ := c.still X
      refine ⟨M.keep s (fun _ _ h => h), c.cn, c.ch, c.cp, c.cd, c.cp, ?_⟩
      have M := M.step s
      have fk := free_blk fk.1 fk.2 s
      refine ⟨?_, ?_⟩
      · intro w1 L X P
        obtain ⟨o1, c, M, hL, s⟩ := c.join M hL X P
        have fk := free_blk fk.1 fk.2 s
        have hLt := fun k (hk : k ∈ _) => M.lt hk
        refine (Create_spec c.dg c.st.ok hd (by omega) _ _ (S.number + 1)).mono fun u w1 ⟨o1, jp, he, s, jr⟩ => ⟨_, _, he, M.keep s (fun _ _ h => h), ?_⟩
        have jr : JR S d _ g jp w1 o1 := jr
        have hwc := c.st.size
        have c := c.move s (fun _ h => h.elim)
        have M := M.step s
        have fk := free_blk fk.1 fk.2 s
        intro w1 X
        obtain ⟨o1, c, s⟩ := c.joins M hL X
        have fk := free_blk fk.1 fk.2 s
        have jr := jr.move s fun k hk => .inl (hLt k hk)
        intro w1 ql X hb1 hq1 hq1'
        have hfk := fk.1.lt
        have hql := Nat.le_trans c.st.size hq1
        obtain ⟨o1, c, fl, s⟩ := c.seen X hb1 hq1
        have fk := free_blk fk.1 fk.2 s
        have jr := jr.still s
        have hne : ql ≠ qk := by omega
        exact compact_tail (R := fun v w' => v = Value.int .i64 (compactS d S b).2.2 ∧ Left w o p g lg S (compactS d S b) w') c fl fk hql hqk hne jr hwc hpg hd hm rfl (by omega) hc hbl hb hR'
      · intro w1 X
        obtain ⟨o1, c, s⟩ := c.joins M hL X
        have fk := free_blk fk.1 fk.2 s
        intro w1 ql X hb1 hq1 hq1'
        have hfk := fk.1.lt
        have hql := Nat.le_trans c.st.size hq1
        obtain ⟨o1, c, fl, s⟩ := c.seen X hb1 hq1
        have fk := free_blk fk.1 fk.2 s
        have hne : ql ≠ qk := by omega
        refine ⟨c.cn, c.ch, c.cp, c.cd, c.cp, ?_⟩
        intro w1 L X P
        obtain ⟨o1, c, M, hL, s⟩ := c.priv X P
        have fl := free_blk fl.1 fl.2 s
        have fk := free_blk fk.1 fk.2 s
        have hLt := fun k (hk : k ∈ _) => M.lt hk
        refine (Create_spec c.dg c.st.ok hd (by omega) _ _ (S.number + 1)).mono fun u w1 ⟨o1, jp, he, s, jr⟩ => ⟨_, _, he, M.keep s (fun _ _ h => h), ?_⟩
        have jr : JR S d _ g jp w1 o1 := jr
        have hwc := c.st.size
        have c := c.move s (fun _ h => h.elim)
        have M := M.step s
        have fl := free_blk fl.1 fl.2 s
        have fk := free_blk fk.1 fk.2 s
        intro w1 X
        obtain ⟨o1, c, s⟩ := c.joins M hL X
        have fl := free_blk fl.1 fl.2 s
        have fk := free_blk fk.1 fk.2 s
        have jr := jr.move s fun k hk => .inl (hLt k hk)
        exact compact_tail (R := fun v w' => v = Value.int .i64 (compactS d S b).2.2 ∧ Left w o p g lg S (compactS d S b) w') c fl fk hql hqk hne jr hwc hpg hd hm rfl (by omega) hc hbl hb hR'
    · intro w1 ql X hb1 hq1 hq1'
      have hfk := fk.1.lt
      have hql := Nat.le_trans c.st.size hq1
      obtain ⟨o1, c, fl, s⟩ := c.seen X hb1 hq1
      have fk := free_blk fk.1 fk.2 s
      have hne : ql ≠ qk := by omega
      refine ⟨c.cn, c.ch, c.cp, c.cn, c.cp, c.cd, c.cp, ?_⟩
      intro w1 L X P
      obtain ⟨o1, c, M, hL, s⟩ := c.priv X P
      have fl := free_blk fl.1 fl.2 s
      have fk := free_blk fk.1 fk.2 s
      refine (base_spec c.sg hh (S.number + 1) (by omega)).mono fun u w1 ⟨he, X⟩ => ⟨_, he, ?_⟩
      obtain ⟨o1, c, s⟩ := c.still X
      refine ⟨M.keep s (fun _ _ h => h), c.cn, c.ch, c.cp, c.cd, c.cp, ?_⟩
      have M := M.step s
      have fl := free_blk fl.1 fl.2 s
      have fk := free_blk fk.1 fk.2 s
      intro w1 L X P
      obtain ⟨o1, c, M, hL, s⟩ := c.join M hL X P
      have fl := free_blk fl.1 fl.2 s
      have fk := free_blk fk.1 fk.2 s
      have hLt := fun k (hk : k ∈ _) => M.lt hk
      refine (Create_spec c.dg c.st.ok hd (by omega) _ _ (S.number + 1)).mono fun u w1 ⟨o1, jp, he, s, jr⟩ => ⟨_, _, he, M.keep s (fun _ _ h => h), ?_⟩
      have jr : JR S d _ g jp w1 o1 := jr
      have hwc := c.st.size
      have c := c.move s (fun _ h => h.elim)
      have M := M.step s
      have fl := free_blk fl.1 fl.2 s
      have fk := free_blk fk.1 fk.2 s
      intro w1 X
      obtain ⟨o1, c, s⟩ := c.joins M hL X
      have fl := free_blk fl.1 fl.2 s
      have fk := free_blk fk.1 fk.2 s
      have jr := jr.move s fun k hk => .inl (hLt k hk)
      exact compact_tail (R := fun v w' => v = Value.int .i64 (compactS d S b).2.2 ∧ Left w o p g lg S (compactS d S b) w') c fl fk hql hqk hne jr hwc hpg hd hm rfl (by omega) hc hbl hb hR'
end
end Go.Proofs.Ytidijnfkcpbkiaa

/- Snapshot: Open of a store. -/
set_option linter.unusedVariables false
set_option linter.unusedSimpArgs false
set_option maxRecDepth 20000
set_option maxHeartbeats 4000000
namespace Go.Proofs.Ytidijnfkcpbkiaa
open Go Go.Mx Go.Proofs
open W (OwnB GivesW)
theorem compactS_kind (d : DS) (S : SS) (b : List UInt8) : ((compactS d S b).2.2 = 0 → ∃ J, (compactS d S b).2.1 = some J) ∧ ((compactS d S b).2.2 ≠ 0 → (compactS d S b).2.1 = none) := by
  have hK := openK_kind d (2 + whichN (S.number + 1) * S.half) S.half (S.number + 1)
  unfold compactS
  split
  · exact ⟨fun h => (by cases h), fun _ => rfl⟩
  · split
    · exact ⟨fun h => (by cases h), fun _ => rfl⟩
    · split
      · exact ⟨fun h => (by cases h), fun _ => rfl⟩
      · split
        · exact ⟨fun h => (by cases h), fun _ => rfl⟩
        · unfold compactK
          obtain ⟨O, hO⟩ : ∃ O, openK d (2 + whichN (S.number + 1) * S.half) S.half (S.number + 1) = O := ⟨_, rfl⟩
          rw [hO] at hK ⊢
          obtain ⟨jo, jl, jk⟩ := O
          cases jo with
          | none => exact ⟨fun h => (by obtain ⟨J, hJ⟩ := hK.1 h; cases hJ), fun _ => rfl⟩
          | some J =>
            dsimp only
            split
            · rename_i h; exact ⟨fun h2 => absurd h2 h, fun _ => rfl⟩
            · split
              · rename_i h; exact ⟨fun h2 => absurd h2 h, fun _ => rfl⟩
              · split
                · rename_i h; exact ⟨fun h2 => absurd h2 h, fun _ => rfl⟩
                · exact ⟨fun _ => ⟨_, rfl⟩, fun h => absurd rfl h⟩
section
variable {w w' w1 : World} {o o' o1 : Own} {q g p N m : Nat} {K : Nat → Prop} {b : List UInt8} {a : Option Addr} {c : Nat} {d : DS} {J : JS} {S : SS} {l : List BS}
theorem BsRow.cut1 (h : BsRow w o a c l) : BsRow w o (cutA a c 1 1) (c - 1) (l.drop 1) := by
  refine ⟨⟨?_, fun h0 ad ha => ?_⟩, fun x hx => h.oks x (List.mem_of_mem_drop hx), by rw [List.length_drop]; have := h.le; omega⟩
  · rw [List.map_drop]; exact h.row.1.cut 1 c (by rw [List.length_map]; exact h.le)
  · obtain ⟨b, hb, e⟩ := cutA_block ha
    rw [← e]
    refine h.row.2 (fun e2 => h0 ?_) b hb
    rw [List.map_drop, e2]; rfl
/-- what Open hands back. -/
structure OG (w : World) (o : Own) (g : Nat) (O : OS) (sp : Option Addr) (sa : Option Addr) (sn sc : Nat) (la : Option Addr) (lc : Nat) (l : List BS) (w' : World) (o' : Own) : Prop where
  st : Step (fun i => i = g) w o w' o'
  dg : DG w' o' g O.d
  sn_ : sn = (O.l.headD []).length
  sr : Row w' o' sa (bytesV (O.l.headD []))
  sc_ : sn ≤ sc
  ll : l.map BS.bs = O.l.tail
  lr : BsRow w' o' la lc l
  s0 : O.s = none → sp = none
  s1 : ∀ S J, O.s = some (S, J) → ∃ p q, sp = some (blk p) ∧ w.heap.size ≤ p ∧ w.heap.size ≤ q ∧ p ≠ q ∧ SG w' o' p g (some (blk q)) S ∧ JG w' o' q g J
theorem OG.bad (s : Step (fun i => i = g) w o w' o') (D : DG w' o' g d) (k : Int) : OG w o g ⟨d, none, [], k⟩ none none 0 0 none 0 [] w' o' :=
  ⟨s, D, rfl, Row.nil _ _ _, Nat.le_refl _, rfl, BsRow.nil _ _, fun _ => rfl, fun S J h => by cases h⟩
theorem sOpen_spec (h : DG w o g d) (ok : Tags w o) (hd : d.ok m) (hm : m + 300 < 100000) :
    Calls Try.prog 8 #[.pointer (some (blk g))] w (fun z w' => ∃ o' sp sa sn sc la lc, ∃ l : List BS, z = .returned (.tuple #[.pointer sp, .slice sa sn sc, .slice la l.length lc, .int .i64 (openS d).k]) ∧ OG w o g (openS d) sp sa sn sc la lc l w' o') := by
  refine (snapshot_Open.go _ (R := fun z w' => ∃ o' sp sa sn sc la lc, ∃ l : List BS, z = (.tuple #[.pointer sp, .slice sa sn sc, .slice la l.length lc, .int .i64 (openS d).k]) ∧ OG w o g (openS d) sp sa sn sc la lc l w' o') ?_).mono fun z w' ⟨u, he, o', sp, sa, sn, sc, la, lc, l, hu, hw⟩ => ⟨o', sp, sa, sn, sc, la, lc, l, by rw [he, hu], hw⟩
  unfold snapshot_Open.N
  have bad : ∀ {w' : World} {o' : Own} {d2 : DS} {k : Int}, openS d = ⟨d2, none, [], k⟩ → Step (fun i => i = g) w o w' o' → DG w' o' g d2 → ∃ o' sp sa sn sc la lc, ∃ l : List BS, Value.tuple #[.pointer none, .slice none 0 0, .slice none 0 0, .int .i64 k] = (.tuple #[.pointer sp, .slice sa sn sc, .slice la l.length lc, .int .i64 (openS d).k]) ∧ OG w o g (openS d) sp sa sn sc la lc l w' o' := fun {w' o' d2 k} hO s D => by
    rw [hO]
    exact ⟨o', none, none, 0, 0, none, 0, [], rfl, OG.bad s D k⟩
  have hdg := hd.n2
  have hdg1 := hd.n1
  refine ⟨fun e => (by cases e), fun _ => (Sectors_spec h).mono fun u w4 ⟨he, hw⟩ => ⟨_, he, fun hs => ?_, fun hs => ?_⟩⟩
  · subst hw
    exact bad (by unfold openS; rw [if_pos hs]) (Step.refl _ ok) h
  subst hw
  refine (Down_spec h).mono fun u w8 ⟨he, hw⟩ => ⟨_, he, fun hdn => ?_, fun hdn => ?_⟩
  · subst hw
    exact bad (by unfold openS; rw [if_neg (by omega), if_pos hdn]) (Step.refl _ ok) h
  subst hw
  refine (Sectors_spec h).mono fun u w12 ⟨he, hw⟩ => ⟨_, he, by omega, by omega, ?_⟩
  subst hw
  intro w14 q X14 hb hq hq'
  rw [show IntKind.i64.wrap (Int.tdiv ((d.good.length : Int) - 2) 2) = halfD d by rw [w64 (by rw [Int.tdiv_eq_ediv_of_nonneg (by omega)]; omega) (by rw [Int.tdiv_eq_ediv_of_nonneg (by omega)]; omega)]; rfl] at hb
  have s14 := (Step.of_no X14 ok).tag hq hq'
  have hgl := h.lt
  have D14 := h.step s14 id
  have hpl : d.pend.length < 1000000 := by have := hd.pl; omega
  refine (snumber_spec D14 s14.ok 0 hpl).mono fun u w18 ⟨he, X18⟩ => ⟨_, he, ?_⟩
  have s18 := s14.trans (Step.of_no X18 s14.ok)
  have D18 := h.step s18 id
  refine (snumber_spec D18 s18.ok 1 hpl).mono fun u w21 ⟨he, X21⟩ => ⟨_, he, ?_⟩
  have s21 := s18.trans (Step.of_no X21 s18.ok)
  have hb21 := (hb.ext X18 id).ext X21 id
  have tg21 : (grow w18 (grow w14 (tag (grow w12 o) q q))) q = some q := by
    rw [grow_lt (by have := X18.size; omega), grow_lt hq']; exact tag_self
  have a20 : ((blk q).add 2).add 0 = (blk q).add 2 := by rw [add_add]
  rw [a20]
  refine ⟨hb21.cana (i := 2) rfl, thenW_in fun w22 e22 => ?_⟩
  rw [max_int, show max (numH (readD d 0).1 0) (numH (readD d 1).1 1) = bigN d from rfl] at e22
  have hb22 := hb21.seti 2 rfl e22
  have X22 : Ext (fun b => b = q) w21 w22 := (Ext.refl (fun b => b = q) w21).x_set (q := q) (i := 2) rfl (.inl rfl) e22
  obtain ⟨o22, t22⟩ := Step.store1 X22 s21.ok tg21
  have tg22 : o22 q = some q := by rw [t22.own hb21.lt]; exact tg21
  have s22 : Step no w12 o w22 o22 := s21.trans' t22 fun i hi => .inr (by rw [hi]; exact hq)
  have S22 : SG w22 o22 q g none ⟨halfD d, bigN d, false⟩ := ⟨hb22, tg22⟩
  have D22 := h.step s22 id
  have hqg : q ≠ g := by omega
  have hlt : bigN d < 4294967296 := by
    have hn : ∀ (b : List UInt8) (i : Int), numH b i < 4294967296 := fun b i => by
      have := numB_lt b 1
      unfold numH
      split
      · decide
      · split
        · decide
        · split
          · exact this
          · decide
    have := hn (readD d 0).1 0
    have := hn (readD d 1).1 1
    unfold bigN; omega
  have hh : 0 ≤ halfD d ∧ halfD d ≤ 1000 := by unfold halfD; rw [Int.tdiv_eq_ediv_of_nonneg (by omega)]; omega
  refine ⟨_, hb22.cella (i := 2) rfl, fun h0 => ?_, fun h0 => ?_⟩
  · have hz : bigN d = 0 := by omega
    have hk := compactS_kind d ⟨halfD d, 0, false⟩ []
    rw [hz] at S22
    have hO : openS d = match compactS d ⟨halfD d, 0, false⟩ [] with
      | (d2, some J, _) => ⟨d2, some (⟨halfD d, 1, false⟩, J), [], 0⟩
      | (d2, none, k) => ⟨d2, none, [], k⟩ := by unfold openS; rw [if_neg (by omega), if_neg (by rw [hdn]; decide), if_pos hz]; try rfl
    refine (sCompact_spec (b := []) S22 D22 s22.ok hqg hd hm hh (by show 0 < _; decide) (Row.nil _ _ _) (Nat.le_refl _) (by decide)).mono fun u w28 ⟨he, o28, s28, D28, hN, hS⟩ => ⟨_, he, fun hne => ?_, fun hze => ?_⟩
    · have hn := hk.2 hne
      refine bad (k := (compactS d ⟨halfD d, 0, false⟩ []).2.2) (d2 := (compactS d ⟨halfD d, 0, false⟩ []).1) ?_ ((s22.none).trans' s28 fun i hi => hi.elim (fun h => .inr (by omega)) fun h => .inl h) D28
      rw [hO]
      obtain ⟨C, hC⟩ : ∃ C, compactS d ⟨halfD d, 0, false⟩ [] = C := ⟨_, rfl⟩
      rw [hC] at hn ⊢
      obtain ⟨c1, c2, c3⟩ := C
      subst hn; rfl
    · obtain ⟨J, hJ⟩ := hk.1 hze
      obtain ⟨q2, hq2, SG2, JG2⟩ := hS J hJ
      have hO2 : openS d = ⟨(compactS d ⟨halfD d, 0, false⟩ []).1, some (⟨halfD d, 1, false⟩, J), [], 0⟩ := by
        rw [hO]
        obtain ⟨C, hC⟩ : ∃ C, compactS d ⟨halfD d, 0, false⟩ [] = C := ⟨_, rfl⟩
        rw [hC] at hJ ⊢
        obtain ⟨c1, c2, c3⟩ := C
        subst hJ; rfl
      rw [hO2]
      have l22 := s22.size
      have lq := hb22.lt
      refine ⟨o28, some (blk q), none, 0, 0, none, 0, [], rfl, ⟨(s22.none).trans' s28 fun i hi => hi.elim (fun h => .inr (by omega)) fun h => .inl h, D28, rfl, Row.nil _ _ _, Nat.le_refl _, rfl, BsRow.nil _ _, fun h => (by cases h), fun S J2 hS2 => ?_⟩⟩
      cases hS2
      exact ⟨q, q2, rfl, hq, by omega, by omega, SG2, JG2⟩
  · have hz : ¬ bigN d = 0 := by omega
    refine ⟨_, hb22.cella (i := 2) rfl, _, hb22.cella (i := 1) rfl, _, hb22.cella (i := 2) rfl, fun w30 X30 => ?_⟩
    have s30 := s22.trans (Step.of_no X30 s22.ok)
    refine (base_spec (S22.step (Step.of_no X30 s22.ok) id) hh (bigN d) hlt).mono fun u w39 ⟨he, X39⟩ => ⟨_, he, ?_⟩
    have s39 := s30.trans (Step.of_no X39 s30.ok)
    have hb39 := (hb22.ext X30 id).ext X39 id
    refine ⟨hb39.cella (i := 2) rfl, hb39.cella (i := 1) rfl, ?_⟩
    have D39 := h.step s39 id
    refine (Open_spec D39 s39.ok hd (by omega) (2 + whichN (bigN d) * halfD d) (halfD d) (bigN d)).mono fun u w46 ⟨o46, jp, la, lc, l, he, s46, hlm, hlr, hn, hj⟩ => ⟨_, _, _, _, _, he, fun hne => ?_, fun hze => ?_⟩
    · have hK := (openK_kind d (2 + whichN (bigN d) * halfD d) (halfD d) (bigN d)).2 hne
      have s := s39.trans s46
      refine bad (k := (openK d (2 + whichN (bigN d) * halfD d) (halfD d) (bigN d)).2.2) (d2 := d) ?_ s.none (h.step s id)
      unfold openS
      rw [if_neg (by omega), if_neg (by rw [hdn]; decide), if_neg hz]
      obtain ⟨C, hC⟩ : ∃ C, openK d (2 + whichN (bigN d) * halfD d) (halfD d) (bigN d) = C := ⟨_, rfl⟩
      rw [hC] at hK ⊢
      obtain ⟨c1, c2, c3⟩ := C
      obtain ⟨rfl, rfl⟩ := hK
      rfl
    · obtain ⟨J, hJ⟩ := (openK_kind d (2 + whichN (bigN d) * halfD d) (halfD d) (bigN d)).1 hze
      obtain ⟨q2, rfl, hq2, jg⟩ := hj J hJ
      have hOp : openS d = if (openK d (2 + whichN (bigN d) * halfD d) (halfD d) (bigN d)).2.1 = [] then ⟨d, none, [], 4⟩ else ⟨d, some (⟨halfD d, bigN d, false⟩, J), (openK d (2 + whichN (bigN d) * halfD d) (halfD d) (bigN d)).2.1, 0⟩ := by
        unfold openS
        rw [if_neg (by omega), if_neg (by rw [hdn]; decide), if_neg hz]
        obtain ⟨C, hC⟩ : ∃ C, openK d (2 + whichN (bigN d) * halfD d) (halfD d) (bigN d) = C := ⟨_, rfl⟩
        rw [hC] at hJ ⊢
        obtain ⟨c1, c2, c3⟩ := C
        subst hJ
        rfl
      have s46' := s39.trans s46
      refine ⟨fun hl0 => ?_, fun hl0 => ?_⟩
      · have hll : l = [] := List.length_eq_zero_iff.1 (by omega)
        rw [hll] at hlm
        refine bad (k := 4) (d2 := d) (by rw [hOp, if_pos (show (openK d (2 + whichN (bigN d) * halfD d) (halfD d) (bigN d)).2.1 = [] from hlm.symm)]) s46'.none (h.step s46' id)
      · have hne : ¬ (openK d (2 + whichN (bigN d) * halfD d) (halfD d) (bigN d)).2.1 = [] := fun e => by
          rw [e] at hlm
          have := congrArg List.length hlm
          simp at this; rw [this] at hl0; exact hl0 rfl
        rw [if_neg hne] at hOp
        have hb46 := hb39
        have lq := hb39.lt
        have S46 : SG w46 o46 q g none ⟨halfD d, bigN d, false⟩ := by
          have t := ((Step.of_no X30 s22.ok).trans (Step.of_no X39 s30.ok)).trans s46
          exact S22.step t id
        have a30 : ((blk q).add 3).add 0 = (blk q).add 3 := by rw [add_add]
        rw [a30]
        refine ⟨S46.mem.cana (i := 3) rfl, thenW_in fun w49 e49 => ?_⟩
        have hb49 := S46.mem.seti 3 rfl e49
        have X49 : Ext (fun b => b = q) w46 w49 := (Ext.refl (fun b => b = q) w46).x_set (q := q) (i := 3) rfl (.inl rfl) e49
        obtain ⟨o49, t49⟩ := Step.store1 X49 s46.ok S46.tg
        have hl49 := hlr.step t49
        obtain ⟨x, xs, rfl⟩ : ∃ x xs, l = x :: xs := by
          cases l with
          | nil => exact absurd rfl hl0
          | cons x xs => exact ⟨x, xs, rfl⟩
        obtain ⟨ad, rfl, cx⟩ := hl49.at.cell (i := 0) (x := x) rfl
        refine ⟨ad, rfl, by omega, x.a, x.bs.length, x.c, cx, by omega, fun w50 X50 => ?_⟩
        have u50 := Step.of_no X50 t49.ok
        have t50 := t49.trans u50.none
        have hl50 := hlr.step t50
        have s50 : Step no w12 o w50 (grow w49 o49) := s46'.trans' t50 fun i hi => .inr (by rw [hi]; exact hq)
        have hq2l := jg.mem.lt
        have hqq : q ≠ q2 := by omega
        have hlx := hl50.oks x (by simp)
        rw [hOp]
        have hd1 : (openK d (2 + whichN (bigN d) * halfD d) (halfD d) (bigN d)).2.1 = x.bs :: xs.map BS.bs := hlm.symm
        rw [hd1]
        have hlc : (x :: xs).length - 1 = xs.length := rfl
        refine ⟨grow w49 o49, some (blk q), x.a, x.bs.length, x.c, _, _, xs, rfl, ⟨s50.none, h.step s50 id, rfl, hlx.1, hlx.2, rfl, hl50.cut1, fun h => (by cases h), fun S J2 hS2 => ?_⟩⟩
        cases hS2
        have l39 := s39.size
        refine ⟨q, q2, rfl, hq, by omega, hqq, ⟨hb49.ext X50 id, ?_⟩, jg.step t50 (fun e => hqq e.symm)⟩
        rw [u50.own hb49.lt, t49.own S46.mem.lt]
        exact S46.tg
end
end Go.Proofs.Ytidijnfkcpbkiaa

/- Snapshot: what the reference says of sectors. -/
set_option linter.unusedVariables false
set_option linter.unusedSimpArgs false
set_option maxRecDepth 20000
set_option maxHeartbeats 4000000
namespace Go.Proofs.Ytidijnfkcpbkiaa
open Go Go.Mx Go.Proofs
open W (OwnB GivesW)
section
variable {w w' w1 : World} {o o' o1 : Own} {q g p N m k half T r c : Nat} {a : Option Addr} {l : List BS} {snap : List UInt8} {all : List (List UInt8)}
theorem BsAt.cut1 (h : BsAt w a c l) (k : Nat) (half : Nat) : BsAt w (cutA a c k 1) (c - k) ((l.drop k).take half) := (h.cut k).take half
end
end Go.Proofs.Ytidijnfkcpbkiaa

/- Snapshot: predicates of the laws. -/
set_option linter.unusedVariables false
set_option linter.unusedSimpArgs false
set_option maxRecDepth 100000
set_option maxHeartbeats 4000000
namespace Go.Proofs.Ytidijnfkcpbkiaa
open Go Go.Mx Go.Proofs
/-- cachettelaw11.alive -/
def cachettelaw11_alive.M  (R : Value → World → Prop) (w : World) : Prop :=
 Calls Try.prog 7 #[.int .i64 20] w fun bg bh => ∃ (ak : Option Addr) (b8 : Int), bg = .returned (.tuple #[.pointer ak, .int .i64 b8]) ∧
 Calls Try.prog 8 #[.pointer ak] bh fun bj al => ∃ (a3 : Option Addr) (ad : Option Addr) (ai : Nat) (ag : Nat) (aj : Option Addr) (af : Nat) (ae : Nat) (ab : Int), bj = .returned (.tuple #[.pointer a3, .slice ad ai ag, .slice aj af ae, .int .i64 ab]) ∧
 thenW (al.alloc (.cells #[.int .u8 97] 5)) fun b6 =>
 ∃ (aq : Option Addr) (ay : Nat) (b0 : Nat) (az : World), (convert 30 30 (.slice (some (blk al.heap.size)) 1 1)).run Try.prog b6 = .ok (.slice aq ay b0) az ∧
 Calls Try.prog 11 #[.pointer a3, .slice aq ay b0] az fun b5 ax => ∃ (a5 : Int), b5 = .returned (.int .i64 a5) ∧
 thenW (ax.alloc (.cells #[.int .u8 120] 5)) fun ba =>
 ∃ (b4 : Option Addr) (b1 : Nat) (b2 : Nat) (am : World), (convert 30 30 (.slice (some (blk ax.heap.size)) 1 1)).run Try.prog ba = .ok (.slice b4 b1 b2) am ∧
 Calls Try.prog 10 #[.pointer a3, .slice b4 b1 b2] am fun bb ar => ∃ (a2 : Int), bb = .returned (.int .i64 a2) ∧
 thenW (ar.alloc (.cells #[.int .u8 98] 5)) fun bc =>
 ∃ (aw : Option Addr) (an : Nat) (au : Nat) (ap : World), (convert 30 30 (.slice (some (blk ar.heap.size)) 1 1)).run Try.prog bc = .ok (.slice aw an au) ap ∧
 Calls Try.prog 11 #[.pointer a3, .slice aw an au] ap fun b9 bd => ∃ (a8 : Int), b9 = .returned (.int .i64 a8) ∧
 Calls Try.prog 8 #[.pointer ak] bd fun b7 a0 => ∃ (ah : Option Addr) (a4 : Option Addr) (a9 : Nat) (a6 : Nat) (a7 : Option Addr) (a1 : Nat) (ac : Nat) (aa : Int), b7 = .returned (.tuple #[.pointer ah, .slice a4 a9 a6, .slice a7 a1 ac, .int .i64 aa]) ∧
 bif ab == 0 then (
 bif a5 == 0 then (
 bif a2 == 0 then (
 bif a8 == 0 then (
 bif aa == 0 then (
 ∃ (bf : ByteArray), (convert 30 9 (.slice a4 a9 a6)).run Try.prog a0 = .ok (.string bf) a0 ∧
 bif bf.toList == (ByteArray.mk #[120]).toList then (
 bif (a1 : Int) == 1 then (
 a7.elim False fun bi =>
 0 ≤ (0 : Int) ∧ (0 : Int) < (a1 : Int) ∧
 ∃ (b3 : Option Addr) (av : Nat) (ao : Nat), a0.cell? (bi.add (Int.toNat 0 * 1)) = some (.slice b3 av ao) ∧
 ∃ (be : ByteArray), (convert 30 9 (.slice b3 av ao)).run Try.prog a0 = .ok (.string be) a0 ∧
 R (.bool (be.toList == (ByteArray.mk #[98]).toList)) a0) else (
 R (.bool false) a0)) else (
 R (.bool false) a0)) else (
 R (.bool false) a0)) else (
 R (.bool false) a0)) else (
 R (.bool false) a0)) else (
 R (.bool false) a0)) else (
 R (.bool false) a0)

theorem cachettelaw11_alive.eq  (R : Value → World → Prop) (w : World) : mfunc Try.prog [] 6 [] R w = cachettelaw11_alive.M  R w := by kernel_rfl
theorem cachettelaw11_alive.ok  {R : Value → World → Prop} {w : World} (h : cachettelaw11_alive.M  R w) : Calls Try.prog 6 #[] w fun e w' => ∃ v, e = .returned v ∧ R v w' :=
  mfunc_ok follows (H := []) (args := []) (by rw [cachettelaw11_alive.eq]; exact h)

def cachettelaw11_alive.N  (R : Value → World → Prop) (w : World) : Prop :=
 Calls Try.prog 7 #[.int .i64 20] w fun bk bl => ∃ (an : Option Addr) (bb : Int), bk = .returned (.tuple #[.pointer an, .int .i64 bb]) ∧
 Calls Try.prog 8 #[.pointer an] bl fun bm au => ∃ (a5 : Option Addr) (af : Option Addr) (ak : Nat) (aj : Nat) (am : Option Addr) (ah : Nat) (ag : Nat) (ab : Int), bm = .returned (.tuple #[.pointer a5, .slice af ak aj, .slice am ah ag, .int .i64 ab]) ∧
 ∀ (ad : World) (b8 : Nat), Ext no au ad → Blk ad b8 5 [.int .u8 97] → au.heap.size ≤ b8 → b8 < ad.heap.size →
 ∃ (az : Option Addr) (b0 : Nat) (aq : Nat) (ay : World), (convert 30 30 (.slice (some (blk b8)) 1 1)).run Try.prog ad = .ok (.slice az b0 aq) ay ∧
 Calls Try.prog 11 #[.pointer a5, .slice az b0 aq] ay fun bd av => ∃ (a4 : Int), bd = .returned (.int .i64 a4) ∧
 ∀ (al : World) (ba : Nat), Ext no av al → Blk al ba 5 [.int .u8 120] → av.heap.size ≤ ba → ba < al.heap.size →
 ∃ (ar : Option Addr) (ao : Nat) (aw : Nat) (b2 : World), (convert 30 30 (.slice (some (blk ba)) 1 1)).run Try.prog al = .ok (.slice ar ao aw) b2 ∧
 Calls Try.prog 10 #[.pointer a5, .slice ar ao aw] b2 fun bg ap => ∃ (a2 : Int), bg = .returned (.int .i64 a2) ∧
 ∀ (ai : World) (b9 : Nat), Ext no ap ai → Blk ai b9 5 [.int .u8 98] → ap.heap.size ≤ b9 → b9 < ai.heap.size →
 ∃ (b6 : Option Addr) (b3 : Nat) (b7 : Nat) (ax : World), (convert 30 30 (.slice (some (blk b9)) 1 1)).run Try.prog ai = .ok (.slice b6 b3 b7) ax ∧
 Calls Try.prog 11 #[.pointer a5, .slice b6 b3 b7] ax fun bc bh => ∃ (a3 : Int), bc = .returned (.int .i64 a3) ∧
 Calls Try.prog 8 #[.pointer an] bh fun be a1 => ∃ (ae : Option Addr) (a8 : Option Addr) (a9 : Nat) (a7 : Nat) (aa : Option Addr) (a0 : Nat) (ac : Nat) (a6 : Int), be = .returned (.tuple #[.pointer ae, .slice a8 a9 a7, .slice aa a0 ac, .int .i64 a6]) ∧
 (ab = 0 →
 (a4 = 0 →
 (a2 = 0 →
 (a3 = 0 →
 (a6 = 0 →
 ∃ (bf : ByteArray), (convert 30 9 (.slice a8 a9 a7)).run Try.prog a1 = .ok (.string bf) a1 ∧
 (bf.toList = (ByteArray.mk #[120]).toList →
 ((a0 : Int) = 1 →
 ∃ bi : Addr, aa = some bi ∧
 (0 : Int) < (a0 : Int) ∧
 ∃ (b5 : Option Addr) (b1 : Nat) (b4 : Nat), a1.cell? (bi.add (Int.toNat 0 * 1)) = some (.slice b5 b1 b4) ∧
 ∃ (bj : ByteArray), (convert 30 9 (.slice b5 b1 b4)).run Try.prog a1 = .ok (.string bj) a1 ∧
 R (.bool (bj.toList == (ByteArray.mk #[98]).toList)) a1) ∧
 ((a0 : Int) ≠ 1 →
 R (.bool false) a1)) ∧
 (bf.toList ≠ (ByteArray.mk #[120]).toList →
 R (.bool false) a1)) ∧
 (a6 ≠ 0 →
 R (.bool false) a1)) ∧
 (a3 ≠ 0 →
 R (.bool false) a1)) ∧
 (a2 ≠ 0 →
 R (.bool false) a1)) ∧
 (a4 ≠ 0 →
 R (.bool false) a1)) ∧
 (ab ≠ 0 →
 R (.bool false) a1)

theorem cachettelaw11_alive.up  {R : Value → World → Prop} {w : World} (h : cachettelaw11_alive.N  R w) : cachettelaw11_alive.M  R w := by
  unfold cachettelaw11_alive.M
  unfold cachettelaw11_alive.N at h
  refine h.mono fun bw bx h => ?_
  obtain ⟨bi, aq, he, h⟩ := h
  refine ⟨bi, aq, he, ?_⟩
  refine h.mono fun bz ai h => ?_
  obtain ⟨al, aa, ae, ad, ag, ac, ab, aj, he, h⟩ := h
  refine ⟨al, aa, ae, ad, ag, ac, ab, aj, he, ?_⟩
  refine thenW_in fun an ay => ?_
  have h := h an ai.heap.size ((Ext.refl no ai).x_alloc ay) (Blk.of_new ay) ((Ext.refl no ai)).size (size_lt_alloc ay)
  obtain ⟨b6, b7, au, b5, hr, h⟩ := h
  refine ⟨b6, b7, au, b5, hr, ?_⟩
  refine h.mono fun bp ak h => ?_
  obtain ⟨a8, he, h⟩ := h
  refine ⟨a8, he, ?_⟩
  refine thenW_in fun bc b3 => ?_
  have h := h bc ak.heap.size ((Ext.refl no ak).x_alloc b3) (Blk.of_new b3) ((Ext.refl no ak)).size (size_lt_alloc b3)
  obtain ⟨ar, am, az, bb, hr, h⟩ := h
  refine ⟨ar, am, az, bb, hr, ?_⟩
  refine h.mono fun bt ah h => ?_
  obtain ⟨a0, he, h⟩ := h
  refine ⟨a0, he, ?_⟩
  refine thenW_in fun b2 be => ?_
  have h := h b2 ah.heap.size ((Ext.refl no ah).x_alloc be) (Blk.of_new be) ((Ext.refl no ah)).size (size_lt_alloc be)
  obtain ⟨b4, bd, bl, bj, hr, h⟩ := h
  refine ⟨b4, bd, bl, bj, hr, ?_⟩
  refine h.mono fun bn bu h => ?_
  obtain ⟨a4, he, h⟩ := h
  refine ⟨a4, he, ?_⟩
  refine h.mono fun bq bm h => ?_
  obtain ⟨a9, a3, a5, a1, a6, a2, a7, af, he, h⟩ := h
  refine ⟨a9, a3, a5, a1, a6, a2, a7, af, he, ?_⟩
  refine bif_of (fun b9 => ?_) (fun b9 => ?_)
  · have h := h.1 (beq_t b9)
    refine bif_of (fun ao => ?_) (fun ao => ?_)
    · have h := h.1 (beq_t ao)
      refine bif_of (fun ap => ?_) (fun ap => ?_)
      · have h := h.1 (beq_t ap)
        refine bif_of (fun bg => ?_) (fun bg => ?_)
        · have h := h.1 (beq_t bg)
          refine bif_of (fun ax => ?_) (fun ax => ?_)
          · have h := h.1 (beq_t ax)
            obtain ⟨br, b0, h⟩ := h
            refine ⟨br, b0, ?_⟩
            refine bif_of (fun aw => ?_) (fun aw => ?_)
            · have h := h.1 (lbeq_t aw)
              refine bif_of (fun ba => ?_) (fun ba => ?_)
              · have h := h.1 (beq_t ba)
                obtain ⟨bv, av, h⟩ := h
                refine elim_some av ?_
                obtain ⟨bo, h⟩ := h
                refine ⟨by decide, bo, ?_⟩
                obtain ⟨bh, b8, bf, b1, h⟩ := h
                refine ⟨bh, b8, bf, b1, ?_⟩
                obtain ⟨bs, bk, h⟩ := h
                refine ⟨bs, bk, ?_⟩
                exact h
              · have h := h.2 (beq_f ba)
                exact h
            · have h := h.2 (lbeq_f aw)
              exact h
          · have h := h.2 (beq_f ax)
            exact h
        · have h := h.2 (beq_f bg)
          exact h
      · have h := h.2 (beq_f ap)
        exact h
    · have h := h.2 (beq_f ao)
      exact h
  · have h := h.2 (beq_f b9)
    exact h

theorem cachettelaw11_alive.go  {R : Value → World → Prop} {w : World} (h : cachettelaw11_alive.N  R w) : Calls Try.prog 6 #[] w fun e w' => ∃ v, e = .returned v ∧ R v w' := cachettelaw11_alive.ok  (cachettelaw11_alive.up  h)
theorem cachettelaw11_alive.run  {V : Value} {Q : World → Prop} {w : World} (h : cachettelaw11_alive.N  (fun v w' => v = V ∧ Q w') w) : Calls Try.prog 6 #[] w (Ret V Q) := (cachettelaw11_alive.go  h).mono fun e w' ⟨v, he, hv, hq⟩ => ⟨by rw [he, hv], hq⟩

/-- cachettelaw11.SnapshotFirst -/
def cachettelaw11_SnapshotFirst.M (n1 : Int) (av : Int) (c0 : Option Addr) (b2 : Nat) (c1 : Nat) (a7 : Option Addr) (a5 : Nat) (a6 : Nat) (R : Value → World → Prop) (w : World) : Prop :=
 bif decide (n1 < 6) then (
 Calls Try.prog 6 #[] w fun nu nw => ∃ (g0 : Bool), nu = .returned (.bool g0) ∧
 R (.bool g0) nw) else (
 bif decide (n1 > 60) then (
 Calls Try.prog 6 #[] w fun nv mv => ∃ (fj : Bool), nv = .returned (.bool fj) ∧
 R (.bool fj) mv) else (
 bif decide (av < 0) then (
 Calls Try.prog 6 #[] w fun n2 nb => ∃ (db : Bool), n2 = .returned (.bool db) ∧
 R (.bool db) nb) else (
 bif decide ((b2 : Int) > 60) then (
 Calls Try.prog 6 #[] w fun mt nh => ∃ (dq : Bool), mt = .returned (.bool dq) ∧
 R (.bool dq) nh) else (
 bif decide ((a5 : Int) > 40) then (
 Calls Try.prog 6 #[] w fun nn mr => ∃ (dm : Bool), nn = .returned (.bool dm) ∧
 R (.bool dm) mr) else (
 Calls Try.prog 7 #[.int .i64 n1] w fun n7 mx => ∃ (a3 : Option Addr) (ka : Int), n7 = .returned (.tuple #[.pointer a3, .int .i64 ka]) ∧
 Calls Try.prog 19 #[.pointer a3, .int .i64 av] mx fun nq nr => ∃ (jr : Int), nq = .returned (.int .i64 jr) ∧
 Calls Try.prog 8 #[.pointer a3] nr fun ns cy => ∃ (gh : Option Addr) (fr : Option Addr) (g3 : Nat) (fu : Nat) (f3 : Option Addr) (g2 : Nat) (gb : Nat) (ap : Int), ns = .returned (.tuple #[.pointer gh, .slice fr g3 fu, .slice f3 g2 gb, .int .i64 ap]) ∧
 bif decide (av < 2) then (
 bif ap != 19 then (
 R (.bool false) cy) else (
 bif decide (av ≥ 2) then (
 bif ap != 0 then (
 R (.bool false) cy) else (
 Calls Try.prog 20 #[.pointer a3, .slice c0 b2 c1] cy fun n8 mz => ∃ (ej : Int), n8 = .returned (.int .i64 ej) ∧
 Calls Try.prog 8 #[.pointer a3] mz fun np j3 => ∃ (d7 : Option Addr) (fc : Option Addr) (c5 : Nat) (fa : Nat) (f4 : Option Addr) (c9 : Nat) (fl : Nat) (d3 : Int), np = .returned (.tuple #[.pointer d7, .slice fc c5 fa, .slice f4 c9 fl, .int .i64 d3]) ∧
 bif d3 != 0 then (
 R (.bool false) j3) else (
 bif (IntKind.i64.wrap ((c5 : Int) + (c9 : Int))) != 0 then (
 R (.bool false) j3) else (
 Calls Try.prog 11 #[.pointer d7, .slice a7 a5 a6] j3 fun nk nl => ∃ (ae : Int), nk = .returned (.int .i64 ae) ∧
 Calls Try.prog 8 #[.pointer a3] nl fun n3 my => ∃ (gi : Option Addr) (fi : Option Addr) (fk : Nat) (fe : Nat) (au : Option Addr) (a4 : Nat) (f6 : Nat) (aq : Int), n3 = .returned (.tuple #[.pointer gi, .slice fi fk fe, .slice au a4 f6, .int .i64 aq]) ∧
 Calls Try.prog 8 #[.pointer none] my fun nd b6 => ∃ (gg : Option Addr) (g9 : Option Addr) (fw : Nat) (g4 : Nat) (fz : Option Addr) (fq : Nat) (f1 : Nat) (ao : Int), nd = .returned (.tuple #[.pointer gg, .slice g9 fw g4, .slice fz fq f1, .int .i64 ao]) ∧
 bif ae == 18 then (
 bif (a4 : Int) == 0 then (
 bif aq == 0 then (
 Calls Try.prog 11 #[.pointer none, .slice a7 a5 a6] b6 fun n5 js => ∃ (c4 : Int), n5 = .returned (.int .i64 c4) ∧
 bif c4 == 23 then (
 Calls Try.prog 10 #[.pointer none, .slice a7 a5 a6] js fun nf k6 => ∃ (b7 : Int), nf = .returned (.int .i64 b7) ∧
 bif b7 == 23 then (
 Calls Try.prog 15 #[.pointer none] k6 fun ni n4 => ∃ (da : Int), ni = .returned (.int .i64 da) ∧
 Calls Try.prog 16 #[.pointer none] n4 fun nj m5 => ∃ (ft : Int), nj = .returned (.int .i64 ft) ∧
 bif (IntKind.i64.wrap (da + ft)) == 0 then (
 Calls Try.prog 17 #[.pointer none] m5 fun mo j1 => ∃ (cr : Int), mo = .returned (.int .u32 cr) ∧
 bif cr == 0 then (
 bif ao == 23 then (
 Calls Try.prog 6 #[] j1 fun ng mq => ∃ (d5 : Bool), ng = .returned (.bool d5) ∧
 R (.bool d5) mq) else (
 R (.bool false) j1)) else (
 R (.bool false) j1)) else (
 R (.bool false) m5)) else (
 R (.bool false) k6)) else (
 R (.bool false) js)) else (
 R (.bool false) b6)) else (
 bif ae == 0 then (
 bif (a4 : Int) == 1 then (
 au.elim False fun nx =>
 0 ≤ (0 : Int) ∧ (0 : Int) < (a4 : Int) ∧
 ∃ (kt : Option Addr) (k5 : Nat) (ke : Nat), b6.cell? (nx.add (Int.toNat 0 * 1)) = some (.slice kt k5 ke) ∧
 Calls Try.prog 21 #[.slice kt k5 ke, .slice a7 a5 a6] b6 fun mu j0 => ∃ (g5 : Bool), mu = .returned (.bool g5) ∧
 bif g5 then (
 bif aq == 0 then (
 Calls Try.prog 11 #[.pointer none, .slice a7 a5 a6] j0 fun mn m4 => ∃ (ce : Int), mn = .returned (.int .i64 ce) ∧
 bif ce == 23 then (
 Calls Try.prog 10 #[.pointer none, .slice a7 a5 a6] m4 fun ms lh => ∃ (bx : Int), ms = .returned (.int .i64 bx) ∧
 bif bx == 23 then (
 Calls Try.prog 15 #[.pointer none] lh fun nt n0 => ∃ (dl : Int), nt = .returned (.int .i64 dl) ∧
 Calls Try.prog 16 #[.pointer none] n0 fun nc l8 => ∃ (fb : Int), nc = .returned (.int .i64 fb) ∧
 bif (IntKind.i64.wrap (dl + fb)) == 0 then (
 Calls Try.prog 17 #[.pointer none] l8 fun na j2 => ∃ (cn : Int), na = .returned (.int .u32 cn) ∧
 bif cn == 0 then (
 bif ao == 23 then (
 Calls Try.prog 6 #[] j2 fun mm ne => ∃ (dg : Bool), mm = .returned (.bool dg) ∧
 R (.bool dg) ne) else (
 R (.bool false) j2)) else (
 R (.bool false) j2)) else (
 R (.bool false) l8)) else (
 R (.bool false) lh)) else (
 R (.bool false) m4)) else (
 R (.bool false) j0)) else (
 R (.bool false) j0)) else (
 R (.bool false) b6)) else (
 R (.bool false) b6))) else (
 bif ae == 0 then (
 bif (a4 : Int) == 1 then (
 au.elim False fun ny =>
 0 ≤ (0 : Int) ∧ (0 : Int) < (a4 : Int) ∧
 ∃ (l7 : Option Addr) (kp : Nat) (jb : Nat), b6.cell? (ny.add (Int.toNat 0 * 1)) = some (.slice l7 kp jb) ∧
 Calls Try.prog 21 #[.slice l7 kp jb, .slice a7 a5 a6] b6 fun kn g1 => ∃ (dc : Bool), kn = .returned (.bool dc) ∧
 bif dc then (
 bif aq == 0 then (
 Calls Try.prog 11 #[.pointer none, .slice a7 a5 a6] g1 fun m8 ii => ∃ (bm : Int), m8 = .returned (.int .i64 bm) ∧
 bif bm == 23 then (
 Calls Try.prog 10 #[.pointer none, .slice a7 a5 a6] ii fun lo i2 => ∃ (b4 : Int), lo = .returned (.int .i64 b4) ∧
 bif b4 == 23 then (
 Calls Try.prog 15 #[.pointer none] i2 fun jq ks => ∃ (cs : Int), jq = .returned (.int .i64 cs) ∧
 Calls Try.prog 16 #[.pointer none] ks fun ju it => ∃ (dn : Int), ju = .returned (.int .i64 dn) ∧
 bif (IntKind.i64.wrap (cs + dn)) == 0 then (
 Calls Try.prog 17 #[.pointer none] it fun kx gd => ∃ (bl : Int), kx = .returned (.int .u32 bl) ∧
 bif bl == 0 then (
 bif ao == 23 then (
 Calls Try.prog 6 #[] gd fun kg m9 => ∃ (cv : Bool), kg = .returned (.bool cv) ∧
 R (.bool cv) m9) else (
 R (.bool false) gd)) else (
 R (.bool false) gd)) else (
 R (.bool false) it)) else (
 R (.bool false) i2)) else (
 R (.bool false) ii)) else (
 R (.bool false) g1)) else (
 R (.bool false) g1)) else (
 R (.bool false) b6)) else (
 R (.bool false) b6)))))) else (
 Calls Try.prog 20 #[.pointer a3, .slice c0 b2 c1] cy fun lf ki => ∃ (d0 : Int), lf = .returned (.int .i64 d0) ∧
 Calls Try.prog 8 #[.pointer a3] ki fun lr fx => ∃ (cj : Option Addr) (en : Option Addr) (br : Nat) (ed : Nat) (ea : Option Addr) (bz : Nat) (e9 : Nat) (ci : Int), lr = .returned (.tuple #[.pointer cj, .slice en br ed, .slice ea bz e9, .int .i64 ci]) ∧
 bif ci != 0 then (
 R (.bool false) fx) else (
 bif (IntKind.i64.wrap ((br : Int) + (bz : Int))) != 0 then (
 R (.bool false) fx) else (
 Calls Try.prog 11 #[.pointer cj, .slice a7 a5 a6] fx fun ll lb => ∃ (a9 : Int), ll = .returned (.int .i64 a9) ∧
 Calls Try.prog 8 #[.pointer a3] lb fun j9 kv => ∃ (f0 : Option Addr) (eq : Option Addr) (dw : Nat) (ee : Nat) (al : Option Addr) (a1 : Nat) (eh : Nat) (ak : Int), j9 = .returned (.tuple #[.pointer f0, .slice eq dw ee, .slice al a1 eh, .int .i64 ak]) ∧
 Calls Try.prog 8 #[.pointer none] kv fun jn ad => ∃ (f9 : Option Addr) (e5 : Option Addr) (er : Nat) (eo : Nat) (ey : Option Addr) (dv : Nat) (ei : Nat) (ah : Int), jn = .returned (.tuple #[.pointer f9, .slice e5 er eo, .slice ey dv ei, .int .i64 ah]) ∧
 bif a9 == 18 then (
 bif (a1 : Int) == 0 then (
 bif ak == 0 then (
 Calls Try.prog 11 #[.pointer none, .slice a7 a5 a6] ad fun kf i6 => ∃ (bp : Int), kf = .returned (.int .i64 bp) ∧
 bif bp == 23 then (
 Calls Try.prog 10 #[.pointer none, .slice a7 a5 a6] i6 fun ln ih => ∃ (b5 : Int), ln = .returned (.int .i64 b5) ∧
 bif b5 == 23 then (
 Calls Try.prog 15 #[.pointer none] ih fun jt k7 => ∃ (c3 : Int), jt = .returned (.int .i64 c3) ∧
 Calls Try.prog 16 #[.pointer none] k7 fun jg gp => ∃ (d4 : Int), jg = .returned (.int .i64 d4) ∧
 bif (IntKind.i64.wrap (c3 + d4)) == 0 then (
 Calls Try.prog 17 #[.pointer none] gp fun ly fp => ∃ (bt : Int), ly = .returned (.int .u32 bt) ∧
 bif bt == 0 then (
 bif ah == 23 then (
 Calls Try.prog 6 #[] fp fun k2 kk => ∃ (cm : Bool), k2 = .returned (.bool cm) ∧
 R (.bool cm) kk) else (
 R (.bool false) fp)) else (
 R (.bool false) fp)) else (
 R (.bool false) gp)) else (
 R (.bool false) ih)) else (
 R (.bool false) i6)) else (
 R (.bool false) ad)) else (
 bif a9 == 0 then (
 bif (a1 : Int) == 1 then (
 al.elim False fun nm =>
 0 ≤ (0 : Int) ∧ (0 : Int) < (a1 : Int) ∧
 ∃ (gt : Option Addr) (ip : Nat) (gz : Nat), ad.cell? (nm.add (Int.toNat 0 * 1)) = some (.slice gt ip gz) ∧
 Calls Try.prog 21 #[.slice gt ip gz, .slice a7 a5 a6] ad fun ld g6 => ∃ (ds : Bool), ld = .returned (.bool ds) ∧
 bif ds then (
 bif ak == 0 then (
 Calls Try.prog 11 #[.pointer none, .slice a7 a5 a6] g6 fun jf ik => ∃ (bk : Int), jf = .returned (.int .i64 bk) ∧
 bif bk == 23 then (
 Calls Try.prog 10 #[.pointer none, .slice a7 a5 a6] ik fun jm i8 => ∃ (ar : Int), jm = .returned (.int .i64 ar) ∧
 bif ar == 23 then (
 Calls Try.prog 15 #[.pointer none] i8 fun lx j4 => ∃ (cp : Int), lx = .returned (.int .i64 cp) ∧
 Calls Try.prog 16 #[.pointer none] j4 fun lv gv => ∃ (de : Int), lv = .returned (.int .i64 de) ∧
 bif (IntKind.i64.wrap (cp + de)) == 0 then (
 Calls Try.prog 17 #[.pointer none] gv fun j7 fo => ∃ (bb : Int), j7 = .returned (.int .u32 bb) ∧
 bif bb == 0 then (
 bif ah == 23 then (
 Calls Try.prog 6 #[] fo fun kz l4 => ∃ (cu : Bool), kz = .returned (.bool cu) ∧
 R (.bool cu) l4) else (
 R (.bool false) fo)) else (
 R (.bool false) fo)) else (
 R (.bool false) gv)) else (
 R (.bool false) i8)) else (
 R (.bool false) ik)) else (
 R (.bool false) g6)) else (
 R (.bool false) g6)) else (
 R (.bool false) ad)) else (
 R (.bool false) ad))) else (
 bif a9 == 0 then (
 bif (a1 : Int) == 1 then (
 al.elim False fun n6 =>
 0 ≤ (0 : Int) ∧ (0 : Int) < (a1 : Int) ∧
 ∃ (gm : Option Addr) (iv : Nat) (gn : Nat), ad.cell? (n6.add (Int.toNat 0 * 1)) = some (.slice gm iv gn) ∧
 Calls Try.prog 21 #[.slice gm iv gn, .slice a7 a5 a6] ad fun km ge => ∃ (d9 : Bool), km = .returned (.bool d9) ∧
 bif d9 then (
 bif ak == 0 then (
 Calls Try.prog 11 #[.pointer none, .slice a7 a5 a6] ge fun la iu => ∃ (bq : Int), la = .returned (.int .i64 bq) ∧
 bif bq == 23 then (
 Calls Try.prog 10 #[.pointer none, .slice a7 a5 a6] iu fun kr ir => ∃ (b1 : Int), kr = .returned (.int .i64 b1) ∧
 bif b1 == 23 then (
 Calls Try.prog 15 #[.pointer none] ir fun l1 lg => ∃ (ct : Int), l1 = .returned (.int .i64 ct) ∧
 Calls Try.prog 16 #[.pointer none] lg fun lp i4 => ∃ (dd : Int), lp = .returned (.int .i64 dd) ∧
 bif (IntKind.i64.wrap (ct + dd)) == 0 then (
 Calls Try.prog 17 #[.pointer none] i4 fun jo fy => ∃ (bv : Int), jo = .returned (.int .u32 bv) ∧
 bif bv == 0 then (
 bif ah == 23 then (
 Calls Try.prog 6 #[] fy fun kj jv => ∃ (cg : Bool), kj = .returned (.bool cg) ∧
 R (.bool cg) jv) else (
 R (.bool false) fy)) else (
 R (.bool false) fy)) else (
 R (.bool false) i4)) else (
 R (.bool false) ir)) else (
 R (.bool false) iu)) else (
 R (.bool false) ge)) else (
 R (.bool false) ge)) else (
 R (.bool false) ad)) else (
 R (.bool false) ad))))))) else (
 bif decide (av ≥ 2) then (
 bif ap != 0 then (
 R (.bool false) cy) else (
 Calls Try.prog 20 #[.pointer a3, .slice c0 b2 c1] cy fun k9 kw => ∃ (d1 : Int), k9 = .returned (.int .i64 d1) ∧
 Calls Try.prog 8 #[.pointer a3] kw fun m2 f8 => ∃ (ca : Option Addr) (ek : Option Addr) (bu : Nat) (ez : Nat) (ec : Option Addr) (bn : Nat) (e0 : Nat) (cc : Int), m2 = .returned (.tuple #[.pointer ca, .slice ek bu ez, .slice ec bn e0, .int .i64 cc]) ∧
 bif cc != 0 then (
 R (.bool false) f8) else (
 bif (IntKind.i64.wrap ((bu : Int) + (bn : Int))) != 0 then (
 R (.bool false) f8) else (
 Calls Try.prog 11 #[.pointer ca, .slice a7 a5 a6] f8 fun j5 le => ∃ (aa : Int), j5 = .returned (.int .i64 aa) ∧
 Calls Try.prog 8 #[.pointer a3] le fun m3 ls => ∃ (fh : Option Addr) (ef : Option Addr) (el : Nat) (em : Nat) (an : Option Addr) (a2 : Nat) (dt : Nat) (af : Int), m3 = .returned (.tuple #[.pointer fh, .slice ef el em, .slice an a2 dt, .int .i64 af]) ∧
 Calls Try.prog 8 #[.pointer none] ls fun m7 ab => ∃ (f5 : Option Addr) (eg : Option Addr) (es : Nat) (e3 : Nat) (e6 : Option Addr) (ew : Nat) (dy : Nat) (ag : Int), m7 = .returned (.tuple #[.pointer f5, .slice eg es e3, .slice e6 ew dy, .int .i64 ag]) ∧
 bif aa == 18 then (
 bif (a2 : Int) == 0 then (
 bif af == 0 then (
 Calls Try.prog 11 #[.pointer none, .slice a7 a5 a6] ab fun li gq => ∃ (bs : Int), li = .returned (.int .i64 bs) ∧
 bif bs == 23 then (
 Calls Try.prog 10 #[.pointer none, .slice a7 a5 a6] gq fun k3 ig => ∃ (az : Int), k3 = .returned (.int .i64 az) ∧
 bif az == 23 then (
 Calls Try.prog 15 #[.pointer none] ig fun jz l0 => ∃ (ck : Int), jz = .returned (.int .i64 ck) ∧
 Calls Try.prog 16 #[.pointer none] l0 fun mj gx => ∃ (dj : Int), mj = .returned (.int .i64 dj) ∧
 bif (IntKind.i64.wrap (ck + dj)) == 0 then (
 Calls Try.prog 17 #[.pointer none] gx fun me f2 => ∃ (b8 : Int), me = .returned (.int .u32 b8) ∧
 bif b8 == 0 then (
 bif ag == 23 then (
 Calls Try.prog 6 #[] f2 fun l6 k8 => ∃ (ch : Bool), l6 = .returned (.bool ch) ∧
 R (.bool ch) k8) else (
 R (.bool false) f2)) else (
 R (.bool false) f2)) else (
 R (.bool false) gx)) else (
 R (.bool false) ig)) else (
 R (.bool false) gq)) else (
 R (.bool false) ab)) else (
 bif aa == 0 then (
 bif (a2 : Int) == 1 then (
 an.elim False fun mw =>
 0 ≤ (0 : Int) ∧ (0 : Int) < (a2 : Int) ∧
 ∃ (iy : Option Addr) (gl : Nat) (i0 : Nat), ab.cell? (mw.add (Int.toNat 0 * 1)) = some (.slice iy gl i0) ∧
 Calls Try.prog 21 #[.slice iy gl i0, .slice a7 a5 a6] ab fun jj ga => ∃ (di : Bool), jj = .returned (.bool di) ∧
 bif di then (
 bif af == 0 then (
 Calls Try.prog 11 #[.pointer none, .slice a7 a5 a6] ga fun m1 iw => ∃ (bi : Int), m1 = .returned (.int .i64 bi) ∧
 bif bi == 23 then (
 Calls Try.prog 10 #[.pointer none, .slice a7 a5 a6] iw fun jx ic => ∃ (ax : Int), jx = .returned (.int .i64 ax) ∧
 bif ax == 23 then (
 Calls Try.prog 15 #[.pointer none] ic fun ma ku => ∃ (co : Int), ma = .returned (.int .i64 co) ∧
 Calls Try.prog 16 #[.pointer none] ku fun je gu => ∃ (df : Int), je = .returned (.int .i64 df) ∧
 bif (IntKind.i64.wrap (co + df)) == 0 then (
 Calls Try.prog 17 #[.pointer none] gu fun mb gf => ∃ (bg : Int), mb = .returned (.int .u32 bg) ∧
 bif bg == 0 then (
 bif ag == 23 then (
 Calls Try.prog 6 #[] gf fun k4 mh => ∃ (c8 : Bool), k4 = .returned (.bool c8) ∧
 R (.bool c8) mh) else (
 R (.bool false) gf)) else (
 R (.bool false) gf)) else (
 R (.bool false) gu)) else (
 R (.bool false) ic)) else (
 R (.bool false) iw)) else (
 R (.bool false) ga)) else (
 R (.bool false) ga)) else (
 R (.bool false) ab)) else (
 R (.bool false) ab))) else (
 bif aa == 0 then (
 bif (a2 : Int) == 1 then (
 an.elim False fun ml =>
 0 ≤ (0 : Int) ∧ (0 : Int) < (a2 : Int) ∧
 ∃ (ix : Option Addr) (i1 : Nat) (gk : Nat), ab.cell? (ml.add (Int.toNat 0 * 1)) = some (.slice ix i1 gk) ∧
 Calls Try.prog 21 #[.slice ix i1 gk, .slice a7 a5 a6] ab fun ja fv => ∃ (d8 : Bool), ja = .returned (.bool d8) ∧
 bif d8 then (
 bif af == 0 then (
 Calls Try.prog 11 #[.pointer none, .slice a7 a5 a6] fv fun kb gr => ∃ (bd : Int), kb = .returned (.int .i64 bd) ∧
 bif bd == 23 then (
 Calls Try.prog 10 #[.pointer none, .slice a7 a5 a6] gr fun lq ie => ∃ (b3 : Int), lq = .returned (.int .i64 b3) ∧
 bif b3 == 23 then (
 Calls Try.prog 15 #[.pointer none] ie fun mg jp => ∃ (cl : Int), mg = .returned (.int .i64 cl) ∧
 Calls Try.prog 16 #[.pointer none] jp fun mc i3 => ∃ (d2 : Int), mc = .returned (.int .i64 d2) ∧
 bif (IntKind.i64.wrap (cl + d2)) == 0 then (
 Calls Try.prog 17 #[.pointer none] i3 fun j8 g7 => ∃ (be : Int), j8 = .returned (.int .u32 be) ∧
 bif be == 0 then (
 bif ag == 23 then (
 Calls Try.prog 6 #[] g7 fun jy m6 => ∃ (cw : Bool), jy = .returned (.bool cw) ∧
 R (.bool cw) m6) else (
 R (.bool false) g7)) else (
 R (.bool false) g7)) else (
 R (.bool false) i3)) else (
 R (.bool false) ie)) else (
 R (.bool false) gr)) else (
 R (.bool false) fv)) else (
 R (.bool false) fv)) else (
 R (.bool false) ab)) else (
 R (.bool false) ab)))))) else (
 Calls Try.prog 20 #[.pointer a3, .slice c0 b2 c1] cy fun k0 l5 => ∃ (cz : Int), k0 = .returned (.int .i64 cz) ∧
 Calls Try.prog 8 #[.pointer a3] l5 fun lz g8 => ∃ (c7 : Option Addr) (ev : Option Addr) (bj : Nat) (ex : Nat) (dz : Option Addr) (bf : Nat) (ep : Nat) (cx : Int), lz = .returned (.tuple #[.pointer c7, .slice ev bj ex, .slice dz bf ep, .int .i64 cx]) ∧
 bif cx != 0 then (
 R (.bool false) g8) else (
 bif (IntKind.i64.wrap ((bj : Int) + (bf : Int))) != 0 then (
 R (.bool false) g8) else (
 Calls Try.prog 11 #[.pointer c7, .slice a7 a5 a6] g8 fun jc jw => ∃ (a8 : Int), jc = .returned (.int .i64 a8) ∧
 Calls Try.prog 8 #[.pointer a3] jw fun md jh => ∃ (fm : Option Addr) (e2 : Option Addr) (e4 : Nat) (e1 : Nat) (am : Option Addr) (a0 : Nat) (eu : Nat) (aj : Int), md = .returned (.tuple #[.pointer fm, .slice e2 e4 e1, .slice am a0 eu, .int .i64 aj]) ∧
 Calls Try.prog 8 #[.pointer none] jh fun lj ac => ∃ (f7 : Option Addr) (et : Option Addr) (du : Nat) (e7 : Nat) (dx : Option Addr) (e8 : Nat) (eb : Nat) (ai : Int), lj = .returned (.tuple #[.pointer f7, .slice et du e7, .slice dx e8 eb, .int .i64 ai]) ∧
 bif a8 == 18 then (
 bif (a0 : Int) == 0 then (
 bif aj == 0 then (
 Calls Try.prog 11 #[.pointer none, .slice a7 a5 a6] ac fun mk ia => ∃ (bw : Int), mk = .returned (.int .i64 bw) ∧
 bif bw == 23 then (
 Calls Try.prog 10 #[.pointer none, .slice a7 a5 a6] ia fun ji gj => ∃ (aw : Int), ji = .returned (.int .i64 aw) ∧
 bif aw == 23 then (
 Calls Try.prog 15 #[.pointer none] gj fun lw ko => ∃ (cf : Int), lw = .returned (.int .i64 cf) ∧
 Calls Try.prog 16 #[.pointer none] ko fun k1 i7 => ∃ (dh : Int), k1 = .returned (.int .i64 dh) ∧
 bif (IntKind.i64.wrap (cf + dh)) == 0 then (
 Calls Try.prog 17 #[.pointer none] i7 fun l2 fd => ∃ (b9 : Int), l2 = .returned (.int .u32 b9) ∧
 bif b9 == 0 then (
 bif ai == 23 then (
 Calls Try.prog 6 #[] fd fun jk lc => ∃ (cd : Bool), jk = .returned (.bool cd) ∧
 R (.bool cd) lc) else (
 R (.bool false) fd)) else (
 R (.bool false) fd)) else (
 R (.bool false) i7)) else (
 R (.bool false) gj)) else (
 R (.bool false) ia)) else (
 R (.bool false) ac)) else (
 bif a8 == 0 then (
 bif (a0 : Int) == 1 then (
 am.elim False fun n9 =>
 0 ≤ (0 : Int) ∧ (0 : Int) < (a0 : Int) ∧
 ∃ (i5 : Option Addr) (ij : Nat) (gy : Nat), ac.cell? (n9.add (Int.toNat 0 * 1)) = some (.slice i5 ij gy) ∧
 Calls Try.prog 21 #[.slice i5 ij gy, .slice a7 a5 a6] ac fun mf fg => ∃ (d6 : Bool), mf = .returned (.bool d6) ∧
 bif d6 then (
 bif aj == 0 then (
 Calls Try.prog 11 #[.pointer none, .slice a7 a5 a6] fg fun lm iz => ∃ (bc : Int), lm = .returned (.int .i64 bc) ∧
 bif bc == 23 then (
 Calls Try.prog 10 #[.pointer none, .slice a7 a5 a6] iz fun lu gs => ∃ (ay : Int), lu = .returned (.int .i64 ay) ∧
 bif ay == 23 then (
 Calls Try.prog 15 #[.pointer none] gs fun kd jl => ∃ (c6 : Int), kd = .returned (.int .i64 c6) ∧
 Calls Try.prog 16 #[.pointer none] jl fun m0 io => ∃ (dk : Int), m0 = .returned (.int .i64 dk) ∧
 bif (IntKind.i64.wrap (c6 + dk)) == 0 then (
 Calls Try.prog 17 #[.pointer none] io fun lk gc => ∃ (bh : Int), lk = .returned (.int .u32 bh) ∧
 bif bh == 0 then (
 bif ai == 23 then (
 Calls Try.prog 6 #[] gc fun j6 l3 => ∃ (c2 : Bool), j6 = .returned (.bool c2) ∧
 R (.bool c2) l3) else (
 R (.bool false) gc)) else (
 R (.bool false) gc)) else (
 R (.bool false) io)) else (
 R (.bool false) gs)) else (
 R (.bool false) iz)) else (
 R (.bool false) fg)) else (
 R (.bool false) fg)) else (
 R (.bool false) ac)) else (
 R (.bool false) ac))) else (
 bif a8 == 0 then (
 bif (a0 : Int) == 1 then (
 am.elim False fun mp =>
 0 ≤ (0 : Int) ∧ (0 : Int) < (a0 : Int) ∧
 ∃ (i9 : Option Addr) (im : Nat) (gw : Nat), ac.cell? (mp.add (Int.toNat 0 * 1)) = some (.slice i9 im gw) ∧
 Calls Try.prog 21 #[.slice i9 im gw, .slice a7 a5 a6] ac fun mi fs => ∃ (dr : Bool), mi = .returned (.bool dr) ∧
 bif dr then (
 bif aj == 0 then (
 Calls Try.prog 11 #[.pointer none, .slice a7 a5 a6] fs fun kl iq => ∃ (ba : Int), kl = .returned (.int .i64 ba) ∧
 bif ba == 23 then (
 Calls Try.prog 10 #[.pointer none, .slice a7 a5 a6] iq fun kh ib => ∃ (b0 : Int), kh = .returned (.int .i64 b0) ∧
 bif b0 == 23 then (
 Calls Try.prog 15 #[.pointer none] ib fun jd kq => ∃ (cb : Int), jd = .returned (.int .i64 cb) ∧
 Calls Try.prog 16 #[.pointer none] kq fun ky il => ∃ (dp : Int), ky = .returned (.int .i64 dp) ∧
 bif (IntKind.i64.wrap (cb + dp)) == 0 then (
 Calls Try.prog 17 #[.pointer none] il fun l9 ff => ∃ (bo : Int), l9 = .returned (.int .u32 bo) ∧
 bif bo == 0 then (
 bif ai == 23 then (
 Calls Try.prog 6 #[] ff fun lt kc => ∃ (cq : Bool), lt = .returned (.bool cq) ∧
 R (.bool cq) kc) else (
 R (.bool false) ff)) else (
 R (.bool false) ff)) else (
 R (.bool false) il)) else (
 R (.bool false) ib)) else (
 R (.bool false) iq)) else (
 R (.bool false) fs)) else (
 R (.bool false) fs)) else (
 R (.bool false) ac)) else (
 R (.bool false) ac)))))))))))

theorem cachettelaw11_SnapshotFirst.eq (n1 : Int) (armed2 : Int) (keep3a : Option Addr) (keep3n : Nat) (keep3c : Nat) (b4a : Option Addr) (b4n : Nat) (b4c : Nat) (R : Value → World → Prop) (w : World) : mfunc Try.prog [] 4 [.int .i64 n1, .int .i64 armed2, .slice keep3a keep3n keep3c, .slice b4a b4n b4c] R w = cachettelaw11_SnapshotFirst.M n1 armed2 keep3a keep3n keep3c b4a b4n b4c R w := by kernel_rfl
theorem cachettelaw11_SnapshotFirst.ok (n1 : Int) (a2 : Int) (a0 : Option Addr) (a1 : Nat) (a3 : Nat) (a6 : Option Addr) (a4 : Nat) (a5 : Nat) {R : Value → World → Prop} {w : World} (h : cachettelaw11_SnapshotFirst.M n1 a2 a0 a1 a3 a6 a4 a5 R w) : Calls Try.prog 4 #[.int .i64 n1, .int .i64 a2, .slice a0 a1 a3, .slice a6 a4 a5] w fun e w' => ∃ v, e = .returned v ∧ R v w' :=
  mfunc_ok follows (H := []) (args := [.int .i64 n1, .int .i64 a2, .slice a0 a1 a3, .slice a6 a4 a5]) (by rw [cachettelaw11_SnapshotFirst.eq]; exact h)

def cachettelaw11_SnapshotFirst.N (n1 : Int) (a9 : Int) (c3 : Option Addr) (bh : Nat) (c5 : Nat) (bt : Option Addr) (bn : Nat) (bs : Nat) (R : Value → World → Prop) (w : World) : Prop :=
 (n1 < 6 →
 Calls Try.prog 6 #[] w fun ix iw => ∃ (db : Bool), ix = .returned (.bool db) ∧
 R (.bool db) iw) ∧
 ((6 : Int) ≤ n1 →
 (n1 > 60 →
 Calls Try.prog 6 #[] w fun iq ig => ∃ (cc : Bool), iq = .returned (.bool cc) ∧
 R (.bool cc) ig) ∧
 (n1 ≤ 60 →
 (a9 < 0 →
 Calls Try.prog 6 #[] w fun gx i2 => ∃ (ca : Bool), gx = .returned (.bool ca) ∧
 R (.bool ca) i2) ∧
 ((0 : Int) ≤ a9 →
 ((bh : Int) > 60 →
 Calls Try.prog 6 #[] w fun iu i7 => ∃ (ce : Bool), iu = .returned (.bool ce) ∧
 R (.bool ce) i7) ∧
 ((bh : Int) ≤ 60 →
 ((bn : Int) > 40 →
 Calls Try.prog 6 #[] w fun ib gy => ∃ (cd : Bool), ib = .returned (.bool cd) ∧
 R (.bool cd) gy) ∧
 ((bn : Int) ≤ 40 →
 Calls Try.prog 7 #[.int .i64 n1] w fun io i4 => ∃ (aa : Option Addr) (fx : Int), io = .returned (.tuple #[.pointer aa, .int .i64 fx]) ∧
 Calls Try.prog 19 #[.pointer aa, .int .i64 a9] i4 fun i6 i3 => ∃ (f4 : Int), i6 = .returned (.int .i64 f4) ∧
 Calls Try.prog 8 #[.pointer aa] i3 fun ip cw => ∃ (eb : Option Addr) (dv : Option Addr) (e1 : Nat) (da : Nat) (e2 : Option Addr) (du : Nat) (dh : Nat) (b1 : Int), ip = .returned (.tuple #[.pointer eb, .slice dv e1 da, .slice e2 du dh, .int .i64 b1]) ∧
 (a9 < 2 →
 (b1 ≠ 19 →
 R (.bool false) cw) ∧
 (b1 = 19 →
 (a9 ≥ 2 →
 R (.bool false) cw) ∧
 (a9 < 2 →
 Calls Try.prog 20 #[.pointer aa, .slice c3 bh c5] cw fun i5 ir => ∃ (ct : Int), i5 = .returned (.int .i64 ct) ∧
 Calls Try.prog 8 #[.pointer aa] ir fun i9 ex => ∃ (c9 : Option Addr) (dd : Option Addr) (ac : Nat) (d9 : Nat) (dx : Option Addr) (am : Nat) (df : Nat) (bp : Int), i9 = .returned (.tuple #[.pointer c9, .slice dd ac d9, .slice dx am df, .int .i64 bp]) ∧
 (bp ≠ 0 →
 R (.bool false) ex) ∧
 (bp = 0 →
 (-9223372036854775808 : Int) ≤ ((ac : Int) + (am : Int)) ∧ ((ac : Int) + (am : Int)) < 9223372036854775808 ∧
 (((ac : Int) + (am : Int)) ≠ 0 →
 R (.bool false) ex) ∧
 (((ac : Int) + (am : Int)) = 0 →
 Calls Try.prog 11 #[.pointer c9, .slice bt bn bs] ex fun im ie => ∃ (ai : Int), im = .returned (.int .i64 ai) ∧
 Calls Try.prog 8 #[.pointer aa] ie fun ij i8 => ∃ (e9 : Option Addr) (e7 : Option Addr) (dk : Nat) (e0 : Nat) (c0 : Option Addr) (a5 : Nat) (dq : Nat) (az : Int), ij = .returned (.tuple #[.pointer e9, .slice e7 dk e0, .slice c0 a5 dq, .int .i64 az]) ∧
 Calls Try.prog 8 #[.pointer none] i8 fun i0 c6 => ∃ (ea : Option Addr) (dm : Option Addr) (dy : Nat) (dr : Nat) (dw : Option Addr) (dz : Nat) (e6 : Nat) (b2 : Int), i0 = .returned (.tuple #[.pointer ea, .slice dm dy dr, .slice dw dz e6, .int .i64 b2]) ∧
 (ai = 18 →
 ((a5 : Int) = 0 →
 (az = 0 →
 Calls Try.prog 11 #[.pointer none, .slice bt bn bs] c6 fun ia gm => ∃ (be : Int), ia = .returned (.int .i64 be) ∧
 (be = 23 →
 Calls Try.prog 10 #[.pointer none, .slice bt bn bs] gm fun ii gb => ∃ (b9 : Int), ii = .returned (.int .i64 b9) ∧
 (b9 = 23 →
 Calls Try.prog 15 #[.pointer none] gb fun gz ic => ∃ (ax : Int), gz = .returned (.int .i64 ax) ∧
 Calls Try.prog 16 #[.pointer none] ic fun i1 f2 => ∃ (bj : Int), i1 = .returned (.int .i64 bj) ∧
 (-9223372036854775808 : Int) ≤ (ax + bj) ∧ (ax + bj) < 9223372036854775808 ∧
 ((ax + bj) = 0 →
 Calls Try.prog 17 #[.pointer none] f2 fun il ey => ∃ (bg : Int), il = .returned (.int .u32 bg) ∧
 (bg = 0 →
 (b2 = 23 →
 Calls Try.prog 6 #[] ey fun it ik => ∃ (cb : Bool), it = .returned (.bool cb) ∧
 R (.bool cb) ik) ∧
 (b2 ≠ 23 →
 R (.bool false) ey)) ∧
 (bg ≠ 0 →
 R (.bool false) ey)) ∧
 ((ax + bj) ≠ 0 →
 R (.bool false) f2)) ∧
 (b9 ≠ 23 →
 R (.bool false) gb)) ∧
 (be ≠ 23 →
 R (.bool false) gm)) ∧
 (az ≠ 0 →
 R (.bool false) c6)) ∧
 ((a5 : Int) ≠ 0 →
 R (.bool false) c6)) ∧
 (ai ≠ 18 →
 (ai = 0 →
 ((a5 : Int) = 1 →
 ∃ iv : Addr, c0 = some iv ∧
 (0 : Int) < (a5 : Int) ∧
 ∃ (gp : Option Addr) (fa : Nat) (gk : Nat), c6.cell? (iv.add (Int.toNat 0 * 1)) = some (.slice gp fa gk) ∧
 Calls Try.prog 21 #[.slice gp fa gk, .slice bt bn bs] c6 fun ih dl => ∃ (c8 : Bool), ih = .returned (.bool c8) ∧
 (c8 = true →
 (az = 0 →
 Calls Try.prog 11 #[.pointer none, .slice bt bn bs] dl fun g8 eh => ∃ (b5 : Int), g8 = .returned (.int .i64 b5) ∧
 (b5 = 23 →
 Calls Try.prog 10 #[.pointer none, .slice bt bn bs] eh fun gn es => ∃ (an : Int), gn = .returned (.int .i64 an) ∧
 (an = 23 →
 Calls Try.prog 15 #[.pointer none] es fun f5 f6 => ∃ (ad : Int), f5 = .returned (.int .i64 ad) ∧
 Calls Try.prog 16 #[.pointer none] f6 fun gu eo => ∃ (b0 : Int), gu = .returned (.int .i64 b0) ∧
 (-9223372036854775808 : Int) ≤ (ad + b0) ∧ (ad + b0) < 9223372036854775808 ∧
 ((ad + b0) = 0 →
 Calls Try.prog 17 #[.pointer none] eo fun g4 e3 => ∃ (b8 : Int), g4 = .returned (.int .u32 b8) ∧
 (b8 = 0 →
 (b2 = 23 →
 Calls Try.prog 6 #[] e3 fun fw ez => ∃ (c1 : Bool), fw = .returned (.bool c1) ∧
 R (.bool c1) ez) ∧
 (b2 ≠ 23 →
 R (.bool false) e3)) ∧
 (b8 ≠ 0 →
 R (.bool false) e3)) ∧
 ((ad + b0) ≠ 0 →
 R (.bool false) eo)) ∧
 (an ≠ 23 →
 R (.bool false) es)) ∧
 (b5 ≠ 23 →
 R (.bool false) eh)) ∧
 (az ≠ 0 →
 R (.bool false) dl)) ∧
 (c8 = false →
 R (.bool false) dl)) ∧
 ((a5 : Int) ≠ 1 →
 R (.bool false) c6)) ∧
 (ai ≠ 0 →
 R (.bool false) c6))))))) ∧
 ((2 : Int) ≤ a9 →
 (a9 ≥ 2 →
 (b1 ≠ 0 →
 R (.bool false) cw) ∧
 (b1 = 0 →
 Calls Try.prog 20 #[.pointer aa, .slice c3 bh c5] cw fun fv fi => ∃ (c7 : Int), fv = .returned (.int .i64 c7) ∧
 Calls Try.prog 8 #[.pointer aa] fi fun g7 dc => ∃ (bz : Option Addr) (cs : Option Addr) (a2 : Nat) (cn : Nat) (d0 : Option Addr) (a7 : Nat) (ck : Nat) (bk : Int), g7 = .returned (.tuple #[.pointer bz, .slice cs a2 cn, .slice d0 a7 ck, .int .i64 bk]) ∧
 (bk ≠ 0 →
 R (.bool false) dc) ∧
 (bk = 0 →
 (-9223372036854775808 : Int) ≤ ((a2 : Int) + (a7 : Int)) ∧ ((a2 : Int) + (a7 : Int)) < 9223372036854775808 ∧
 (((a2 : Int) + (a7 : Int)) ≠ 0 →
 R (.bool false) dc) ∧
 (((a2 : Int) + (a7 : Int)) = 0 →
 Calls Try.prog 11 #[.pointer bz, .slice bt bn bs] dc fun gs ft => ∃ (a6 : Int), gs = .returned (.int .i64 a6) ∧
 Calls Try.prog 8 #[.pointer aa] ft fun fy g9 => ∃ (dt : Option Addr) (ch : Option Addr) (d4 : Nat) (d6 : Nat) (bo : Option Addr) (a0 : Nat) (cq : Nat) (ab : Int), fy = .returned (.tuple #[.pointer dt, .slice ch d4 d6, .slice bo a0 cq, .int .i64 ab]) ∧
 Calls Try.prog 8 #[.pointer none] g9 fun gi bf => ∃ (de : Option Addr) (cv : Option Addr) (ci : Nat) (cj : Nat) (cy : Option Addr) (cx : Nat) (d2 : Nat) (aj : Int), gi = .returned (.tuple #[.pointer de, .slice cv ci cj, .slice cy cx d2, .int .i64 aj]) ∧
 (a6 = 18 →
 ((a0 : Int) = 0 →
 (ab = 0 →
 Calls Try.prog 11 #[.pointer none, .slice bt bn bs] bf fun fh ed => ∃ (ba : Int), fh = .returned (.int .i64 ba) ∧
 (ba = 23 →
 Calls Try.prog 10 #[.pointer none, .slice bt bn bs] ed fun fp em => ∃ (ao : Int), fp = .returned (.int .i64 ao) ∧
 (ao = 23 →
 Calls Try.prog 15 #[.pointer none] em fun ga f0 => ∃ (ag : Int), ga = .returned (.int .i64 ag) ∧
 Calls Try.prog 16 #[.pointer none] f0 fun fz ep => ∃ (aw : Int), fz = .returned (.int .i64 aw) ∧
 (-9223372036854775808 : Int) ≤ (ag + aw) ∧ (ag + aw) < 9223372036854775808 ∧
 ((ag + aw) = 0 →
 Calls Try.prog 17 #[.pointer none] ep fun gc di => ∃ (b4 : Int), gc = .returned (.int .u32 b4) ∧
 (b4 = 0 →
 (aj = 23 →
 Calls Try.prog 6 #[] di fun fc gt => ∃ (c2 : Bool), fc = .returned (.bool c2) ∧
 R (.bool c2) gt) ∧
 (aj ≠ 23 →
 R (.bool false) di)) ∧
 (b4 ≠ 0 →
 R (.bool false) di)) ∧
 ((ag + aw) ≠ 0 →
 R (.bool false) ep)) ∧
 (ao ≠ 23 →
 R (.bool false) em)) ∧
 (ba ≠ 23 →
 R (.bool false) ed)) ∧
 (ab ≠ 0 →
 R (.bool false) bf)) ∧
 ((a0 : Int) ≠ 0 →
 R (.bool false) bf)) ∧
 (a6 ≠ 18 →
 (a6 = 0 →
 ((a0 : Int) = 1 →
 ∃ f7 : Addr, bo = some f7 ∧
 (0 : Int) < (a0 : Int) ∧
 ∃ (et : Option Addr) (eu : Nat) (er : Nat), bf.cell? (f7.add (Int.toNat 0 * 1)) = some (.slice et eu er) ∧
 Calls Try.prog 21 #[.slice et eu er, .slice bt bn bs] bf fun fo dg => ∃ (br : Bool), fo = .returned (.bool br) ∧
 (br = true →
 (ab = 0 →
 Calls Try.prog 11 #[.pointer none, .slice bt bn bs] dg fun gd ec => ∃ (bc : Int), gd = .returned (.int .i64 bc) ∧
 (bc = 23 →
 Calls Try.prog 10 #[.pointer none, .slice bt bn bs] ec fun gh ej => ∃ (ap : Int), gh = .returned (.int .i64 ap) ∧
 (ap = 23 →
 Calls Try.prog 15 #[.pointer none] ej fun gj gg => ∃ (ah : Int), gj = .returned (.int .i64 ah) ∧
 Calls Try.prog 16 #[.pointer none] gg fun g1 en => ∃ (au : Int), g1 = .returned (.int .i64 au) ∧
 (-9223372036854775808 : Int) ≤ (ah + au) ∧ (ah + au) < 9223372036854775808 ∧
 ((ah + au) = 0 →
 Calls Try.prog 17 #[.pointer none] en fun gq dp => ∃ (b7 : Int), gq = .returned (.int .u32 b7) ∧
 (b7 = 0 →
 (aj = 23 →
 Calls Try.prog 6 #[] dp fun fq g5 => ∃ (bu : Bool), fq = .returned (.bool bu) ∧
 R (.bool bu) g5) ∧
 (aj ≠ 23 →
 R (.bool false) dp)) ∧
 (b7 ≠ 0 →
 R (.bool false) dp)) ∧
 ((ah + au) ≠ 0 →
 R (.bool false) en)) ∧
 (ap ≠ 23 →
 R (.bool false) ej)) ∧
 (bc ≠ 23 →
 R (.bool false) ec)) ∧
 (ab ≠ 0 →
 R (.bool false) dg)) ∧
 (br = false →
 R (.bool false) dg)) ∧
 ((a0 : Int) ≠ 1 →
 R (.bool false) bf)) ∧
 (a6 ≠ 0 →
 R (.bool false) bf)))))) ∧
 (a9 < 2 →
 Calls Try.prog 20 #[.pointer aa, .slice c3 bh c5] cw fun fr g3 => ∃ (c4 : Int), fr = .returned (.int .i64 c4) ∧
 Calls Try.prog 8 #[.pointer aa] g3 fun fe e5 => ∃ (bv : Option Addr) (d5 : Option Addr) (a8 : Nat) (cf : Nat) (cm : Option Addr) (a3 : Nat) (cp : Nat) (bl : Int), fe = .returned (.tuple #[.pointer bv, .slice d5 a8 cf, .slice cm a3 cp, .int .i64 bl]) ∧
 (bl ≠ 0 →
 R (.bool false) e5) ∧
 (bl = 0 →
 (-9223372036854775808 : Int) ≤ ((a8 : Int) + (a3 : Int)) ∧ ((a8 : Int) + (a3 : Int)) < 9223372036854775808 ∧
 (((a8 : Int) + (a3 : Int)) ≠ 0 →
 R (.bool false) e5) ∧
 (((a8 : Int) + (a3 : Int)) = 0 →
 Calls Try.prog 11 #[.pointer bv, .slice bt bn bs] e5 fun fu f9 => ∃ (a4 : Int), fu = .returned (.int .i64 a4) ∧
 Calls Try.prog 8 #[.pointer aa] f9 fun g6 gf => ∃ (dn : Option Addr) (cg : Option Addr) (co : Nat) (cl : Nat) (bm : Option Addr) (a1 : Nat) (cr : Nat) (ae : Int), g6 = .returned (.tuple #[.pointer dn, .slice cg co cl, .slice bm a1 cr, .int .i64 ae]) ∧
 Calls Try.prog 8 #[.pointer none] gf fun f8 bi => ∃ (e4 : Option Addr) (cu : Option Addr) (d3 : Nat) (d8 : Nat) (d7 : Option Addr) (cz : Nat) (d1 : Nat) (al : Int), f8 = .returned (.tuple #[.pointer e4, .slice cu d3 d8, .slice d7 cz d1, .int .i64 al]) ∧
 (a4 = 18 →
 ((a1 : Int) = 0 →
 (ae = 0 →
 Calls Try.prog 11 #[.pointer none, .slice bt bn bs] bi fun gv ee => ∃ (bb : Int), gv = .returned (.int .i64 bb) ∧
 (bb = 23 →
 Calls Try.prog 10 #[.pointer none, .slice bt bn bs] ee fun fd ev => ∃ (ar : Int), fd = .returned (.int .i64 ar) ∧
 (ar = 23 →
 Calls Try.prog 15 #[.pointer none] ev fun gw fj => ∃ (ak : Int), gw = .returned (.int .i64 ak) ∧
 Calls Try.prog 16 #[.pointer none] fj fun g2 ef => ∃ (ay : Int), g2 = .returned (.int .i64 ay) ∧
 (-9223372036854775808 : Int) ≤ (ak + ay) ∧ (ak + ay) < 9223372036854775808 ∧
 ((ak + ay) = 0 →
 Calls Try.prog 17 #[.pointer none] ef fun fb e8 => ∃ (bd : Int), fb = .returned (.int .u32 bd) ∧
 (bd = 0 →
 (al = 23 →
 Calls Try.prog 6 #[] e8 fun ge gr => ∃ (bx : Bool), ge = .returned (.bool bx) ∧
 R (.bool bx) gr) ∧
 (al ≠ 23 →
 R (.bool false) e8)) ∧
 (bd ≠ 0 →
 R (.bool false) e8)) ∧
 ((ak + ay) ≠ 0 →
 R (.bool false) ef)) ∧
 (ar ≠ 23 →
 R (.bool false) ev)) ∧
 (bb ≠ 23 →
 R (.bool false) ee)) ∧
 (ae ≠ 0 →
 R (.bool false) bi)) ∧
 ((a1 : Int) ≠ 0 →
 R (.bool false) bi)) ∧
 (a4 ≠ 18 →
 (a4 = 0 →
 ((a1 : Int) = 1 →
 ∃ g0 : Addr, bm = some g0 ∧
 (0 : Int) < (a1 : Int) ∧
 ∃ (eq : Option Addr) (ek : Nat) (ei : Nat), bi.cell? (g0.add (Int.toNat 0 * 1)) = some (.slice eq ek ei) ∧
 Calls Try.prog 21 #[.slice eq ek ei, .slice bt bn bs] bi fun ff ds => ∃ (bq : Bool), ff = .returned (.bool bq) ∧
 (bq = true →
 (ae = 0 →
 Calls Try.prog 11 #[.pointer none, .slice bt bn bs] ds fun fm el => ∃ (b3 : Int), fm = .returned (.int .i64 b3) ∧
 (b3 = 23 →
 Calls Try.prog 10 #[.pointer none, .slice bt bn bs] el fun fs eg => ∃ (aq : Int), fs = .returned (.int .i64 aq) ∧
 (aq = 23 →
 Calls Try.prog 15 #[.pointer none] eg fun f1 fk => ∃ (af : Int), f1 = .returned (.int .i64 af) ∧
 Calls Try.prog 16 #[.pointer none] fk fun fg ew => ∃ (av : Int), fg = .returned (.int .i64 av) ∧
 (-9223372036854775808 : Int) ≤ (af + av) ∧ (af + av) < 9223372036854775808 ∧
 ((af + av) = 0 →
 Calls Try.prog 17 #[.pointer none] ew fun f3 dj => ∃ (b6 : Int), f3 = .returned (.int .u32 b6) ∧
 (b6 = 0 →
 (al = 23 →
 Calls Try.prog 6 #[] dj fun gl fl => ∃ (bw : Bool), gl = .returned (.bool bw) ∧
 R (.bool bw) fl) ∧
 (al ≠ 23 →
 R (.bool false) dj)) ∧
 (b6 ≠ 0 →
 R (.bool false) dj)) ∧
 ((af + av) ≠ 0 →
 R (.bool false) ew)) ∧
 (aq ≠ 23 →
 R (.bool false) eg)) ∧
 (b3 ≠ 23 →
 R (.bool false) el)) ∧
 (ae ≠ 0 →
 R (.bool false) ds)) ∧
 (bq = false →
 R (.bool false) ds)) ∧
 ((a1 : Int) ≠ 1 →
 R (.bool false) bi)) ∧
 (a4 ≠ 0 →
 R (.bool false) bi)))))))))))

theorem cachettelaw11_SnapshotFirst.up (n1 : Int) (bu : Int) (ci : Option Addr) (cl : Nat) (co : Nat) (ie : Option Addr) (gn : Nat) (i3 : Nat) {R : Value → World → Prop} {w : World} (h : cachettelaw11_SnapshotFirst.N n1 bu ci cl co ie gn i3 R w) : cachettelaw11_SnapshotFirst.M n1 bu ci cl co ie gn i3 R w := by
  unfold cachettelaw11_SnapshotFirst.M
  unfold cachettelaw11_SnapshotFirst.N at h
  refine bif_of (fun c5 => ?_) (fun c5 => ?_)
  · have h := h.1 (of_decide_eq_true c5)
    refine h.mono fun l0 kz h => ?_
    obtain ⟨e8, he, h⟩ := h
    refine ⟨e8, he, ?_⟩
    exact h
  · have h := h.2 (Int.not_lt.1 (of_decide_eq_false c5))
    refine bif_of (fun c9 => ?_) (fun c9 => ?_)
    · have h := h.1 (of_decide_eq_true c9)
      refine h.mono fun ko kw h => ?_
      obtain ⟨dq, he, h⟩ := h
      refine ⟨dq, he, ?_⟩
      exact h
    · have h := h.2 (Int.not_lt.1 (of_decide_eq_false c9))
      refine bif_of (fun ga => ?_) (fun ga => ?_)
      · have h := h.1 (of_decide_eq_true ga)
        refine h.mono fun k4 kq h => ?_
        obtain ⟨ds, he, h⟩ := h
        refine ⟨ds, he, ?_⟩
        exact h
      · have h := h.2 (Int.not_lt.1 (of_decide_eq_false ga))
        refine bif_of (fun ft => ?_) (fun ft => ?_)
        · have h := h.1 (of_decide_eq_true ft)
          refine h.mono fun kh kj h => ?_
          obtain ⟨dh, he, h⟩ := h
          refine ⟨dh, he, ?_⟩
          exact h
        · have h := h.2 (Int.not_lt.1 (of_decide_eq_false ft))
          refine bif_of (fun g8 => ?_) (fun g8 => ?_)
          · have h := h.1 (of_decide_eq_true g8)
            refine h.mono fun ku ki h => ?_
            obtain ⟨dr, he, h⟩ := h
            refine ⟨dr, he, ?_⟩
            exact h
          · have h := h.2 (Int.not_lt.1 (of_decide_eq_false g8))
            refine h.mono fun kd k8 h => ?_
            obtain ⟨fd, fc, he, h⟩ := h
            refine ⟨fd, fc, he, ?_⟩
            refine h.mono fun ks kr h => ?_
            obtain ⟨f9, he, h⟩ := h
            refine ⟨f9, he, ?_⟩
            refine h.mono fun ke k2 h => ?_
            obtain ⟨du, ct, cx, bp, bw, cc, c8, dw, he, h⟩ := h
            refine ⟨du, ct, cx, bp, bw, cc, c8, dw, he, ?_⟩
            refine bif_of (fun fz => ?_) (fun fz => ?_)
            · have h := h.1 (of_decide_eq_true fz)
              refine bif_of (fun fp => ?_) (fun fp => ?_)
              · have h := h.1 (bne_t fp)
                exact h
              · have h := h.2 (bne_f fp)
                refine bif_of (fun fw => ?_) (fun fw => ?_)
                · have h := h.1 (of_decide_eq_true fw)
                  refine bif_tt (cong1 (r := true) (fun z => z != 0) (bne_f fp) (by decide)) ?_
                  exact h
                · have h := h.2 (Int.not_le.1 (of_decide_eq_false fw))
                  refine h.mono fun jy kf h => ?_
                  obtain ⟨b6, he, h⟩ := h
                  refine ⟨b6, he, ?_⟩
                  refine h.mono fun jz jx h => ?_
                  obtain ⟨dk, c1, cb, c0, cd, cg, c6, dc, he, h⟩ := h
                  refine ⟨dk, c1, cb, c0, cd, cg, c6, dc, he, ?_⟩
                  refine bif_of (fun fx => ?_) (fun fx => ?_)
                  · have h := h.1 (bne_t fx)
                    exact h
                  · have h := h.2 (bne_f fx)
                    obtain ⟨a1, a0, h⟩ := h
                    try rw [w64 a1 a0]
                    refine bif_of (fun fr => ?_) (fun fr => ?_)
                    · have h := h.1 (bne_t fr)
                      exact h
                    · have h := h.2 (bne_f fr)
                      refine h.mono fun kc k9 h => ?_
                      obtain ⟨bt, he, h⟩ := h
                      refine ⟨bt, he, ?_⟩
                      refine h.mono fun k1 kt h => ?_
                      obtain ⟨dl, bz, d3, cw, cf, bx, d4, dv, he, h⟩ := h
                      refine ⟨dl, bz, d3, cw, cf, bx, d4, dv, he, ?_⟩
                      refine h.mono fun k6 ky h => ?_
                      obtain ⟨dm, ca, cu, bs, bv, d6, d1, dj, he, h⟩ := h
                      refine ⟨dm, ca, cu, bs, bv, d6, d1, dj, he, ?_⟩
                      refine bif_of (fun fo => ?_) (fun fo => ?_)
                      · have h := h.1 (beq_t fo)
                        refine bif_of (fun g5 => ?_) (fun g5 => ?_)
                        · have h := h.1 (beq_t g5)
                          refine bif_of (fun fs => ?_) (fun fs => ?_)
                          · have h := h.1 (beq_t fs)
                            refine h.mono fun kk k3 h => ?_
                            obtain ⟨c3, he, h⟩ := h
                            refine ⟨c3, he, ?_⟩
                            refine bif_of (fun g1 => ?_) (fun g1 => ?_)
                            · have h := h.1 (beq_t g1)
                              refine h.mono fun kn ka h => ?_
                              obtain ⟨bi, he, h⟩ := h
                              refine ⟨bi, he, ?_⟩
                              refine bif_of (fun fu => ?_) (fun fu => ?_)
                              · have h := h.1 (beq_t fu)
                                refine h.mono fun k5 kv h => ?_
                                obtain ⟨dp, he, h⟩ := h
                                refine ⟨dp, he, ?_⟩
                                refine h.mono fun jw k7 h => ?_
                                obtain ⟨eo, he, h⟩ := h
                                refine ⟨eo, he, ?_⟩
                                obtain ⟨a1, a0, h⟩ := h
                                try rw [w64 a1 a0]
                                refine bif_of (fun g2 => ?_) (fun g2 => ?_)
                                · have h := h.1 (beq_t g2)
                                  refine h.mono fun kb km h => ?_
                                  obtain ⟨ck, he, h⟩ := h
                                  refine ⟨ck, he, ?_⟩
                                  refine bif_of (fun g6 => ?_) (fun g6 => ?_)
                                  · have h := h.1 (beq_t g6)
                                    refine bif_of (fun fy => ?_) (fun fy => ?_)
                                    · have h := h.1 (beq_t fy)
                                      refine h.mono fun kg kx h => ?_
                                      obtain ⟨df, he, h⟩ := h
                                      refine ⟨df, he, ?_⟩
                                      exact h
                                    · have h := h.2 (beq_f fy)
                                      exact h
                                  · have h := h.2 (beq_f g6)
                                    exact h
                                · have h := h.2 (beq_f g2)
                                  exact h
                              · have h := h.2 (beq_f fu)
                                exact h
                            · have h := h.2 (beq_f g1)
                              exact h
                          · have h := h.2 (beq_f fs)
                            exact h
                        · have h := h.2 (beq_f g5)
                          refine bif_ff (cong1 (r := false) (fun z => z == 0) (beq_t fo) (by decide)) ?_
                          exact h
                      · have h := h.2 (beq_f fo)
                        refine bif_of (fun g0 => ?_) (fun g0 => ?_)
                        · have h := h.1 (beq_t g0)
                          refine bif_of (fun fq => ?_) (fun fq => ?_)
                          · have h := h.1 (beq_t fq)
                            obtain ⟨l1, fv, h⟩ := h
                            refine elim_some fv ?_
                            obtain ⟨fg, h⟩ := h
                            refine ⟨by decide, fg, ?_⟩
                            obtain ⟨g9, g3, g7, g4, h⟩ := h
                            refine ⟨g9, g3, g7, g4, ?_⟩
                            refine h.mono fun k0 i5 h => ?_
                            obtain ⟨ew, he, h⟩ := h
                            refine ⟨ew, he, ?_⟩
                            refine bif_of (fun ej => ?_) (fun ej => ?_)
                            · have h := h.1 ej
                              refine bif_of (fun eh => ?_) (fun eh => ?_)
                              · have h := h.1 (beq_t eh)
                                refine h.mono fun jr j0 h => ?_
                                obtain ⟨b5, he, h⟩ := h
                                refine ⟨b5, he, ?_⟩
                                refine bif_of (fun eb => ?_) (fun eb => ?_)
                                · have h := h.1 (beq_t eb)
                                  refine h.mono fun io gt h => ?_
                                  obtain ⟨a2, he, h⟩ := h
                                  refine ⟨a2, he, ?_⟩
                                  refine bif_of (fun f1 => ?_) (fun f1 => ?_)
                                  · have h := h.1 (beq_t f1)
                                    refine h.mono fun iv gb h => ?_
                                    obtain ⟨cm, he, h⟩ := h
                                    refine ⟨cm, he, ?_⟩
                                    refine h.mono fun gx jo h => ?_
                                    obtain ⟨di, he, h⟩ := h
                                    refine ⟨di, he, ?_⟩
                                    obtain ⟨a1, a0, h⟩ := h
                                    try rw [w64 a1 a0]
                                    refine bif_of (fun ec => ?_) (fun ec => ?_)
                                    · have h := h.1 (beq_t ec)
                                      refine h.mono fun ih js h => ?_
                                      obtain ⟨b7, he, h⟩ := h
                                      refine ⟨b7, he, ?_⟩
                                      refine bif_of (fun et => ?_) (fun et => ?_)
                                      · have h := h.1 (beq_t et)
                                        refine bif_of (fun ep => ?_) (fun ep => ?_)
                                        · have h := h.1 (beq_t ep)
                                          refine h.mono fun jp jb h => ?_
                                          obtain ⟨d0, he, h⟩ := h
                                          refine ⟨d0, he, ?_⟩
                                          exact h
                                        · have h := h.2 (beq_f ep)
                                          exact h
                                      · have h := h.2 (beq_f et)
                                        exact h
                                    · have h := h.2 (beq_f ec)
                                      exact h
                                  · have h := h.2 (beq_f f1)
                                    exact h
                                · have h := h.2 (beq_f eb)
                                  exact h
                              · have h := h.2 (beq_f eh)
                                exact h
                            · have h := h.2 ej
                              exact h
                          · have h := h.2 (beq_f fq)
                            exact h
                        · have h := h.2 (beq_f g0)
                          exact h
            · have h := h.2 (Int.not_lt.1 (of_decide_eq_false fz))
              refine bif_of (fun dx => ?_) (fun dx => ?_)
              · have h := h.1 (of_decide_eq_true dx)
                refine bif_of (fun ez => ?_) (fun ez => ?_)
                · have h := h.1 (bne_t ez)
                  exact h
                · have h := h.2 (bne_f ez)
                  refine h.mono fun gk i7 h => ?_
                  obtain ⟨a5, he, h⟩ := h
                  refine ⟨a5, he, ?_⟩
                  refine h.mono fun j7 i0 h => ?_
                  obtain ⟨d8, be, ao, a9, ag, bm, ap, d5, he, h⟩ := h
                  refine ⟨d8, be, ao, a9, ag, bm, ap, d5, he, ?_⟩
                  refine bif_of (fun e2 => ?_) (fun e2 => ?_)
                  · have h := h.1 (bne_t e2)
                    exact h
                  · have h := h.2 (bne_f e2)
                    obtain ⟨a1, a0, h⟩ := h
                    try rw [w64 a1 a0]
                    refine bif_of (fun f0 => ?_) (fun f0 => ?_)
                    · have h := h.1 (bne_t f0)
                      exact h
                    · have h := h.2 (bne_f f0)
                      refine h.mono fun iq gj h => ?_
                      obtain ⟨bk, he, h⟩ := h
                      refine ⟨bk, he, ?_⟩
                      refine h.mono fun ig ij h => ?_
                      obtain ⟨cs, al, bn, az, bj, an, b4, cj, he, h⟩ := h
                      refine ⟨cs, al, bn, az, bj, an, b4, cj, he, ?_⟩
                      refine h.mono fun gs i4 h => ?_
                      obtain ⟨c4, ad, am, bb, af, ae, ax, cr, he, h⟩ := h
                      refine ⟨c4, ad, am, bb, af, ae, ax, cr, he, ?_⟩
                      refine bif_of (fun dt => ?_) (fun dt => ?_)
                      · have h := h.1 (beq_t dt)
                        refine bif_of (fun er => ?_) (fun er => ?_)
                        · have h := h.1 (beq_t er)
                          refine bif_of (fun dy => ?_) (fun dy => ?_)
                          · have h := h.1 (beq_t dy)
                            refine h.mono fun jg iw h => ?_
                            obtain ⟨ac, he, h⟩ := h
                            refine ⟨ac, he, ?_⟩
                            refine bif_of (fun e6 => ?_) (fun e6 => ?_)
                            · have h := h.1 (beq_t e6)
                              refine h.mono fun ia jl h => ?_
                              obtain ⟨a7, he, h⟩ := h
                              refine ⟨a7, he, ?_⟩
                              refine bif_of (fun e3 => ?_) (fun e3 => ?_)
                              · have h := h.1 (beq_t e3)
                                refine h.mono fun j8 jc h => ?_
                                obtain ⟨cp, he, h⟩ := h
                                refine ⟨cp, he, ?_⟩
                                refine h.mono fun gl j6 h => ?_
                                obtain ⟨dn, he, h⟩ := h
                                refine ⟨dn, he, ?_⟩
                                obtain ⟨a1, a0, h⟩ := h
                                try rw [w64 a1 a0]
                                refine bif_of (fun dz => ?_) (fun dz => ?_)
                                · have h := h.1 (beq_t dz)
                                  refine h.mono fun gp ge h => ?_
                                  obtain ⟨ar, he, h⟩ := h
                                  refine ⟨ar, he, ?_⟩
                                  refine bif_of (fun e4 => ?_) (fun e4 => ?_)
                                  · have h := h.1 (beq_t e4)
                                    refine bif_of (fun el => ?_) (fun el => ?_)
                                    · have h := h.1 (beq_t el)
                                      refine h.mono fun je gv h => ?_
                                      obtain ⟨ch, he, h⟩ := h
                                      refine ⟨ch, he, ?_⟩
                                      exact h
                                    · have h := h.2 (beq_f el)
                                      exact h
                                  · have h := h.2 (beq_f e4)
                                    exact h
                                · have h := h.2 (beq_f dz)
                                  exact h
                              · have h := h.2 (beq_f e3)
                                exact h
                            · have h := h.2 (beq_f e6)
                              exact h
                          · have h := h.2 (beq_f dy)
                            exact h
                        · have h := h.2 (beq_f er)
                          refine bif_ff (cong1 (r := false) (fun z => z == 0) (beq_t dt) (by decide)) ?_
                          exact h
                      · have h := h.2 (beq_f dt)
                        refine bif_of (fun ea => ?_) (fun ea => ?_)
                        · have h := h.1 (beq_t ea)
                          refine bif_of (fun eg => ?_) (fun eg => ?_)
                          · have h := h.1 (beq_t eg)
                            obtain ⟨kp, fi, h⟩ := h
                            refine elim_some fi ?_
                            obtain ⟨fg, h⟩ := h
                            refine ⟨by decide, fg, ?_⟩
                            obtain ⟨fk, fh, fj, fm, h⟩ := h
                            refine ⟨fk, fh, fj, fm, ?_⟩
                            refine h.mono fun j2 gc h => ?_
                            obtain ⟨de, he, h⟩ := h
                            refine ⟨de, he, ?_⟩
                            refine bif_of (fun eq => ?_) (fun eq => ?_)
                            · have h := h.1 eq
                              refine bif_of (fun ey => ?_) (fun ey => ?_)
                              · have h := h.1 (beq_t ey)
                                refine h.mono fun gq gz h => ?_
                                obtain ⟨ai, he, h⟩ := h
                                refine ⟨ai, he, ?_⟩
                                refine bif_of (fun e1 => ?_) (fun e1 => ?_)
                                · have h := h.1 (beq_t e1)
                                  refine h.mono fun il jj h => ?_
                                  obtain ⟨a4, he, h⟩ := h
                                  refine ⟨a4, he, ?_⟩
                                  refine bif_of (fun ek => ?_) (fun ek => ?_)
                                  · have h := h.1 (beq_t ek)
                                    refine h.mono fun im ik h => ?_
                                    obtain ⟨cq, he, h⟩ := h
                                    refine ⟨cq, he, ?_⟩
                                    refine h.mono fun j4 jm h => ?_
                                    obtain ⟨db, he, h⟩ := h
                                    refine ⟨db, he, ?_⟩
                                    obtain ⟨a1, a0, h⟩ := h
                                    try rw [w64 a1 a0]
                                    refine bif_of (fun e5 => ?_) (fun e5 => ?_)
                                    · have h := h.1 (beq_t e5)
                                      refine h.mono fun ja i8 h => ?_
                                      obtain ⟨bh, he, h⟩ := h
                                      refine ⟨bh, he, ?_⟩
                                      refine bif_of (fun ed => ?_) (fun ed => ?_)
                                      · have h := h.1 (beq_t ed)
                                        refine bif_of (fun es => ?_) (fun es => ?_)
                                        · have h := h.1 (beq_t es)
                                          refine h.mono fun jk ii h => ?_
                                          obtain ⟨d2, he, h⟩ := h
                                          refine ⟨d2, he, ?_⟩
                                          exact h
                                        · have h := h.2 (beq_f es)
                                          exact h
                                      · have h := h.2 (beq_f ed)
                                        exact h
                                    · have h := h.2 (beq_f e5)
                                      exact h
                                  · have h := h.2 (beq_f ek)
                                    exact h
                                · have h := h.2 (beq_f e1)
                                  exact h
                              · have h := h.2 (beq_f ey)
                                exact h
                            · have h := h.2 eq
                              exact h
                          · have h := h.2 (beq_f eg)
                            exact h
                        · have h := h.2 (beq_f ea)
                          exact h
              · have h := h.2 (Int.not_le.1 (of_decide_eq_false dx))
                refine h.mono fun gi j5 h => ?_
                obtain ⟨a8, he, h⟩ := h
                refine ⟨a8, he, ?_⟩
                refine h.mono fun gf ju h => ?_
                obtain ⟨c2, aj, ba, b2, bc, b3, au, d7, he, h⟩ := h
                refine ⟨c2, aj, ba, b2, bc, b3, au, d7, he, ?_⟩
                refine bif_of (fun eu => ?_) (fun eu => ?_)
                · have h := h.1 (bne_t eu)
                  exact h
                · have h := h.2 (bne_f eu)
                  obtain ⟨a1, a0, h⟩ := h
                  try rw [w64 a1 a0]
                  refine bif_of (fun e0 => ?_) (fun e0 => ?_)
                  · have h := h.1 (bne_t e0)
                    exact h
                  · have h := h.2 (bne_f e0)
                    refine h.mono fun jn jd h => ?_
                    obtain ⟨bg, he, h⟩ := h
                    refine ⟨bg, he, ?_⟩
                    refine h.mono fun jq gr h => ?_
                    obtain ⟨bq, b1, bd, aq, av, bl, aa, cn, he, h⟩ := h
                    refine ⟨bq, b1, bd, aq, av, bl, aa, cn, he, ?_⟩
                    refine h.mono fun i1 iy h => ?_
                    obtain ⟨cz, ab, ay, bo, b9, aw, ah, cy, he, h⟩ := h
                    refine ⟨cz, ab, ay, bo, b9, aw, ah, cy, he, ?_⟩
                    refine bif_of (fun da => ?_) (fun da => ?_)
                    · have h := h.1 (beq_t da)
                      refine bif_of (fun f8 => ?_) (fun f8 => ?_)
                      · have h := h.1 (beq_t f8)
                        refine bif_of (fun ei => ?_) (fun ei => ?_)
                        · have h := h.1 (beq_t ei)
                          refine h.mono fun jv i2 h => ?_
                          obtain ⟨b8, he, h⟩ := h
                          refine ⟨b8, he, ?_⟩
                          refine bif_of (fun e7 => ?_) (fun e7 => ?_)
                          · have h := h.1 (beq_t e7)
                            refine h.mono fun jf gw h => ?_
                            obtain ⟨a6, he, h⟩ := h
                            refine ⟨a6, he, ?_⟩
                            refine bif_of (fun f7 => ?_) (fun f7 => ?_)
                            · have h := h.1 (beq_t f7)
                              refine h.mono fun gy ji h => ?_
                              obtain ⟨cv, he, h⟩ := h
                              refine ⟨cv, he, ?_⟩
                              refine h.mono fun gm jh h => ?_
                              obtain ⟨dg, he, h⟩ := h
                              refine ⟨dg, he, ?_⟩
                              obtain ⟨a1, a0, h⟩ := h
                              try rw [w64 a1 a0]
                              refine bif_of (fun e9 => ?_) (fun e9 => ?_)
                              · have h := h.1 (beq_t e9)
                                refine h.mono fun gd gu h => ?_
                                obtain ⟨ak, he, h⟩ := h
                                refine ⟨ak, he, ?_⟩
                                refine bif_of (fun ee => ?_) (fun ee => ?_)
                                · have h := h.1 (beq_t ee)
                                  refine bif_of (fun en => ?_) (fun en => ?_)
                                  · have h := h.1 (beq_t en)
                                    refine h.mono fun jt ip h => ?_
                                    obtain ⟨ce, he, h⟩ := h
                                    refine ⟨ce, he, ?_⟩
                                    exact h
                                  · have h := h.2 (beq_f en)
                                    exact h
                                · have h := h.2 (beq_f ee)
                                  exact h
                              · have h := h.2 (beq_f e9)
                                exact h
                            · have h := h.2 (beq_f f7)
                              exact h
                          · have h := h.2 (beq_f e7)
                            exact h
                        · have h := h.2 (beq_f ei)
                          exact h
                      · have h := h.2 (beq_f f8)
                        refine bif_ff (cong1 (r := false) (fun z => z == 0) (beq_t da) (by decide)) ?_
                        exact h
                    · have h := h.2 (beq_f da)
                      refine bif_of (fun f3 => ?_) (fun f3 => ?_)
                      · have h := h.1 (beq_t f3)
                        refine bif_of (fun f4 => ?_) (fun f4 => ?_)
                        · have h := h.1 (beq_t f4)
                          obtain ⟨kl, ff, h⟩ := h
                          refine elim_some ff ?_
                          obtain ⟨fg, h⟩ := h
                          refine ⟨by decide, fg, ?_⟩
                          obtain ⟨fe, fb, fa, fl, h⟩ := h
                          refine ⟨fe, fb, fa, fl, ?_⟩
                          refine h.mono fun i6 j3 h => ?_
                          obtain ⟨d9, he, h⟩ := h
                          refine ⟨d9, he, ?_⟩
                          refine bif_of (fun f5 => ?_) (fun f5 => ?_)
                          · have h := h.1 f5
                            refine bif_of (fun em => ?_) (fun em => ?_)
                            · have h := h.1 (beq_t em)
                              refine h.mono fun j1 ic h => ?_
                              obtain ⟨b0, he, h⟩ := h
                              refine ⟨b0, he, ?_⟩
                              refine bif_of (fun ex => ?_) (fun ex => ?_)
                              · have h := h.1 (beq_t ex)
                                refine h.mono fun ib gh h => ?_
                                obtain ⟨a3, he, h⟩ := h
                                refine ⟨a3, he, ?_⟩
                                refine bif_of (fun ef => ?_) (fun ef => ?_)
                                · have h := h.1 (beq_t ef)
                                  refine h.mono fun it iz h => ?_
                                  obtain ⟨br, he, h⟩ := h
                                  refine ⟨br, he, ?_⟩
                                  refine h.mono fun gg ir h => ?_
                                  obtain ⟨dd, he, h⟩ := h
                                  refine ⟨dd, he, ?_⟩
                                  obtain ⟨a1, a0, h⟩ := h
                                  try rw [w64 a1 a0]
                                  refine bif_of (fun ev => ?_) (fun ev => ?_)
                                  · have h := h.1 (beq_t ev)
                                    refine h.mono fun iu ix h => ?_
                                    obtain ⟨bf, he, h⟩ := h
                                    refine ⟨bf, he, ?_⟩
                                    refine bif_of (fun f2 => ?_) (fun f2 => ?_)
                                    · have h := h.1 (beq_t f2)
                                      refine bif_of (fun f6 => ?_) (fun f6 => ?_)
                                      · have h := h.1 (beq_t f6)
                                        refine h.mono fun j9 i9 h => ?_
                                        obtain ⟨c7, he, h⟩ := h
                                        refine ⟨c7, he, ?_⟩
                                        exact h
                                      · have h := h.2 (beq_f f6)
                                        exact h
                                    · have h := h.2 (beq_f f2)
                                      exact h
                                  · have h := h.2 (beq_f ev)
                                    exact h
                                · have h := h.2 (beq_f ef)
                                  exact h
                              · have h := h.2 (beq_f ex)
                                exact h
                            · have h := h.2 (beq_f em)
                              exact h
                          · have h := h.2 f5
                            exact h
                        · have h := h.2 (beq_f f4)
                          exact h
                      · have h := h.2 (beq_f f3)
                        exact h

theorem cachettelaw11_SnapshotFirst.go (n1 : Int) (a2 : Int) (a0 : Option Addr) (a1 : Nat) (a3 : Nat) (a6 : Option Addr) (a4 : Nat) (a5 : Nat) {R : Value → World → Prop} {w : World} (h : cachettelaw11_SnapshotFirst.N n1 a2 a0 a1 a3 a6 a4 a5 R w) : Calls Try.prog 4 #[.int .i64 n1, .int .i64 a2, .slice a0 a1 a3, .slice a6 a4 a5] w fun e w' => ∃ v, e = .returned v ∧ R v w' := cachettelaw11_SnapshotFirst.ok n1 a2 a0 a1 a3 a6 a4 a5 (cachettelaw11_SnapshotFirst.up n1 a2 a0 a1 a3 a6 a4 a5 h)
theorem cachettelaw11_SnapshotFirst.run (n1 : Int) (a2 : Int) (a0 : Option Addr) (a1 : Nat) (a3 : Nat) (a6 : Option Addr) (a4 : Nat) (a5 : Nat) {V : Value} {Q : World → Prop} {w : World} (h : cachettelaw11_SnapshotFirst.N n1 a2 a0 a1 a3 a6 a4 a5 (fun v w' => v = V ∧ Q w') w) : Calls Try.prog 4 #[.int .i64 n1, .int .i64 a2, .slice a0 a1 a3, .slice a6 a4 a5] w (Ret V Q) := (cachettelaw11_SnapshotFirst.go n1 a2 a0 a1 a3 a6 a4 a5 h).mono fun e w' ⟨v, he, hv, hq⟩ => ⟨by rw [he, hv], hq⟩

end Go.Proofs.Ytidijnfkcpbkiaa

/- Journal: the predicates of what asks journals on disks. -/
set_option maxRecDepth 100000
set_option maxHeartbeats 4000000
namespace Go.Proofs.Ytidijnfkcpbkiaa
open Go Go.Mx Go.Proofs
end Go.Proofs.Ytidijnfkcpbkiaa

/- JournalOpens. -/
set_option linter.unusedVariables false
set_option linter.unusedSimpArgs false
set_option maxRecDepth 20000
set_option maxHeartbeats 4000000
namespace Go.Proofs.Ytidijnfkcpbkiaa
open Go Go.Mx Go.Proofs
open W (OwnB GivesW)
section
variable {w w' w1 : World} {o o' o1 : Own} {q g n N m : Nat} {K : Nat → Prop} {b s : List UInt8} {a : Option Addr} {c : Nat} {l : List BS} {d : DS} {J : JS}
end
end Go.Proofs.Ytidijnfkcpbkiaa

/- JournalCrash: acts; a list of records that grows. -/
set_option linter.unusedVariables false
set_option linter.unusedSimpArgs false
set_option maxRecDepth 20000
set_option maxHeartbeats 4000000
namespace Go.Proofs.Ytidijnfkcpbkiaa
open Go Go.Mx Go.Proofs
open W (OwnB GivesW)
theorem topX {K : Nat → Prop} {W w : World} {o : Own} (s : Step K W (fun _ => none) w o) : Ext no W w := s.ext.mono fun b ⟨_, h, _⟩ _ => by cases h
section
variable {w w' w1 : World} {o o' o1 : Own} {q g n N k : Nat} {K : Nat → Prop} {b s : List UInt8} {a : Option Addr} {c : Nat} {l : List BS}
end
end Go.Proofs.Ytidijnfkcpbkiaa

/- Snapshot: acts; the small functions of the laws. -/
set_option linter.unusedVariables false
set_option linter.unusedSimpArgs false
set_option maxRecDepth 20000
set_option maxHeartbeats 4000000
namespace Go.Proofs.Ytidijnfkcpbkiaa
open Go Go.Mx Go.Proofs
open W (OwnB GivesW)
section
variable {w w' w1 : World} {o o' o1 : Own} {q g p n m k : Nat} {K : Nat → Prop} {b s : List UInt8} {a : Option Addr} {c : Nat} {d : DS}
end
end Go.Proofs.Ytidijnfkcpbkiaa

/- Snapshot: the chapter's example; what is asked behind each act. -/
set_option linter.unusedVariables false
set_option linter.unusedSimpArgs false
set_option maxRecDepth 20000
set_option maxHeartbeats 4000000
namespace Go.Proofs.Ytidijnfkcpbkiaa
open Go Go.Mx Go.Proofs
open W (OwnB GivesW)
theorem litS {w w1 : World} (bs : List UInt8) {q : Nat} (X : Ext no w w1) (hb : Blk w1 q 5 (bytesV bs)) (hq : w.heap.size ≤ q) :
    ∃ w2, (convert 30 30 (.slice (some (blk q)) bs.length bs.length)).run Try.prog w1 = .ok (.slice (some (blk q)) bs.length bs.length) w2 ∧ RowAt w2 (some (blk q)) (bytesV bs) ∧ Ext no w w2 :=
  ⟨_, conv_mark Try.underlying30 Try.underlying5 hb, (RowAt.of_blk hb).freeze _ _, X.freeze (.inr hq) _⟩
section
variable {w w' w1 : World} {o o' o1 : Own} {q g p n half N T t m : Nat} {K : Nat → Prop} {d : DS} {J : JS} {S : SS} {snap : List UInt8} {all : List (List UInt8)}
end
theorem alive11_spec (w : World) : Calls Try.prog 6 #[] w (Ret (.bool true) fun w' => Ext no w w') := by
  refine cachettelaw11_alive.run ?_
  unfold cachettelaw11_alive.N
  have ok0 : Tags w (fun _ => none) := fun b j _ h => by cases h
  refine (dNew_spec (n := 20) ok0 (by decide) (by decide)).mono fun u w1 ⟨g, o1, he, hg, s1, D1⟩ => ⟨_, _, he, ?_⟩
  obtain ⟨d2, J2, hO, P2⟩ := PS.new (n := 20) (half := 9) (by decide) (by decide) rfl
  have hop := sOpen_spec D1 s1.ok (newDS_ok (n := 20) (by decide) (by decide)) (by decide)
  rw [hO] at hop
  refine Calls.mono hop fun u w2 ⟨o2, sp, sa, sn, sc, la, lc, l2, he, OG2⟩ => ⟨_, _, _, _, _, _, _, _, he, fun w3 q3 X3 hb3 hq3 hq3' => ?_⟩
  obtain ⟨p, q, rfl, hp, hq, hpq, SG2, JG2⟩ := OG2.s1 _ _ rfl
  have gl := D1.lt
  have pgl : p ≠ g := by omega
  have qgl : q ≠ g := by omega
  have s2 : Step no w (fun _ => none) w2 o2 := s1.trans' OG2.st fun i hi => .inr (by rw [hi]; exact hg)
  have l1 := s1.size
  obtain ⟨w4, hc4, r4, X4⟩ := litS [97] X3 hb3 hq3
  refine ⟨_, _, _, w4, hc4, ?_⟩
  have t4 := Step.of_no X4 s2.ok
  have a5 := sAppend_spec (b := [97]) (c := 1) (SG2.step t4 id) (JG2.step t4 id) (OG2.dg.step t4 id) t4.ok hpq pgl qgl rfl P2.ok (by decide) (P2.jok (by decide) (by decide)) r4 (by decide) (by decide)
  obtain ⟨k5, P5⟩ := P2.app (b := [97]) (by decide) (by decide) (by decide) (by decide)
  generalize appendJ d2 J2 [97] = A5 at *
  obtain ⟨⟨d5, J5⟩, k5'⟩ := A5
  have k5 : k5' = 0 := k5
  subst k5
  refine Calls.mono a5 fun u w5 ⟨he, o5, s5, SG5, JG5, D5⟩ => ⟨_, he, fun w6 q6 X6 hb6 hq6 hq6' => ?_⟩
  obtain ⟨w7, hc7, r7, X7⟩ := litS [120] X6 hb6 hq6
  refine ⟨_, _, _, w7, hc7, ?_⟩
  have t7 := Step.of_no X7 s5.ok
  have r7' : Row w7 (grow w5 o5) (some (blk q6)) (bytesV [120]) := ⟨r7, fun _ ad ha => by cases ha; exact grow_ge hq6⟩
  have a8 := sCompact_spec (b := [120]) (c := 1) (SG5.step t7 id) (D5.step t7 id) t7.ok pgl P5.ok (by decide) ⟨by show (0 : Int) ≤ 9; decide, by show (9 : Int) ≤ 1000; decide⟩ (by show 1 < 4294967296; decide) r7' (by decide) (by decide)
  obtain ⟨d8, J8, hC8, P8⟩ := P5.compact (b := [120]) (by decide) (by decide) (by decide) (by decide)
  have e5 : SS.seen ⟨((9 : Nat) : Int), 1, false⟩ 0 = ⟨((9 : Nat) : Int), 1, false⟩ := rfl
  rw [e5, hC8] at a8
  refine Calls.mono a8 fun u w8 ⟨he, o8, s8, D8, _, hJ8⟩ => ⟨_, he, fun w9 q9 X9 hb9 hq9 hq9' => ?_⟩
  obtain ⟨q8, hq8, SG8, JG8⟩ := hJ8 J8 rfl
  have pl7 := (SG5.step t7 id).mem.lt
  have gl7 := (D5.step t7 id).lt
  obtain ⟨w10, hc10, r10, X10⟩ := litS [98] X9 hb9 hq9
  refine ⟨_, _, _, w10, hc10, ?_⟩
  have t10 := Step.of_no X10 s8.ok
  have a11 := sAppend_spec (b := [98]) (c := 1) (SG8.step t10 id) (JG8.step t10 id) (D8.step t10 id) t10.ok (by omega) pgl (by omega) rfl P8.ok (by decide) (P8.jok (by decide) (by decide)) r10 (by decide) (by decide)
  obtain ⟨k11, P11⟩ := P8.app (b := [98]) (by decide) (by decide) (by decide) (by decide)
  generalize appendJ d8 J8 [98] = A11 at *
  obtain ⟨⟨d11, J11⟩, k11'⟩ := A11
  have k11 : k11' = 0 := k11
  subst k11
  refine Calls.mono a11 fun u w11 ⟨he, o11, s11, SG11, JG11, D11⟩ => ⟨_, he, ?_⟩
  obtain ⟨J12, hO12, _⟩ := P11.reopen (by decide) (by decide) (by decide) rfl
  have a12 := sOpen_spec D11 s11.ok P11.ok (by decide)
  rw [hO12] at a12
  refine Calls.mono a12 fun u w12 ⟨o12, sp12, sa12, sn12, sc12, la12, lc12, l12, he, OG12⟩ => ⟨_, _, _, _, _, _, _, _, he, ?_⟩
  have T : ∀ {K : Nat → Prop} {a b : World} {x y : Own}, Step K a x b y → Step (fun _ => True) a x b y := fun s => s.mono fun _ _ _ => trivial
  have fin : Ext no w w12 := topX ((((((((T s2).trans (T t4)).trans (T s5)).trans (T t7)).trans (T s8)).trans (T t10)).trans (T s11)).trans (T OG12.st))
  have hk2 : (openS (newDS 20)).k = 0 := by rw [hO]
  have hl12 : l12.map BS.bs = [[98]] := OG12.ll
  have hln : l12.length = 1 := by have := congrArg List.length hl12; rwa [List.length_map] at this
  have hsn := OG12.sn_
  have hsr : RowAt w12 sa12 (bytesV [120]) := OG12.sr.1
  subst hsn
  refine ⟨fun _ => ⟨fun _ => ⟨fun _ => ⟨fun _ => ⟨fun _ => ⟨_, conv_str Try.underlying30 Try.underlying5 Try.underlying9 hsr, fun _ => ⟨fun _ => ?_, fun h => absurd (by rw [hln]; rfl) h⟩, fun h => absurd rfl h⟩, fun h => absurd rfl h⟩, fun h => absurd rfl h⟩, fun h => absurd rfl h⟩, fun h => absurd rfl h⟩, fun h => absurd rfl h⟩
  have h0 : l12[0]? = some l12[0] := List.getElem?_eq_getElem (by omega)
  have hmr := List.getElem_mem (show 0 < l12.length by omega)
  have hy : (l12[0]).bs = [98] := by
    have := get_map_bs h0
    rw [hl12] at this
    simp at this
    exact this.symm
  generalize l12[0] = y at *
  obtain ⟨rd, rfl, d0⟩ := OG12.lr.at.cell h0
  obtain ⟨ry, _⟩ := OG12.lr.at.oks y hmr
  refine ⟨rd, rfl, by omega, y.a, y.bs.length, y.c, d0, _, conv_str Try.underlying30 Try.underlying5 Try.underlying9 ry, ?_, fin⟩
  rw [hy]; simp
end Go.Proofs.Ytidijnfkcpbkiaa

/- SnapshotFirst. -/
set_option linter.unusedVariables false
set_option linter.unusedSimpArgs false
set_option maxRecDepth 20000
set_option maxHeartbeats 4000000
namespace Go.Proofs.Ytidijnfkcpbkiaa
open Go Go.Mx Go.Proofs
open W (OwnB GivesW)
section
variable {w w' w1 : World} {o o' o1 : Own} {q g p n half m kc bc : Nat} {K : Nat → Prop} {d : DS} {J : JS} {S : SS} {b : List UInt8} {kl : List Bool} {ka ba a : Option Addr} {k c : Nat}
theorem sOpen_nil : Calls Try.prog 8 #[.pointer none] w (Ret (.tuple #[.pointer none, .slice none 0 0, .slice none 0 0, .int .i64 23]) fun w' => w' = w) := by
  refine snapshot_Open.run _ ?_
  unfold snapshot_Open.N
  exact ⟨fun _ => ⟨rfl, rfl⟩, fun h => absurd rfl h⟩
theorem sAppend_nil : Calls Try.prog 11 #[.pointer none, .slice a k c] w (Ret (.int .i64 23) fun w' => w' = w) := by
  refine snapshot_Store_Append.run _ _ _ _ ?_
  unfold snapshot_Store_Append.N
  exact ⟨fun _ => ⟨rfl, rfl⟩, fun h => absurd rfl h⟩
theorem sCompact_nil : Calls Try.prog 10 #[.pointer none, .slice a k c] w (Ret (.int .i64 23) fun w' => Ext no w w') := by
  refine snapshot_Store_Compact.run _ _ _ _ ?_
  unfold snapshot_Store_Compact.N
  intro w1 q1 X1 b1 _ _ w2 q2 X2 b2 _ _
  exact ⟨_, (b1.ext X2 id).cella (i := 0) rfl, fun _ => ⟨rfl, X1.trans X2⟩, fun h => absurd rfl h⟩
theorem sCount_nil : Calls Try.prog 15 #[.pointer none] w (Ret (.int .i64 0) fun w' => w' = w) := by
  refine snapshot_Store_Count.run _ ?_
  unfold snapshot_Store_Count.N
  exact ⟨fun _ => ⟨rfl, rfl⟩, fun h => absurd rfl h⟩
theorem sRoom_nil : Calls Try.prog 16 #[.pointer none] w (Ret (.int .i64 0) fun w' => w' = w) := by
  refine snapshot_Store_Room.run _ ?_
  unfold snapshot_Store_Room.N
  exact ⟨fun _ => ⟨rfl, rfl⟩, fun h => absurd rfl h⟩
theorem sNumber_nil : Calls Try.prog 17 #[.pointer none] w (Ret (.int .u32 0) fun w' => w' = w) := by
  refine snapshot_Store_Number.run _ ?_
  unfold snapshot_Store_Number.N
  exact ⟨fun _ => ⟨rfl, rfl⟩, fun h => absurd rfl h⟩
theorem first_tail {R : Value → World → Prop} (hD : DG w o g d) (ok : Tags w o) (hd : d.ok m) (hm : m < 100000) (hk : Row w o ka (boolsV kl)) (hb : Row w o ba (bytesV b)) (hbc : b.length ≤ bc) (hbl : b.length ≤ 40)
    (h6 : 6 ≤ n) (hn : n ≤ 60) (hh : half = (n - 2) / 2) (hF : ∃ d3 J l, openS (restartD d kl) = ⟨d3, some (⟨half, 1, false⟩, J), l, 0⟩ ∧ (l = [] ∨ l = [[]]) ∧ (restartD d kl).ok 300 ∧ PS d3 ⟨half, 1, false⟩ J n half 1 [] [] 1 3)
    (hR : ∀ w' o', Step (fun i => i = g) w o w' o' → ∀ w2, Ext no w' w2 → R (.bool true) w2) :
      Calls Try.prog 20 #[.pointer (some (blk g)), .slice ka kl.length kc] w fun ee42 ww43 => ∃ (restart41 : Int), ee42 = .returned (.int .i64 restart41) ∧
      Calls Try.prog 8 #[.pointer (some (blk g))] ww43 fun ee48 ww49 => ∃ (openv44 : Option Addr) (openv45a : Option Addr) (openv45n : Nat) (openv45c : Nat) (openv46a : Option Addr) (openv46n : Nat) (openv46c : Nat) (openv47 : Int), ee48 = .returned (.tuple #[.pointer openv44, .slice openv45a openv45n openv45c, .slice openv46a openv46n openv46c, .int .i64 openv47]) ∧
      (openv47 ≠ 0 →
        R (.bool false) ww49) ∧
      (openv47 = 0 →
        (-9223372036854775808 : Int) ≤ ((openv45n : Int) + (openv46n : Int)) ∧ ((openv45n : Int) + (openv46n : Int)) < 9223372036854775808 ∧
        (((openv45n : Int) + (openv46n : Int)) ≠ 0 →
          R (.bool false) ww49) ∧
        (((openv45n : Int) + (openv46n : Int)) = 0 →
          Calls Try.prog 11 #[.pointer openv44, .slice ba b.length bc] ww49 fun ee53 ww54 => ∃ (append52 : Int), ee53 = .returned (.int .i64 append52) ∧
          Calls Try.prog 8 #[.pointer (some (blk g))] ww54 fun ee59 ww60 => ∃ (openv55 : Option Addr) (openv56a : Option Addr) (openv56n : Nat) (openv56c : Nat) (openv57a : Option Addr) (openv57n : Nat) (openv57c : Nat) (openv58 : Int), ee59 = .returned (.tuple #[.pointer openv55, .slice openv56a openv56n openv56c, .slice openv57a openv57n openv57c, .int .i64 openv58]) ∧
          Calls Try.prog 8 #[.pointer none] ww60 fun ee65 ww66 => ∃ (openv61 : Option Addr) (openv62a : Option Addr) (openv62n : Nat) (openv62c : Nat) (openv63a : Option Addr) (openv63n : Nat) (openv63c : Nat) (openv64 : Int), ee65 = .returned (.tuple #[.pointer openv61, .slice openv62a openv62n openv62c, .slice openv63a openv63n openv63c, .int .i64 openv64]) ∧
          (append52 = 18 →
            ((openv57n : Int) = 0 →
              (openv58 = 0 →
                Calls Try.prog 11 #[.pointer none, .slice ba b.length bc] ww66 fun ee71 ww72 => ∃ (append70 : Int), ee71 = .returned (.int .i64 append70) ∧
                (append70 = 23 →
                  Calls Try.prog 10 #[.pointer none, .slice ba b.length bc] ww72 fun ee75 ww76 => ∃ (compact74 : Int), ee75 = .returned (.int .i64 compact74) ∧
                  (compact74 = 23 →
                    Calls Try.prog 15 #[.pointer none] ww76 fun ee79 ww80 => ∃ (count78 : Int), ee79 = .returned (.int .i64 count78) ∧
                    Calls Try.prog 16 #[.pointer none] ww80 fun ee82 ww83 => ∃ (room81 : Int), ee82 = .returned (.int .i64 room81) ∧
                    (-9223372036854775808 : Int) ≤ (count78 + room81) ∧ (count78 + room81) < 9223372036854775808 ∧
                    ((count78 + room81) = 0 →
                      Calls Try.prog 17 #[.pointer none] ww83 fun ee86 ww87 => ∃ (number85 : Int), ee86 = .returned (.int .u32 number85) ∧
                      (number85 = 0 →
                        (openv64 = 23 →
                          Calls Try.prog 6 #[] ww87 fun ee91 ww92 => ∃ (alive90 : Bool), ee91 = .returned (.bool alive90) ∧
                          R (.bool alive90) ww92) ∧
                        (openv64 ≠ 23 →
                          R (.bool false) ww87)) ∧
                      (number85 ≠ 0 →
                        R (.bool false) ww87)) ∧
                    ((count78 + room81) ≠ 0 →
                      R (.bool false) ww83)) ∧
                  (compact74 ≠ 23 →
                    R (.bool false) ww76)) ∧
                (append70 ≠ 23 →
                  R (.bool false) ww72)) ∧
              (openv58 ≠ 0 →
                R (.bool false) ww66)) ∧
            ((openv57n : Int) ≠ 0 →
              R (.bool false) ww66)) ∧
          (append52 ≠ 18 →
            (append52 = 0 →
              ((openv57n : Int) = 1 →
                ∃ a95 : Addr, openv57a = some a95 ∧
                (0 : Int) < (openv57n : Int) ∧
                ∃ (x97a : Option Addr) (x97n : Nat) (x97c : Nat), ww66.cell? (a95.add (Int.toNat 0 * 1)) = some (.slice x97a x97n x97c) ∧
                Calls Try.prog 21 #[.slice x97a x97n x97c, .slice ba b.length bc] ww66 fun ee99 ww100 => ∃ (same98 : Bool), ee99 = .returned (.bool same98) ∧
                (same98 = true →
                  (openv58 = 0 →
                    Calls Try.prog 11 #[.pointer none, .slice ba b.length bc] ww100 fun ee104 ww105 => ∃ (append103 : Int), ee104 = .returned (.int .i64 append103) ∧
                    (append103 = 23 →
                      Calls Try.prog 10 #[.pointer none, .slice ba b.length bc] ww105 fun ee108 ww109 => ∃ (compact107 : Int), ee108 = .returned (.int .i64 compact107) ∧
                      (compact107 = 23 →
                        Calls Try.prog 15 #[.pointer none] ww109 fun ee112 ww113 => ∃ (count111 : Int), ee112 = .returned (.int .i64 count111) ∧
                        Calls Try.prog 16 #[.pointer none] ww113 fun ee115 ww116 => ∃ (room114 : Int), ee115 = .returned (.int .i64 room114) ∧
                        (-9223372036854775808 : Int) ≤ (count111 + room114) ∧ (count111 + room114) < 9223372036854775808 ∧
                        ((count111 + room114) = 0 →
                          Calls Try.prog 17 #[.pointer none] ww116 fun ee119 ww120 => ∃ (number118 : Int), ee119 = .returned (.int .u32 number118) ∧
                          (number118 = 0 →
                            (openv64 = 23 →
                              Calls Try.prog 6 #[] ww120 fun ee124 ww125 => ∃ (alive123 : Bool), ee124 = .returned (.bool alive123) ∧
                              R (.bool alive123) ww125) ∧
                            (openv64 ≠ 23 →
                              R (.bool false) ww120)) ∧
                          (number118 ≠ 0 →
                            R (.bool false) ww120)) ∧
                        ((count111 + room114) ≠ 0 →
                          R (.bool false) ww116)) ∧
                      (compact107 ≠ 23 →
                        R (.bool false) ww109)) ∧
                    (append103 ≠ 23 →
                      R (.bool false) ww105)) ∧
                  (openv58 ≠ 0 →
                    R (.bool false) ww100)) ∧
                (same98 = false →
                  R (.bool false) ww100)) ∧
              ((openv57n : Int) ≠ 1 →
                R (.bool false) ww66)) ∧
            (append52 ≠ 0 →
              R (.bool false) ww66)))) := by
  obtain ⟨d3, J3, l3, hO, hl3, kR, P3⟩ := hF
  have hgl := hD.lt
  refine (dRestart_spec hD ok hd hm hk).mono fun u w1 ⟨he, o1, s1, D1⟩ => ⟨_, he, ?_⟩
  have hop := sOpen_spec D1 s1.ok kR (by decide)
  rw [hO] at hop
  refine Calls.mono hop fun u w2 ⟨o2, sp, sa, sn, sc, la, lc, l2, he, OG2⟩ => ⟨_, _, _, _, _, _, _, _, he, fun h => absurd rfl h, fun _ => ?_⟩
  obtain ⟨p, q, rfl, hp, hq, hpq, SG2, JG2⟩ := OG2.s1 _ _ rfl
  have l1 := s1.size
  have hsn : sn = 0 := by
    rw [OG2.sn_]
    rcases hl3 with rfl | rfl <;> rfl
  have hl2 : l2.length = 0 := by
    have := congrArg List.length OG2.ll
    rw [List.length_map] at this
    rw [this]
    rcases hl3 with rfl | rfl <;> rfl
  subst hsn
  refine ⟨by omega, by omega, fun h => absurd (by omega) h, fun _ => ?_⟩
  have s2 := s1.trans OG2.st
  have pgl : p ≠ g := by omega
  have qgl : q ≠ g := by omega
  have jok := P3.jok (by omega) (by omega)
  have tl := P3.tl
  have hp1 : partsN b.length = 1 := by
    unfold partsN
    rw [if_neg (by omega)]
    split
    · rfl
    · omega
  have a3 := sAppend_spec (b := b) (c := bc) SG2 JG2 OG2.dg s2.ok hpq pgl qgl rfl P3.ok (by decide) jok (hb.step s2).1 hbc (by omega)
  obtain ⟨k3, P4⟩ := P3.app (b := b) (by omega) (by omega) (by omega) (by omega)
  generalize appendJ d3 J3 b = A3 at *
  obtain ⟨⟨d4, J4⟩, k3'⟩ := A3
  have k3 : k3' = 0 := k3
  subst k3
  refine Calls.mono a3 fun u w3 ⟨he, o3, s3, SG3, JG3, D3⟩ => ⟨_, he, ?_⟩
  obtain ⟨J5, hO5, _⟩ := P4.reopen (by omega) (by omega) (by omega) hh
  have hop5 := sOpen_spec D3 s3.ok P4.ok (by decide)
  rw [hO5] at hop5
  refine Calls.mono hop5 fun u w4 ⟨o4, sp4, sa4, sn4, sc4, la4, lc4, l4, he, OG4⟩ => ⟨_, _, _, _, _, _, _, _, he, ?_⟩
  refine sOpen_nil.mono fun u w5 ⟨he, hw⟩ => ⟨_, _, _, _, _, _, _, _, he, fun h => (by cases h), fun _ => ⟨fun _ => ?_, fun h => absurd rfl h⟩⟩
  have hw' := hw.symm
  subst hw'
  have hl4m : l4.map BS.bs = [b] := OG4.ll
  have hl4 : l4.length = 1 := by have := congrArg List.length hl4m; rwa [List.length_map] at this
  refine ⟨fun _ => ?_, fun h => absurd (by rw [hl4]; rfl) h⟩
  have h0 : l4[0]? = some l4[0] := List.getElem?_eq_getElem (by omega)
  have hm0 := List.getElem_mem (show 0 < l4.length by omega)
  have hx : (l4[0]).bs = b := by
    have := get_map_bs h0
    rw [hl4m] at this
    simp at this
    exact this.symm
  generalize l4[0] = x at *
  obtain ⟨ad, rfl, c0⟩ := OG4.lr.at.cell h0
  obtain ⟨rx, _⟩ := OG4.lr.at.oks x hm0
  have l2' := OG2.st.size
  have s3' : Step (fun i => i = g) w o w3 o3 := s2.trans' s3 fun i hi => by
    rcases hi with h | h | h
    · exact .inr (by omega)
    · exact .inr (by omega)
    · exact .inl h
  have s4 := s3'.trans OG4.st
  refine ⟨ad, rfl, by omega, x.a, x.bs.length, x.c, c0, ?_⟩
  refine (W.sameB_spec rx (hb.step s4).1 (by rw [hx]; omega)).mono fun u w6 ⟨he, X6⟩ => ⟨_, he, ?_⟩
  rw [hx, decide_eq_true rfl]
  refine ⟨fun _ => ⟨fun _ => ?_, fun h => absurd rfl h⟩, fun h => (by cases h)⟩
  refine sAppend_nil.mono fun u w7 ⟨he, hw⟩ => ⟨_, he, fun _ => ?_, fun h => absurd rfl h⟩
  have hw' := hw.symm
  subst hw'
  refine sCompact_nil.mono fun u w8 ⟨he, X8⟩ => ⟨_, he, fun _ => ?_, fun h => absurd rfl h⟩
  refine sCount_nil.mono fun u w9 ⟨he, hw⟩ => ⟨_, he, ?_⟩
  have hw' := hw.symm
  subst hw'
  refine sRoom_nil.mono fun u w10 ⟨he, hw⟩ => ⟨_, he, by decide, by decide, fun _ => ?_, fun h => absurd (by decide) h⟩
  have hw' := hw.symm
  subst hw'
  refine sNumber_nil.mono fun u w11 ⟨he, hw⟩ => ⟨_, he, fun _ => ⟨fun _ => ?_, fun h => absurd rfl h⟩, fun h => absurd rfl h⟩
  have hw' := hw.symm
  subst hw'
  exact (alive11_spec _).mono fun u w12 ⟨he, X12⟩ => ⟨_, he, hR _ _ s4 _ ((X6.trans X8).trans X12)⟩
end
theorem SnapshotFirst_spec (W : World) {ka ba : Option Addr} {kc bc : Nat} {kl : List Bool} {b : List UInt8} (hk : RowAt W ka (boolsV kl)) (hb : RowAt W ba (bytesV b)) (hbc : b.length ≤ bc) (n armed : Int) (ha2 : armed < 9223372036854775808) :
    Calls Try.prog 4 #[.int .i64 n, .int .i64 armed, .slice ka kl.length kc, .slice ba b.length bc] W (Ret (.bool true) fun w' => Ext no W w') := by
  refine cachettelaw11_SnapshotFirst.run _ _ _ _ _ _ _ _ ?_
  unfold cachettelaw11_SnapshotFirst.N
  have al : Calls Try.prog 6 #[] W fun ee ww => ∃ (alive : Bool), ee = .returned (.bool alive) ∧ (Value.bool alive = .bool true ∧ Ext no W ww) := (alive11_spec W).mono fun u w1 ⟨he, X⟩ => ⟨_, he, rfl, X⟩
  refine ⟨fun _ => al, fun h6 => ⟨fun _ => al, fun h60 => ⟨fun _ => al, fun h0 => ⟨fun _ => al, fun hkl => ⟨fun _ => al, fun hbl => ?_⟩⟩⟩⟩⟩
  obtain ⟨nn, rfl⟩ := Int.eq_ofNat_of_zero_le (show 0 ≤ n by omega)
  obtain ⟨half, hh⟩ : ∃ half, half = (nn - 2) / 2 := ⟨_, rfl⟩
  have ok0 : Tags W (fun _ => none) := fun b j _ h => by cases h
  refine (dNew_spec (n := nn) ok0 (by omega) (by omega)).mono fun u w1 ⟨g, o1, he, hg, s1, D1⟩ => ⟨_, _, he, ?_⟩
  obtain ⟨d1, hA, k1, hk1, hk2, hF⟩ := first_up (n := nn) (half := half) (armed := armed) (by omega) (by omega) hh h0 ha2
  have hgl := D1.lt
  have hAr := Arm_spec D1 s1.ok armed
  rw [hA] at hAr
  refine Calls.mono hAr fun u w2 ⟨he, o2, s2, D2⟩ => ⟨_, he, ?_⟩
  have hop := sOpen_spec D2 s2.ok k1 (by decide)
  refine Calls.mono hop fun u w3 ⟨o3, sp, sa, sn, sc, la, lc, l3, he, OG3⟩ => ⟨_, _, _, _, _, _, _, _, he, ?_⟩
  have sAll : Step (fun _ => True) W (fun _ => none) w3 o3 := ((s1.mono fun _ _ _ => trivial).trans (s2.mono fun _ _ _ => trivial)).trans (OG3.st.mono fun _ _ _ => trivial)
  have rK : Row w3 o3 ka (boolsV kl) := Row.step (w := W) (o := fun _ => none) ⟨hk, fun _ _ _ => rfl⟩ sAll
  have rB : Row w3 o3 ba (bytesV b) := Row.step (w := W) (o := fun _ => none) ⟨hb, fun _ _ _ => rfl⟩ sAll
  have tail := first_tail (R := fun v w' => v = Value.bool true ∧ Ext no W w') (kc := kc) OG3.dg OG3.st.ok hk2 (by decide) rK rB hbc (by omega) (by omega) (by omega) hh (hF kl) fun w' o' s' w2' X2 => ⟨rfl, (topX (sAll.trans (s'.mono fun _ _ _ => trivial))).trans X2⟩
  rw [hk1]
  by_cases h2 : armed < 2
  · rw [if_pos h2]
    exact ⟨fun _ => ⟨fun h => absurd rfl h, fun _ => ⟨fun h => absurd h2 (by omega), fun _ => tail⟩⟩, fun h => absurd h2 (by omega)⟩
  · rw [if_neg h2]
    exact ⟨fun h => absurd h h2, fun _ => ⟨fun _ => ⟨fun h => absurd rfl h, fun _ => tail⟩, fun h => absurd h h2⟩⟩
theorem SnapshotFirst_walk (W : World) (n0 n1 : Int) (a2 : Option Addr) (len2 cap2 : Nat) (a3 : Option Addr) (len3 cap3 : Nat) (w0 : (Lit.int .i64 n0).wf = true) (w1 : (Lit.int .i64 n1).wf = true) (o2 : BoolsQ W [.slice a2 len2 cap2]) (o3 : BytesQ W [.slice a3 len3 cap3]) :
    Calls Try.prog 4 #[.int .i64 n0, .int .i64 n1, .slice a2 len2 cap2, .slice a3 len3 cap3] W (Ret (.bool true) fun w' => Ext no W w') := by
  obtain ⟨_, c, l, e, _, _, r⟩ := o2
  cases e
  obtain ⟨_, c, b, e, lb, _, rb⟩ := o3
  cases e
  exact SnapshotFirst_spec W r rb lb n0 n1 (wf_i64 w1).2
end Go.Proofs.Ytidijnfkcpbkiaa
