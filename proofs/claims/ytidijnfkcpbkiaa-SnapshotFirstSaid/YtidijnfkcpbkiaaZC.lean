/- Disk: the chapter's example; DiskArms. -/
import Derived.Test.YtidijnfkcpbkiaaZB
set_option linter.unusedVariables false
set_option linter.unusedSimpArgs false
set_option maxRecDepth 20000
set_option maxHeartbeats 4000000
namespace Go.Proofs.Ytidijnfkcpbkiaa
open Go Go.Mx Go.Proofs
open W (OwnB)
section
variable {K : Nat → Prop} {w w' w1 : World} {o o' o1 : Own} {g g2 m : Nat} {d : DS} {i : Int} {a : Option Addr} {c : Nat}
theorem DS.ok.up {n : Nat} (h : d.ok m) (hm : m ≤ n) : d.ok n := ⟨h.n1, h.n2, h.at_, by have := h.pl; omega, by have := h.cl; omega, h.left⟩
theorem newDS_ok {n : Nat} (h1 : 1 ≤ n) (h2 : n ≤ 400) : (newDS n).ok 0 := by
  have hn : (newDS n).good.length = n := by unfold newDS; simp
  exact ⟨by omega, by omega, fun x hx => (by cases hx), Nat.le_refl _, ⟨Int.le_refl _, Int.le_refl _⟩, by show (0 : Int) ≤ 0; decide, by show (0 : Int) < _; decide⟩
theorem armD_ok (h : d.ok m) {n : Int} (hn : n < 9223372036854775808) : (armD d n).1.ok m := by
  unfold armD
  split
  · exact h
  · split
    · exact h
    · exact ⟨h.n1, h.n2, h.at_, h.pl, h.cl, by show 0 ≤ n; omega, hn⟩
theorem syncD_ok (h : d.ok m) : (syncD d).1.ok m := by
  unfold syncD
  split
  · exact h
  · exact settleD_ok h _
theorem restartD_ok (h : d.ok m) (l : List Bool) : (restartD d l).ok m := by
  have k := settleD_ok h (keepF l)
  exact ⟨k.n1, k.n2, k.at_, k.pl, k.cl, k.left⟩
theorem writeD_ok (h : d.ok m) (i : Int) (b : List UInt8) : (writeD d i b).1.ok (m + 1) := by
  have hpl := h.pl
  have hcl := h.cl
  have hl := h.left
  have hu := h.up (Nat.le_succ m)
  have key : ∀ (s : Sec), hasD d i = 0 → ∀ x ∈ d.pend ++ [⟨i, s⟩], 0 ≤ x.i ∧ x.i < (d.good.length : Int) := fun s h0 x hx => by
    rcases List.mem_append.1 hx with hx | hx
    · exact h.at_ x hx
    · simp at hx; subst hx; exact (hasD_0 h0).2
  unfold writeD
  split
  · rename_i h0
    split
    · split
      · split
        · exact ⟨h.n1, h.n2, key _ h0, by show (d.pend ++ [_]).length ≤ _; rw [List.length_append]; show d.pend.length + 1 ≤ m + 1; omega, by show 0 ≤ d.count ∧ d.count ≤ ((m + 1 : Nat) : Int); omega, hl⟩
        · exact ⟨h.n1, h.n2, key _ h0, by show (d.pend ++ [_]).length ≤ _; rw [List.length_append]; show d.pend.length + 1 ≤ m + 1; omega, by show 0 ≤ d.count + 1 ∧ d.count + 1 ≤ ((m + 1 : Nat) : Int); omega, by show 0 ≤ d.left - 1 ∧ d.left - 1 < 9223372036854775808; omega⟩
      · exact ⟨h.n1, h.n2, key _ h0, by show (d.pend ++ [_]).length ≤ _; rw [List.length_append]; show d.pend.length + 1 ≤ m + 1; omega, by show 0 ≤ d.count + 1 ∧ d.count + 1 ≤ ((m + 1 : Nat) : Int); omega, hl⟩
    · exact hu
  · exact hu
end
end Go.Proofs.Ytidijnfkcpbkiaa

/- Journal: a journal on a disk. -/
set_option linter.unusedVariables false
set_option linter.unusedSimpArgs false
set_option maxRecDepth 20000
set_option maxHeartbeats 2000000
namespace Go.Proofs.Ytidijnfkcpbkiaa
open Go Go.Mx Go.Proofs
open W (OwnB GivesW)
def readsD (d : DS) (base size : Nat) : List (List UInt8) := (List.range size).map fun i : Nat => (readD d ((base : Int) + (i : Int))).1
def stretchK (d : DS) (base size : Int) (gen : Nat) : List (List UInt8) × Int :=
  if gen = 0 ∨ base < 0 ∨ size < 1 ∨ base > d.good.length ∨ size > (d.good.length : Int) - base then ([], 1) else if d.down then ([], 19) else (readsD d base.toNat size.toNat, 0)
structure JS where
  base : Int
  size : Int
  gen : Nat
  round : Nat
  tail : Int
  seq : Int
  dead : Bool
def openK (d : DS) (base size : Int) (gen : Nat) : Option JS × List (List UInt8) × Int :=
  if (stretchK d base size gen).2 ≠ 0 then (none, [], (stretchK d base size gen).2)
  else if (scanK (stretchK d base size gen).1 gen).2 = 4294967295 then (none, [], 2)
  else (some ⟨base, size, gen, (scanK (stretchK d base size gen).1 gen).2 + 1, (scanK (stretchK d base size gen).1 gen).1.2, (scanK (stretchK d base size gen).1 gen).1.1.length, false⟩, (scanK (stretchK d base size gen).1 gen).1.1, 0)
def JS.V (J : JS) (g : Nat) : List Value := [.pointer (some (blk g)), .int .i64 J.base, .int .i64 J.size, .int .u32 J.gen, .int .u32 J.round, .int .i64 J.tail, .int .i64 J.seq, .bool J.dead]
structure JG (w : World) (o : Own) (q g : Nat) (J : JS) : Prop where
  mem : Blk w q 92 (J.V g)
  tg : o q = some q
def writesD : DS → Int → List (List UInt8) → DS × Int
  | d, _, [] => (d, 0)
  | d, i, x :: r => if (writeD d i x).2 ≠ 0 then writeD d i x else writesD (writeD d i x).1 (i + 1) r
def appendF (J : JS) (b : List UInt8) : List (List UInt8) := (frameK J.gen J.round J.seq.toNat b).1
def appendJ (d : DS) (J : JS) (b : List UInt8) : (DS × JS) × Int :=
  if partsN b.length = 0 then ((d, J), 3)
  else if J.dead then ((d, J), 19)
  else if (partsN b.length : Int) > J.size - J.tail then ((d, J), 18)
  else if (writesD d (J.base + J.tail) (appendF J b)).2 ≠ 0 then (((writesD d (J.base + J.tail) (appendF J b)).1, { J with dead := true }), (writesD d (J.base + J.tail) (appendF J b)).2)
  else if (syncD (writesD d (J.base + J.tail) (appendF J b)).1).2 ≠ 0 then (((syncD (writesD d (J.base + J.tail) (appendF J b)).1).1, { J with dead := true }), (syncD (writesD d (J.base + J.tail) (appendF J b)).1).2)
  else (((syncD (writesD d (J.base + J.tail) (appendF J b)).1).1, { J with tail := J.tail + partsN b.length, seq := J.seq + 1 }), 0)
structure JS.ok (J : JS) : Prop where
  base : 0 ≤ J.base ∧ J.base ≤ 1000000
  size : 0 ≤ J.size ∧ J.size ≤ 1000000
  gen : J.gen < 4294967296
  round : J.round < 4294967296
  tail : 0 ≤ J.tail ∧ J.tail ≤ 1000000
  seq : 0 ≤ J.seq ∧ J.seq ≤ 1000000
section
variable {w w' w1 : World} {o o' o1 : Own} {q g n N m : Nat} {K : Nat → Prop} {b s : List UInt8} {a : Option Addr} {c : Nat} {l : List BS} {d : DS} {J : JS}
theorem JG.step (h : JG w o q g J) (s : Step K w o w' o') (hk : ¬ K q) : JG w' o' q g J := ⟨s.blk h.mem h.tg hk, by rw [s.own h.mem.lt]; exact h.tg⟩
theorem readsD_len (d : DS) (base size : Nat) : (readsD d base size).length = size := by unfold readsD; simp
theorem stretch_loop (h : DG w o g d) (ok : Tags w o) (hd : d.ok m) (hm : m < 100000) {base size : Int} (hb0 : 0 ≤ base) (hb1 : base ≤ 1000000) (hs0 : 0 ≤ size) (hs1 : size ≤ 100000) {End : Value → World → Prop}
    (hE : ∀ w2 o2 la lc (l : List BS), Step no w o w2 o2 → l.map BS.bs = readsD d base.toNat size.toNat → BsRow w2 o2 la lc l → End (.slice la l.length lc) w2) :
    ∃ (I1 : Nat → List Value → World → Prop) (m71 : Nat), I1 m71 [.slice none 0 0, .int .i64 0] w ∧ ∀ (m72 : Nat) (ww73 : World) (la : Option Addr) (ln : Nat) (lc : Nat) (t : Int), I1 m72 [.slice la ln lc, .int .i64 t] ww73 →
      (t < size →
        (-9223372036854775808 : Int) ≤ (base + t) ∧ (base + t) < 9223372036854775808 ∧
        Calls Try.prog 25 #[.pointer (some (blk g)), .int .i64 (base + t)] ww73 fun ee ww78 => ∃ (ra : Option Addr) (rn : Nat) (rc : Nat) (rk : Int), ee = .returned (.tuple #[.slice ra rn rc, .int .i64 rk]) ∧
        ∀ (ww79 : World) (q80 : Nat), Ext no ww78 ww79 → Blk ww79 q80 30 [.slice ra rn rc] → ww78.heap.size ≤ q80 → q80 < ww79.heap.size →
        ∃ (a81a : Option Addr) (a81n : Nat) (a81c : Nat) (ww82 : World), (Builtin.append_ #[31, 31] 31 #[.slice la ln lc, .slice (some (blk q80)) 1 1]).run Try.prog ww79 = .ok (.slice a81a a81n a81c) ww82 ∧
        (-9223372036854775808 : Int) ≤ (t + 1) ∧ (t + 1) < 9223372036854775808 ∧
        ∃ m83, m83 < m72 ∧ I1 m83 [.slice a81a a81n a81c, .int .i64 (t + 1)] ww82) ∧
      (size ≤ t → End (.slice la ln lc) ww73) := by
  refine ⟨fun m vs w1 => ∃ (t : Nat) (o1 : Own) (la : Option Addr) (lc : Nat) (l : List BS), vs = [.slice la l.length lc, .int .i64 t] ∧ m + t = size.toNat ∧ Step no w o w1 o1 ∧ BsL w.heap.size w1 o1 la lc l ∧ l.map BS.bs = readsD d base.toNat t, size.toNat, ⟨0, o, none, 0, [], rfl, rfl, Step.refl _ ok, BsL.nil _ _ _, rfl⟩, ?_⟩
  rintro k w7 la ln lc i ⟨t, o7, la', lc', l, hi, hk, s7, L7, hmap⟩
  simp only [List.cons.injEq, Value.slice.injEq, Value.int.injEq, true_and, and_true] at hi
  obtain ⟨⟨rfl, rfl, rfl⟩, rfl⟩ := hi
  have hll : l.length = t := by have := congrArg List.length hmap; rwa [List.length_map, readsD_len] at this
  refine ⟨fun ht => ⟨by omega, by omega, ?_⟩, fun ht => ?_⟩
  · refine (dRead_spec (h.step s7 id) s7.ok (base + t) (by have := hd.pl; omega)).mono fun u w11 ⟨ra, rn, rc, o11, he, hn, hnc, s11, hR1, hR0⟩ => ⟨ra, rn, rc, _, he, fun w12 q12 X12 hb hq hq' => ?_⟩
    have X11 : Ext no w7 w11 := s11.ext.mono fun b ⟨_, _, h⟩ _ => h
    have t11 := Step.of_no X11 s7.ok
    have okx : BSok w11 (grow w7 o7) ⟨ra, rc, (readD d (base + t)).1⟩ := by
      by_cases hz : (readD d (base + t)).2 = 0
      · obtain ⟨q, tt, e, hbk, hl, hq, _⟩ := hR0 hz
        subst e
        refine ⟨Row.fresh ?_ fun ad ha => by cases ha; exact hq, by rw [← hn]; exact hnc⟩
        have := (RowAt.of_blk hbk).take (bytesV (readD d (base + t)).1).length
        rwa [List.take_left] at this
      · obtain ⟨e1, e2⟩ := hR1 hz
        rw [e2]
        exact ⟨Row.nil _ _ _, Nat.zero_le _⟩
    have l7 := s7.size
    subst hn
    obtain ⟨a', c', w39, o39, hr, s39, L39⟩ := (L7.step t11 fun _ h => h.elim).push t11.ok (by omega) okx X12 hb hq hq' (by have := X11.size; omega)
    refine ⟨a', _, c', w39, hr, by omega, by omega, k - 1, by omega, t + 1, o39, a', c', _, rfl, by omega, (s7.trans t11).trans' s39 fun i hi => .inr hi, L39, ?_⟩
    rw [List.map_append, hmap]
    unfold readsD
    rw [List.range_succ, List.map_append]
    simp only [List.map_cons, List.map_nil]
    congr 3
    rw [show ((base.toNat : Nat) : Int) = base by omega]
  · have htt : t = size.toNat := by omega
    exact hE w7 _ la lc l (Step.of_no (s7.ext.mono fun b ⟨_, _, h⟩ _ => h) ok) (by rw [← htt]; exact hmap) (L7.give s7 (Nat.le_refl _))
theorem stretch_spec (h : DG w o g d) (ok : Tags w o) (hd : d.ok m) (hm : m < 100000) (base size : Int) (gen : Nat) :
    Calls Try.prog 51 #[.pointer (some (blk g)), .int .i64 base, .int .i64 size, .int .u32 gen] w (fun z w' => ∃ o' la lc, ∃ l : List BS, z = .returned (.tuple #[.slice la l.length lc, .int .i64 (stretchK d base size gen).2]) ∧ Step no w o w' o' ∧ l.map BS.bs = (stretchK d base size gen).1 ∧ BsRow w' o' la lc l) := by
  refine (journal_stretch.go _ _ _ _ (R := fun z w' => ∃ o' la lc, ∃ l : List BS, z = (.tuple #[.slice la l.length lc, .int .i64 (stretchK d base size gen).2]) ∧ Step no w o w' o' ∧ l.map BS.bs = (stretchK d base size gen).1 ∧ BsRow w' o' la lc l) ?_).mono fun z w' ⟨u, he, o', la, lc, l, hu, hw⟩ => ⟨o', la, lc, l, by rw [he, hu], hw⟩
  unfold journal_stretch.N
  refine (Sectors_spec h).mono fun u w7 ⟨he, hw⟩ => ⟨_, he, fun h => (by cases h), fun _ => ?_⟩
  subst hw
  have n2 := hd.n2
  have leaf : ∀ (k : Int), stretchK d base size gen = ([], k) → ∃ o' la lc, ∃ l : List BS, Value.tuple #[.slice none 0 0, .int .i64 k] = (.tuple #[.slice la l.length lc, .int .i64 (stretchK d base size gen).2]) ∧ Step no w7 o w7 o' ∧ l.map BS.bs = (stretchK d base size gen).1 ∧ BsRow w7 o' la lc l := fun k hk => ⟨o, none, 0, [], by rw [hk]; rfl, Step.refl _ ok, by rw [hk]; rfl, BsRow.nil _ _⟩
  have bad : (gen = 0 ∨ base < 0 ∨ size < 1 ∨ base > d.good.length ∨ size > (d.good.length : Int) - base) → _ := fun hb => leaf 1 (by unfold stretchK; rw [if_pos hb])
  refine ⟨fun h1 => bad (by omega), fun h1 => ⟨fun h2 => bad (by omega), fun h2 => ⟨fun h3 => bad (by omega), fun h3 => ⟨fun h4 => bad (by omega), fun h4 => ⟨by omega, by omega, fun h5 => bad (by omega), fun h5 => ?_⟩⟩⟩⟩⟩
  have hgood : ¬ (gen = 0 ∨ base < 0 ∨ size < 1 ∨ base > d.good.length ∨ size > (d.good.length : Int) - base) := by omega
  refine (Down_spec h).mono fun u w67 ⟨he, hw⟩ => ⟨_, he, fun hdn => ?_, fun hdn => ?_⟩
  · subst hw
    exact leaf 19 (by unfold stretchK; rw [if_neg hgood, if_pos hdn])
  subst hw
  have hK : stretchK d base size gen = (readsD d base.toNat size.toNat, 0) := by unfold stretchK; rw [if_neg hgood, if_neg (by rw [hdn]; decide)]
  exact stretch_loop (End := fun v w2 => ∃ o' la lc, ∃ l : List BS, Value.tuple #[v, .int .i64 0] = (.tuple #[.slice la l.length lc, .int .i64 (stretchK d base size gen).2]) ∧ Step no w67 o w2 o' ∧ l.map BS.bs = (stretchK d base size gen).1 ∧ BsRow w2 o' la lc l) h ok hd hm (by omega) (by omega) (by omega) (by omega) fun w2 o2 la lc l s2 hmap hr => ⟨o2, la, lc, l, by rw [hK], s2, by rw [hK]; exact hmap, hr⟩
theorem stretchK_len (d : DS) (base size : Int) (gen : Nat) (h : d.good.length ≤ 400) : (stretchK d base size gen).1.length ≤ 400 := by
  unfold stretchK
  split
  · exact Nat.zero_le _
  · split
    · exact Nat.zero_le _
    · rw [readsD_len]; omega
theorem Open_spec (h : DG w o g d) (ok : Tags w o) (hd : d.ok m) (hm : m < 100000) (base size : Int) (gen : Nat) :
    Calls Try.prog 26 #[.pointer (some (blk g)), .int .i64 base, .int .i64 size, .int .u32 gen] w (fun z w' => ∃ o' jp la lc, ∃ l : List BS, z = .returned (.tuple #[.pointer jp, .slice la l.length lc, .int .i64 (openK d base size gen).2.2]) ∧ Step no w o w' o' ∧ l.map BS.bs = (openK d base size gen).2.1 ∧ BsRow w' o' la lc l ∧
      ((openK d base size gen).1 = none → jp = none) ∧ (∀ J, (openK d base size gen).1 = some J → ∃ q, jp = some (blk q) ∧ w.heap.size ≤ q ∧ JG w' o' q g J)) := by
  refine (journal_Open.go _ _ _ _ (R := fun z w' => ∃ o' jp la lc, ∃ l : List BS, z = (.tuple #[.pointer jp, .slice la l.length lc, .int .i64 (openK d base size gen).2.2]) ∧ Step no w o w' o' ∧ l.map BS.bs = (openK d base size gen).2.1 ∧ BsRow w' o' la lc l ∧
      ((openK d base size gen).1 = none → jp = none) ∧ (∀ J, (openK d base size gen).1 = some J → ∃ q, jp = some (blk q) ∧ w.heap.size ≤ q ∧ JG w' o' q g J)) ?_).mono fun z w' ⟨u, he, o', jp, la, lc, l, hu, hw⟩ => ⟨o', jp, la, lc, l, by rw [he, hu], hw⟩
  unfold journal_Open.N
  have hlen := stretchK_len d base size gen hd.n2
  refine (stretch_spec h ok hd hm base size gen).mono fun u w8 ⟨o8, la, lc, l, he, s8, hmap, hr⟩ => ⟨_, _, _, _, he, fun hne => ?_, fun heq => ?_⟩
  · have hK : openK d base size gen = (none, [], (stretchK d base size gen).2) := by unfold openK; rw [if_pos hne]
    rw [hK]
    exact ⟨o8, none, none, 0, [], rfl, s8, rfl, BsRow.nil _ _, fun _ => rfl, fun J h => by cases h⟩
  · have hll : l.length ≤ 400 := by have := congrArg List.length hmap; rw [List.length_map] at this; omega
    refine (scan_spec s8.ok hr.at (by omega) gen).mono fun u w14 ⟨o14, ra, rc, r, he, s14, hrm, hrr⟩ => ⟨_, _, _, _, _, he, ?_⟩
    rw [hmap] at hrm ⊢
    have hrl := roundOf_lt gen (stretchK d base size gen).1
    have hrr2 : (scanK (stretchK d base size gen).1 gen).2 = roundOf gen (stretchK d base size gen).1 := rfl
    have hwrap : ¬ (scanK (stretchK d base size gen).1 gen).2 = 4294967295 → IntKind.u32.wrap (((scanK (stretchK d base size gen).1 gen).2 : Int) + 1) = (((scanK (stretchK d base size gen).1 gen).2 + 1 : Nat) : Int) := fun hn => by rw [IntKind.wrap_u32]; omega
    have hwrap0 : (scanK (stretchK d base size gen).1 gen).2 = 4294967295 → IntKind.u32.wrap (((scanK (stretchK d base size gen).1 gen).2 : Int) + 1) = 0 := fun hn => by rw [hn]; rfl
    have s814 := s8.trans s14
    refine ⟨fun hz => ?_, fun hz w16 q17 X16 hb hq hq' => ?_⟩
    · by_cases h0 : (scanK (stretchK d base size gen).1 gen).2 = 4294967295
      · have hK : openK d base size gen = (none, [], 2) := by unfold openK; rw [if_neg (not_not_intro heq), if_pos h0]
        rw [hK]
        exact ⟨o14, none, none, 0, [], rfl, s814, rfl, BsRow.nil _ _, fun _ => rfl, fun J h => by cases h⟩
      · rw [hwrap h0] at hz; omega
    · have h0 : ¬ (scanK (stretchK d base size gen).1 gen).2 = 4294967295 := fun h0 => hz (hwrap0 h0)
      rw [hwrap h0] at hb
      have hK : openK d base size gen = (some ⟨base, size, gen, (scanK (stretchK d base size gen).1 gen).2 + 1, (scanK (stretchK d base size gen).1 gen).1.2, (scanK (stretchK d base size gen).1 gen).1.1.length, false⟩, (scanK (stretchK d base size gen).1 gen).1.1, 0) := by unfold openK; rw [if_neg (not_not_intro heq), if_neg h0]
      rw [hK]
      have s16 := (Step.of_no X16 s14.ok).tag hq hq'
      have l8 := s814.size
      have hrlen : r.length = (scanK (stretchK d base size gen).1 gen).1.1.length := by rw [← hrm, List.length_map]
      rw [hrlen] at hb
      refine ⟨_, some (blk q17), ra, rc, r, rfl, s814.trans s16, hrm, hrr.step s16, fun h => (by cases h), fun J hJ => ?_⟩
      cases hJ
      exact ⟨q17, rfl, by omega, hb, tag_self⟩
end
end Go.Proofs.Ytidijnfkcpbkiaa

/- Journal: Append, and the small ones; the chapter's example. -/
set_option linter.unusedVariables false
set_option linter.unusedSimpArgs false
set_option maxRecDepth 20000
set_option maxHeartbeats 2000000
namespace Go.Proofs.Ytidijnfkcpbkiaa
open Go Go.Mx Go.Proofs
open W (OwnB GivesW)
section
variable {w w' w1 : World} {o o' o1 : Own} {q g n N m : Nat} {K : Nat → Prop} {b s : List UInt8} {a : Option Addr} {c : Nat} {l : List BS} {d : DS} {J : JS}
theorem writesD_ok : ∀ {f : List (List UInt8)} {d : DS} {m : Nat} {i : Int}, d.ok m → (writesD d i f).1.ok (m + f.length)
  | [], d, m, i, h => h
  | x :: r, d, m, i, h => by
    have hw := writeD_ok h i x
    unfold writesD
    split
    · exact hw.up (by rw [List.length_cons]; omega)
    · have := writesD_ok (f := r) (i := i + 1) hw
      rw [List.length_cons]
      exact this.up (by omega)
theorem appendF_len (J : JS) (b : List UInt8) : (appendF J b).length ≤ 84 := by
  unfold appendF frameK
  split
  · exact Nat.zero_le _
  · split
    · exact Nat.zero_le _
    · show (frameL _ _ _ _).length ≤ 84
      unfold frameL
      rw [List.length_map, List.length_range]
      exact partsN_le _
theorem appendJ_ok (h : d.ok m) (J : JS) (b : List UInt8) : (appendJ d J b).1.1.ok (m + 84) := by
  have hu := h.up (Nat.le_add_right m 84)
  have hf := appendF_len J b
  have hw : (writesD d (J.base + J.tail) (appendF J b)).1.ok (m + 84) := (writesD_ok h).up (by omega)
  unfold appendJ
  repeat' split
  all_goals first | exact hu | exact hw | exact syncD_ok hw
theorem kill_spec (h : JG w o q g J) (hd : DG w o g d) (ok : Tags w o) (hqg : q ≠ g) {Φ : World → Prop}
    (hΦ : ∀ w2 o2, Step (fun i => i = q) w o w2 o2 → JG w2 o2 q g { J with dead := true } → DG w2 o2 g d → Φ w2) :
    canStore w (((blk q).add 7).add 0) ∧ thenW (w.setCell (((blk q).add 7).add 0) (.bool true)) fun w2 => Φ w2 := by
  have hadd : ((blk q).add 7).add 0 = (blk q).add 7 := by rw [add_add]
  rw [hadd]
  refine ⟨h.mem.cana (i := 7) rfl, thenW_in fun w2 e2 => ?_⟩
  have X : Ext (fun b => b = q) w w2 := (Ext.refl (fun b => b = q) w).x_set (q := q) (i := 7) rfl (.inl rfl) e2
  obtain ⟨o2, s2⟩ := Step.store1 X ok h.tg
  exact hΦ w2 o2 s2 ⟨h.mem.seti 7 rfl e2, by rw [s2.own h.mem.lt]; exact h.tg⟩ (hd.step s2 (fun e => hqg e.symm))
theorem Append_spec (h : JG w o q g J) (hD : DG w o g d) (ok : Tags w o) (hqg : q ≠ g) (hd : d.ok m) (hm : m + 100 < 100000) (hJ : J.ok) (hb : RowAt w a (bytesV b)) (hc : b.length ≤ c) (hbl : b.length < 1000000) :
    Calls Try.prog 32 #[.pointer (some (blk q)), .slice a b.length c] w (Ret (.int .i64 (appendJ d J b).2) fun w' => ∃ o', Step (fun i => i = q ∨ i = g) w o w' o' ∧ JG w' o' q g (appendJ d J b).1.2 ∧ DG w' o' g (appendJ d J b).1.1) := by
  refine journal_Journal_Append.run _ _ _ _ ?_
  unfold journal_Journal_Append.N
  rw [parts_F, partsI_nat]
  obtain ⟨⟨hb0, hb1⟩, ⟨hs0, hs1⟩, hgen, hrd, ⟨ht0, ht1⟩, ⟨hq0, hq1⟩⟩ := hJ
  have h84 := partsN_le b.length
  have leaf : ∀ (k : Int), appendJ d J b = ((d, J), k) → ∀ w2, Ext no w w2 → Value.int .i64 k = .int .i64 (appendJ d J b).2 ∧ ∃ o', Step (fun i => i = q ∨ i = g) w o w2 o' ∧ JG w2 o' q g (appendJ d J b).1.2 ∧ DG w2 o' g (appendJ d J b).1.1 := fun k hk w2 X => by
    have s := Step.of_no X ok
    rw [hk]; exact ⟨rfl, _, s.none, h.step s id, hD.step s id⟩
  refine ⟨fun e => (by cases e), fun _ => ⟨fun h0 w3 X => leaf 3 (by unfold appendJ; rw [if_pos (by omega)]) w3 X, fun h0 => ?_⟩⟩
  have hp0 : ¬ partsN b.length = 0 := by omega
  refine ⟨_, rfl, J.dead, h.mem.cella (i := 7) rfl, fun hdd w3 X => leaf 19 (by unfold appendJ; rw [if_neg hp0, if_pos hdd]) w3 X, fun hdd => ?_⟩
  have hdd' : ¬ J.dead = true := by rw [hdd]; decide
  refine ⟨_, h.mem.cella (i := 2) rfl, _, h.mem.cella (i := 5) rfl, by omega, by omega, fun hf w10 X => leaf 18 (by unfold appendJ; rw [if_neg hp0, if_neg hdd', if_pos hf]) w10 X, fun hf => ?_⟩
  have hf' : ¬ (partsN b.length : Int) > J.size - J.tail := by omega
  have hK : appendJ d J b = if (writesD d (J.base + J.tail) (appendF J b)).2 ≠ 0 then (((writesD d (J.base + J.tail) (appendF J b)).1, { J with dead := true }), (writesD d (J.base + J.tail) (appendF J b)).2)
      else if (syncD (writesD d (J.base + J.tail) (appendF J b)).1).2 ≠ 0 then (((syncD (writesD d (J.base + J.tail) (appendF J b)).1).1, { J with dead := true }), (syncD (writesD d (J.base + J.tail) (appendF J b)).1).2)
      else (((syncD (writesD d (J.base + J.tail) (appendF J b)).1).1, { J with tail := J.tail + partsN b.length, seq := J.seq + 1 }), 0) := by
    unfold appendJ; rw [if_neg hp0, if_neg hdd', if_neg hf']
  rw [hK]
  refine ⟨_, h.mem.cella (i := 3) rfl, _, h.mem.cella (i := 4) rfl, _, h.mem.cella (i := 6) rfl, fun w16 X16 => ?_⟩
  have s16 := Step.of_no X16 ok
  have hwq : IntKind.u32.wrap J.seq = ((J.seq.toNat : Nat) : Int) := by rw [IntKind.wrap_u32]; omega
  rw [hwq]
  refine (fFrame_spec s16.ok (hb.no X16) hc hbl J.gen J.round J.seq.toNat).mono fun u w26 ⟨o26, fa, fc, f, he, s26', hfm, hfr⟩ => ⟨_, _, _, _, he, ?_⟩
  have s26 := s16.trans s26'
  have hfm' : f.map BS.bs = appendF J b := hfm
  have hfl : f.length = (appendF J b).length := by rw [← hfm', List.length_map]
  have h84f := appendF_len J b
  obtain ⟨W, hW⟩ : ∃ W, writesD d (J.base + J.tail) (appendF J b) = W := ⟨_, rfl⟩
  rw [hW]
  have hWok : W.1.ok (m + 84) := by rw [← hW]; exact (writesD_ok hd).up (by omega)
  refine ⟨fun k vs w1 => ∃ (t : Nat) (o1 : Own) (d1 : DS), vs = [.int .i64 t] ∧ k + t = f.length ∧ Step (fun i => i = g) w o w1 o1 ∧ JG w1 o1 q g J ∧ DG w1 o1 g d1 ∧ BsRow w1 o1 fa fc f ∧ d1.ok (m + t) ∧ writesD d1 (J.base + J.tail + t) ((appendF J b).drop t) = W, f.length, ⟨0, o26, d, rfl, rfl, s26.none, h.step s26 id, hD.step s26 id, hfr, hd, by rw [List.drop_zero, ← hW]; simp⟩, ?_⟩
  rintro k w30 i ⟨t, o30, d1, hi, hk, s30, J30, D30, F30, k30, hWt⟩
  simp only [List.cons.injEq, Value.int.injEq, true_and, and_true] at hi
  subst hi
  have hgq : ¬ q = g := hqg
  refine ⟨fun ht => ?_, fun ht => ?_⟩
  · have htl : t < f.length := by omega
    have gt : f[t]? = some f[t] := List.getElem?_eq_getElem htl
    have hmt := List.getElem_mem htl
    have gF : (appendF J b)[t]? = some (f[t]).bs := by rw [← hfm']; exact get_map_bs gt
    generalize f[t] = x at *
    obtain ⟨fd, hfd, cx⟩ := F30.at.cell gt
    obtain ⟨rx, ex⟩ := F30.oks x hmt
    have hdrop : (appendF J b).drop t = x.bs :: (appendF J b).drop (t + 1) := by
      have h1 : t < (appendF J b).length := by omega
      rw [List.drop_eq_getElem_cons h1]
      rw [List.getElem?_eq_getElem h1] at gF
      injection gF with gF
      rw [gF]
    rw [hdrop] at hWt
    unfold writesD at hWt
    refine ⟨fd, hfd, by omega, by omega, x.a, x.bs.length, x.c, by rw [Int.toNat_natCast]; exact cx, _, J30.mem.cella (i := 0) rfl, _, J30.mem.cella (i := 1) rfl, _, J30.mem.cella (i := 5) rfl, by omega, by omega, by omega, by omega, fun w35 X35 => ?_⟩
    have s35' := Step.of_no X35 s30.ok
    refine (dWrite_spec (D30.step s35' id) s35'.ok k30 (by omega) (J.base + J.tail + t) (rx.step s35').1).mono fun u w44 ⟨he, o44, s44', D44⟩ => ⟨_, he, fun hne => ?_, fun heq => ?_⟩
    all_goals have s44 := s35'.none.trans s44'
    all_goals have J44 := J30.step s44 hgq
    · rw [if_pos hne] at hWt
      have e1 : W.2 = (writeD d1 (J.base + J.tail + t) x.bs).2 := by rw [← hWt]
      have e2 : W.1 = (writeD d1 (J.base + J.tail + t) x.bs).1 := by rw [← hWt]
      rw [if_pos (by rw [e1]; exact hne)]
      refine kill_spec J44 D44 s44.ok hqg fun w2 o2 s2 J2 D2 => ?_
      exact ⟨by rw [e1], o2, ((s30.trans s44).mono fun _ h _ => .inr h).trans (s2.mono fun _ h _ => .inl h), J2, by rw [e2]; exact D2⟩
    · rw [if_neg (not_not_intro heq)] at hWt
      exact ⟨by omega, by omega, k - 1, by omega, t + 1, o44, _, rfl, by omega, s30.trans s44, J44, D44, F30.step s44, writeD_ok k30 _ _, by rw [← hWt]; congr 1; omega⟩
  · have htt : t = f.length := by omega
    rw [List.drop_of_length_le (by omega)] at hWt
    have hW1 : W = (d1, 0) := by rw [← hWt]; rfl
    refine ⟨_, J30.mem.cella (i := 0) rfl, ?_⟩
    refine (dSync_spec D30 s30.ok k30 (by omega)).mono fun u w52 ⟨he, o52, s52, D52⟩ => ⟨_, he, fun hne => ?_, fun heq => ?_⟩
    all_goals have J52 := J30.step s52 hgq
    all_goals have st := s30.trans s52
    all_goals rw [hW1, if_neg (show ¬ ((d1, (0 : Int)).2 ≠ 0) from not_not_intro rfl)]
    · rw [if_pos hne]
      refine kill_spec J52 D52 s52.ok hqg fun w2 o2 s2 J2 D2 => ?_
      exact ⟨rfl, o2, (st.mono fun _ h _ => .inr h).trans (s2.mono fun _ h _ => .inl h), J2, D2⟩
    · rw [if_neg (not_not_intro heq)]
      have ha5 : ((blk q).add 5).add 0 = (blk q).add 5 := by rw [add_add]
      have ha6 : ((blk q).add 6).add 0 = (blk q).add 6 := by rw [add_add]
      rw [ha5]
      refine ⟨_, J52.mem.cella (i := 5) rfl, by omega, by omega, J52.mem.cana (i := 5) rfl, thenW_in fun w57 e57 => ?_⟩
      have b57 := J52.mem.seti 5 rfl e57
      rw [ha6]
      refine ⟨_, b57.cella (i := 6) rfl, by omega, by omega, b57.cana (i := 6) rfl, thenW_in fun w60 e60 => ?_⟩
      have X60 : Ext (fun b => b = q) w52 w60 := ((Ext.refl (fun b => b = q) w52).x_set (q := q) (i := 5) rfl (.inl rfl) e57).x_set (q := q) (i := 6) rfl (.inl rfl) e60
      obtain ⟨o60, s60⟩ := Step.store1 X60 s52.ok J52.tg
      have b60 := b57.seti 6 rfl e60
      exact ⟨rfl, o60, (st.mono fun _ h _ => .inr h).trans (s60.mono fun _ h _ => .inl h), ⟨b60, by rw [s60.own J52.mem.lt]; exact J52.tg⟩, D52.step s60 (fun e => hqg e.symm)⟩
end
end Go.Proofs.Ytidijnfkcpbkiaa

/- Journal: the chapter's example. -/
set_option linter.unusedVariables false
set_option linter.unusedSimpArgs false
set_option maxRecDepth 100000
set_option maxHeartbeats 4000000
namespace Go.Proofs.Ytidijnfkcpbkiaa
open Go Go.Mx Go.Proofs
open W (OwnB GivesW)
end Go.Proofs.Ytidijnfkcpbkiaa

/- JournalFrames, JournalScans. -/
set_option linter.unusedVariables false
set_option linter.unusedSimpArgs false
set_option maxRecDepth 20000
set_option maxHeartbeats 2000000
namespace Go.Proofs.Ytidijnfkcpbkiaa
open Go Go.Mx Go.Proofs
open W (OwnB GivesW)
section
variable {w w' w1 : World} {o o' o1 : Own} {q g n N : Nat} {K : Nat → Prop} {b s : List UInt8} {a : Option Addr} {c : Nat} {l : List BS}
end
end Go.Proofs.Ytidijnfkcpbkiaa

/- Journal: plainly: a record that was written stands; what stands ahead stays. -/
set_option linter.unusedVariables false
set_option linter.unusedSimpArgs false
set_option maxRecDepth 20000
set_option maxHeartbeats 2000000
namespace Go.Proofs.Ytidijnfkcpbkiaa
open Go Go.Mx Go.Proofs
theorem frameL_len (gen round seq : Nat) (b : List UInt8) : (frameL gen round seq b).length = partsN b.length := by unfold frameL; simp
theorem partsN_pos {n : Nat} (h : n ≤ 4000) : 1 ≤ partsN n := by
  unfold partsN
  rw [if_neg (by omega)]
  split <;> omega
theorem partsN_cover {n : Nat} (h : n ≤ 4000) : n ≤ 48 * partsN n := by
  unfold partsN
  rw [if_neg (by omega)]
  split <;> omega
theorem parts_join (b : List UInt8) : ∀ k : Nat, (List.range k).flatMap (partL b) = b.take (48 * k)
  | 0 => by simp
  | k + 1 => by
    rw [List.range_succ, List.flatMap_append, parts_join b k]
    simp only [List.flatMap_cons, List.flatMap_nil, List.append_nil]
    unfold partL
    rw [show 48 * (k + 1) = 48 * k + 48 by omega, List.take_add]
theorem body_sec (gen round seq i n : Nat) {x : List UInt8} (h : x.length ≤ 48) : bodyS (secL gen round seq i n x) = x := by
  have e15 : byteN (secL gen round seq i n x) 15 = x.length := by
    show (UInt8.ofNat x.length).toNat = _
    rw [UInt8.toNat_ofNat']; omega
  unfold bodyS
  rw [e15]
  unfold secL
  rw [List.append_assoc, List.drop_append_of_le_length (by rw [headL_len]; exact Nat.le_refl _), List.drop_of_length_le (by rw [headL_len]; exact Nat.le_refl _), List.nil_append, List.take_left]
theorem sec_round (gen round seq i n : Nat) (x : List UInt8) (h : round < 4294967296) : numB (secL gen round seq i n x) 5 = round := by
  show (UInt8.ofNat (round / 16777216)).toNat * 16777216 + (UInt8.ofNat (round / 65536)).toNat * 65536 + (UInt8.ofNat (round / 256)).toNat * 256 + (UInt8.ofNat round).toNat = round
  simp only [UInt8.toNat_ofNat']
  omega
theorem sec_gen (gen round seq i n : Nat) (x : List UInt8) (h : gen < 4294967296) : numB (secL gen round seq i n x) 1 = gen := by
  show (UInt8.ofNat (gen / 16777216)).toNat * 16777216 + (UInt8.ofNat (gen / 65536)).toNat * 65536 + (UInt8.ofNat (gen / 256)).toNat * 256 + (UInt8.ofNat gen).toNat = gen
  simp only [UInt8.toNat_ofNat']
  omega
theorem sec_seq (gen round seq i n : Nat) (x : List UInt8) (h : seq < 4294967296) : numB (secL gen round seq i n x) 9 = seq := by
  show (UInt8.ofNat (seq / 16777216)).toNat * 16777216 + (UInt8.ofNat (seq / 65536)).toNat * 65536 + (UInt8.ofNat (seq / 256)).toNat * 256 + (UInt8.ofNat seq).toNat = seq
  simp only [UInt8.toNat_ofNat']
  omega
/-- a frame at the beginning is a record. -/
theorem frame_stands {gen round seq : Nat} {b : List UInt8} (hg : gen ≠ 0) (hr : round ≠ 0) (hr2 : round < 4294967296) (hb : b.length ≤ 4000) (rest : List (List UInt8)) :
    standK (frameL gen round seq b ++ rest) gen seq = (b, partsN b.length) := by
  have hp := partsN_pos hb
  have h84 := partsN_le b.length
  have hlen := frameL_len gen round seq b
  have hhead : (frameL gen round seq b ++ rest).headD [] = secL gen round seq 0 (partsN b.length) (partL b 0) := by
    unfold frameL
    obtain ⟨k, hk⟩ := Nat.exists_eq_add_of_le' hp
    rw [hk, List.range_succ_eq_map]
    rfl
  have hcnt : cntK (frameL gen round seq b ++ rest) = partsN b.length := by
    unfold cntK
    rw [hhead]
    show (UInt8.ofNat (partsN b.length)).toNat = _
    rw [UInt8.toNat_ofNat']; omega
  have htake : (frameL gen round seq b ++ rest).take (partsN b.length) = frameL gen round seq b := by rw [← hlen, List.take_left]
  have hbody : bodyK (frameL gen round seq b ++ rest) = b := by
    unfold bodyK
    rw [hcnt, htake]
    unfold frameL
    rw [List.flatMap_map]
    have : (fun i => bodyS (secL gen round seq i (partsN b.length) (partL b i))) = partL b := funext fun i => body_sec _ _ _ _ _ (partL_le _ _)
    rw [this, parts_join, List.take_of_length_le (partsN_cover hb)]
  have hK : frameK gen round seq b = (frameL gen round seq b, 0) := by
    unfold frameK
    rw [if_neg (by omega), if_neg (by omega)]
  have hOK : OKS (frameL gen round seq b ++ rest) gen seq := by
    refine ⟨fun e => ?_, ?_, ?_, ?_, ?_⟩
    · have := congrArg List.length e
      rw [List.length_append, hlen] at this
      simp at this; omega
    · rw [hhead]; exact secL_len _ _ _ _ _ (partL_le _ _)
    · rw [hcnt, List.length_append, hlen]; omega
    · rw [hcnt, htake]
      intro s hs
      unfold frameL at hs
      obtain ⟨i, _, rfl⟩ := List.mem_map.1 hs
      refine ⟨secL_len _ _ _ _ _ (partL_le _ _), ?_⟩
      show (UInt8.ofNat (partL b i).length).toNat ≤ 48
      have := partL_le b i
      rw [UInt8.toNat_ofNat']; omega
    · rw [hcnt, htake, hhead, hbody, sec_round _ _ _ _ _ _ hr2]
      exact hK
  rw [standK_yes hOK, hbody, hcnt]
/-- a record needs its own sectors only. -/
theorem stand_more {L : List (List UInt8)} {gen seq : Nat} (h : OKS L gen seq) (X : List (List UInt8)) : standK (L.take (cntK L) ++ X) gen seq = standK L gen seq := by
  have hc := h.cnt
  have hle := h.2.2.1
  have hhead : (L.take (cntK L) ++ X).headD [] = L.headD [] := by
    have h0 := h.1
    generalize cntK L = c at *
    cases L with
    | nil => exact absurd rfl h0
    | cons x r =>
      obtain ⟨k, rfl⟩ := Nat.exists_eq_succ_of_ne_zero hc
      rfl
  have hcnt : cntK (L.take (cntK L) ++ X) = cntK L := by
    show byteN ((L.take (cntK L) ++ X).headD []) 14 = _
    rw [hhead]; rfl
  have htake : (L.take (cntK L) ++ X).take (cntK L) = L.take (cntK L) := by
    have e : (L.take (cntK L)).length = cntK L := by rw [List.length_take]; omega
    conv => lhs; rw [← e]
    rw [e, List.take_append_of_le_length (by omega), List.take_of_length_le (by omega)]
  have hbody : bodyK (L.take (cntK L) ++ X) = bodyK L := by
    unfold bodyK
    rw [hcnt, htake]
  have hOK : OKS (L.take (cntK L) ++ X) gen seq := by
    obtain ⟨h1, h2, h3, h4, h5⟩ := h
    refine ⟨fun e => ?_, by rw [hhead]; exact h2, ?_, ?_, ?_⟩
    · have h9 := congrArg List.length e
      rw [List.length_append, List.length_take, Nat.min_eq_left hle] at h9
      have h8 : cntK L + X.length = 0 := h9
      omega
    · rw [hcnt, List.length_append, List.length_take, Nat.min_eq_left hle]; omega
    · rw [hcnt, htake]; exact h4
    · rw [hcnt, htake, hhead, hbody]; exact h5
  rw [standK_yes hOK, standK_yes h, hcnt, hbody]
/-- a scan of what stands ahead, and something else behind. -/
theorem scan_more (gen : Nat) : ∀ (k : Nat) (L : List (List UInt8)) (s : Nat) (k2 : Nat) (X : List (List UInt8)),
    scanG gen ((scanG gen k L s).1.length + k2) (L.take (scanG gen k L s).2 ++ X) s = ((scanG gen k L s).1 ++ (scanG gen k2 X (s + (scanG gen k L s).1.length)).1, (scanG gen k L s).2 + (scanG gen k2 X (s + (scanG gen k L s).1.length)).2)
  | 0, L, s, k2, X => by simp [scanG]
  | k + 1, L, s, k2, X => by
    by_cases h : (standK L gen s).2 = 0
    · have e : scanG gen (k + 1) L s = ([], 0) := by simp only [scanG, h, if_true]
      rw [e]; simp
    · have hO : OKS L gen s := by
        by_cases hO : OKS L gen s
        · exact hO
        · rw [standK_no hO] at h; exact absurd rfl h
      have hn : (standK L gen s).2 = cntK L := by rw [standK_yes hO]
      have hle := standK_le L gen s
      obtain ⟨R, hR⟩ : ∃ R, scanG gen k (L.drop (standK L gen s).2) (s + 1) = R := ⟨_, rfl⟩
      have ih := scan_more gen k (L.drop (standK L gen s).2) (s + 1) k2 X
      rw [hR] at ih
      have e : scanG gen (k + 1) L s = ((standK L gen s).1 :: R.1, (standK L gen s).2 + R.2) := by simp only [scanG, if_neg h, hR]
      rw [e]
      have hcut : L.take ((standK L gen s).2 + R.2) ++ X = L.take (cntK L) ++ ((L.drop (cntK L)).take R.2 ++ X) := by
        rw [hn, List.take_add, List.append_assoc]
      have hS : standK (L.take ((standK L gen s).2 + R.2) ++ X) gen s = standK L gen s := by rw [hcut, stand_more hO]
      have hd : (L.take ((standK L gen s).2 + R.2) ++ X).drop (standK L gen s).2 = (L.drop (standK L gen s).2).take R.2 ++ X := by
        rw [hcut, hn]
        have e9 : (L.take (cntK L)).length = cntK L := by rw [List.length_take]; omega
        conv => lhs; rw [← e9]
        rw [e9, List.drop_append_of_le_length (by omega), List.drop_of_length_le (by omega), List.nil_append]
      show scanG gen (R.1.length + 1 + k2) _ s = _
      rw [show R.1.length + 1 + k2 = (R.1.length + k2) + 1 by omega]
      simp only [scanG, hS, hd, if_neg h, ih, List.length_cons, List.cons_append, Prod.mk.injEq, List.cons.injEq, true_and]
      rw [show s + (R.1.length + 1) = s + 1 + R.1.length by omega]
      exact ⟨rfl, by omega⟩
/-- more fuel than sectors changes nothing. -/
theorem scan_fuel (gen : Nat) : ∀ (k : Nat) (L : List (List UInt8)) (s : Nat) (k2 : Nat), L.length < k → L.length < k2 → scanG gen k L s = scanG gen k2 L s
  | 0, L, s, k2, h, _ => by omega
  | k + 1, L, s, 0, _, h => by omega
  | k + 1, L, s, k2 + 1, h, h2 => by
    by_cases hz : (standK L gen s).2 = 0
    · simp only [scanG, hz, if_true]
    · have hle := standK_le L gen s
      have := scan_fuel gen k (L.drop (standK L gen s).2) (s + 1) k2 (by rw [List.length_drop]; omega) (by rw [List.length_drop]; omega)
      simp only [scanG, if_neg hz, this]
end Go.Proofs.Ytidijnfkcpbkiaa

/- Journal: plainly: what a disk that is not armed has behind writes. -/
set_option linter.unusedVariables false
set_option linter.unusedSimpArgs false
set_option maxRecDepth 20000
set_option maxHeartbeats 2000000
namespace Go.Proofs.Ytidijnfkcpbkiaa
open Go Go.Mx Go.Proofs
def Up (d : DS) : Prop := d.down = false ∧ d.armed = false
theorem hasD_up {d : DS} (h : d.down = false) {i : Int} (h0 : 0 ≤ i) (h1 : i < d.good.length) : hasD d i = 0 := by
  unfold hasD
  rw [h]
  rw [if_neg (by decide), if_neg (by omega)]
theorem write_up {d : DS} (h : Up d) {i : Int} (h0 : 0 ≤ i) (h1 : i < d.good.length) {b : List UInt8} (hb : b.length = 64) :
    writeD d i b = ({ d with pend := d.pend ++ [⟨i, ⟨b, false, hb⟩⟩], count := d.count + 1 }, 0) := by
  unfold writeD
  rw [if_pos (hasD_up h.1 h0 h1), dif_pos hb, h.2]
  rfl
theorem read_write {d : DS} (h : Up d) {i : Int} (h0 : 0 ≤ i) (h1 : i < d.good.length) {b : List UInt8} (hb : b.length = 64) (j : Int) :
    readD (writeD d i b).1 j = if j = i then (b, 0) else readD d j := by
  rw [write_up h h0 h1 hb]
  have hs : readS { d with pend := d.pend ++ [⟨i, ⟨b, false, hb⟩⟩], count := d.count + 1 } j = if i = j then ⟨b, false, hb⟩ else readS d j := lastP_snoc j _ _ _
  have hh : hasD { d with pend := d.pend ++ [⟨i, ⟨b, false, hb⟩⟩], count := d.count + 1 } j = hasD d j := rfl
  unfold readD
  rw [hs, hh]
  by_cases e : j = i
  · subst e
    rw [if_pos (hasD_up h.1 h0 h1), if_pos rfl, if_pos rfl]; rfl
  · rw [if_neg (show ¬ i = j from fun e2 => e e2.symm), if_neg e]
theorem settle_all {j : Nat} : ∀ (l : List Wt) (t : Nat) (gl : List Sec), j < gl.length → (∀ x ∈ l, 0 ≤ x.i) → (settleL (fun _ => true) t gl l)[j]?.getD Sec.z = lastP j (gl[j]?.getD Sec.z) l
  | [], _, _, _, _ => rfl
  | x :: r, t, gl, hj, hx => by
    have hx0 := hx x (by simp)
    rw [settleL, if_pos rfl, settle_all r _ _ (by rw [List.length_set]; exact hj) fun y hy => hx y (by simp [hy])]
    show _ = lastP (j : Int) (if x.i = (j : Int) then x.s else gl[j]?.getD Sec.z) r
    congr 1
    by_cases e : x.i = (j : Int)
    · rw [if_pos e, show x.i.toNat = j by omega, List.getElem?_set_self hj]; rfl
    · rw [if_neg e, List.getElem?_set_ne (by omega)]
theorem sync_up {d : DS} (h : Up d) : (syncD d).2 = 0 ∧ Up (syncD d).1 ∧ (syncD d).1.pend = [] ∧ (syncD d).1.good.length = d.good.length := by
  unfold syncD
  rw [h.1]
  exact ⟨rfl, h, rfl, settleL_len _ _ _ _⟩
theorem read_sync {m : Nat} {d : DS} (h : Up d) (ok : d.ok m) (j : Int) : readD (syncD d).1 j = readD d j := by
  have hh : hasD (syncD d).1 j = hasD d j := by
    unfold hasD
    rw [(sync_up h).2.1.1, h.1, (sync_up h).2.2.2]
  unfold readD
  rw [hh]
  by_cases e : hasD d j = 0
  · rw [if_pos e, if_pos e]
    have hr : 0 ≤ j ∧ j < d.good.length := by
      unfold hasD at e
      rw [h.1] at e
      rw [if_neg (by decide)] at e
      split at e
      · cases e
      · omega
    obtain ⟨k, rfl⟩ := Int.eq_ofNat_of_zero_le hr.1
    have hs : readS (syncD d).1 k = readS d k := by
      unfold syncD
      rw [h.1]
      show (settleL (fun _ => true) 0 d.good d.pend)[k]?.getD Sec.z = lastP k (d.good[k]?.getD Sec.z) d.pend
      exact settle_all _ _ _ (by omega) fun x hx => (ok.at_ x hx).1
    rw [hs]
  · rw [if_neg e, if_neg e]
theorem writes_up : ∀ (f : List (List UInt8)) (d : DS) (m : Nat) (i : Int), Up d → d.ok m → 0 ≤ i → i + f.length ≤ d.good.length → (∀ s ∈ f, s.length = 64) →
    (writesD d i f).2 = 0 ∧ Up (writesD d i f).1 ∧ (writesD d i f).1.good.length = d.good.length ∧ ∀ j : Int, readD (writesD d i f).1 j = if i ≤ j ∧ j < i + f.length then (f[(j - i).toNat]?.getD [], 0) else readD d j
  | [], d, m, i, h, ok, h0, h1, hs => ⟨rfl, h, rfl, fun j => by
    rw [if_neg (by simp only [List.length_nil]; omega)]; rfl⟩
  | x :: r, d, m, i, h, ok, h0, h1, hs => by
    rw [List.length_cons] at h1
    have hx : x.length = 64 := hs x (by simp)
    have hw := write_up h h0 (by omega) hx
    have hw2 : (writeD d i x).2 = 0 := by rw [hw]
    have hwu : Up (writeD d i x).1 := by rw [hw]; exact h
    have hwl : (writeD d i x).1.good.length = d.good.length := by rw [hw]
    have ih := writes_up r (writeD d i x).1 (m + 1) (i + 1) hwu (writeD_ok ok i x) (by omega) (by rw [hwl]; omega) fun s hs' => hs s (by simp [hs'])
    have hd : writesD d i (x :: r) = writesD (writeD d i x).1 (i + 1) r := by
      rw [writesD, if_neg (not_not_intro hw2)]
    rw [hd]
    refine ⟨ih.1, ih.2.1, ih.2.2.1.trans hwl, fun j => ?_⟩
    rw [ih.2.2.2 j, read_write h h0 (by omega) hx, List.length_cons]
    by_cases e : j = i
    · subst e
      rw [if_neg (by omega), if_pos rfl, if_pos (by omega), show (j - j).toNat = 0 by omega]; rfl
    · by_cases e2 : i + 1 ≤ j ∧ j < i + 1 + r.length
      · rw [if_pos e2, if_pos (by omega), show (j - i).toNat = (j - (i + 1)).toNat + 1 by omega, List.getElem?_cons_succ]
      · rw [if_neg e2, if_neg e, if_neg (by omega)]
theorem reads_get (d : DS) (base size i : Nat) : (readsD d base size)[i]? = if i < size then some (readD d ((base : Int) + (i : Int))).1 else none := by
  unfold readsD
  rw [List.getElem?_map]
  by_cases h : i < size
  · rw [List.getElem?_range h, if_pos h]; rfl
  · rw [if_neg h, List.getElem?_eq_none (by rw [List.length_range]; omega)]; rfl
/-- what an append that has room does to the sectors of its stretch. -/
theorem reads_cut {d d2 : DS} {base size T : Nat} {f : List (List UInt8)} (hT : T + f.length ≤ size)
    (hr : ∀ j : Int, (readD d2 j).1 = if (base : Int) + T ≤ j ∧ j < (base : Int) + T + f.length then f[(j - ((base : Int) + T)).toNat]?.getD [] else (readD d j).1) :
    readsD d2 base size = (readsD d base size).take T ++ (f ++ (readsD d base size).drop (T + f.length)) := by
  have hl := readsD_len d base size
  apply List.ext_getElem?
  intro i
  rw [reads_get, List.getElem?_append, List.length_take, hl, Nat.min_eq_left (by omega), List.getElem?_append]
  by_cases h0 : i < T
  · rw [if_pos h0, if_pos (by omega), List.getElem?_take_of_lt h0, reads_get, if_pos (by omega), hr, if_neg (by omega)]
  · rw [if_neg h0]
    by_cases h1 : i - T < f.length
    · rw [if_pos h1, if_pos (by omega), hr, if_pos (by omega), show ((base : Int) + (i : Int) - ((base : Int) + T)).toNat = i - T by omega, List.getElem?_eq_getElem h1]; rfl
    · rw [if_neg h1, List.getElem?_drop, reads_get, show T + f.length + (i - T - f.length) = i by omega]
      by_cases h2 : i < size
      · rw [if_pos h2, if_pos h2, hr, if_neg (by omega)]
      · rw [if_neg h2, if_neg h2]
end Go.Proofs.Ytidijnfkcpbkiaa

/- Journal: plainly: what stands behind a crash in an append's midst. -/
set_option linter.unusedVariables false
set_option linter.unusedSimpArgs false
set_option maxRecDepth 20000
set_option maxHeartbeats 2000000
namespace Go.Proofs.Ytidijnfkcpbkiaa
open Go Go.Mx Go.Proofs
def mg (gen : Nat) (s : List UInt8) : Prop := s.length = 64 ∧ byteN s 0 = 197 ∧ numB s 1 = gen
theorem roundStep_ge (gen r : Nat) (s : List UInt8) : r ≤ roundStep gen r s := by
  unfold roundStep; split <;> omega
theorem roundOf_ge {gen : Nat} : ∀ (L : List (List UInt8)) (r : Nat), r ≤ L.foldl (roundStep gen) r ∧ ∀ s ∈ L, mg gen s → numB s 5 ≤ L.foldl (roundStep gen) r
  | [], r => ⟨Nat.le_refl _, fun s h => by cases h⟩
  | x :: l, r => by
    have ih := roundOf_ge (gen := gen) l (roundStep gen r x)
    have h1 := roundStep_ge gen r x
    refine ⟨Nat.le_trans h1 ih.1, fun s hs hm => ?_⟩
    rcases List.mem_cons.1 hs with rfl | hs
    · refine Nat.le_trans ?_ ih.1
      unfold roundStep
      rw [if_pos (show s.length = 64 ∧ byteN s 0 = 197 ∧ numB s 1 = gen from hm)]; omega
    · exact ih.2 s hs hm
theorem roundOf_le {gen B : Nat} : ∀ (L : List (List UInt8)) (r : Nat), r ≤ B → (∀ s ∈ L, mg gen s → numB s 5 ≤ B) → L.foldl (roundStep gen) r ≤ B
  | [], r, h, _ => h
  | x :: l, r, h, hs => by
    refine roundOf_le l (roundStep gen r x) ?_ fun s h => hs s (by simp [h])
    unfold roundStep
    split
    · rename_i hm
      have := hs x (by simp) hm
      omega
    · exact h
theorem frame_get {gen R seq t : Nat} {b : List UInt8} (h : t < (frameL gen R seq b).length) : (frameL gen R seq b)[t]? = some (secL gen R seq t (partsN b.length) (partL b t)) := by
  rw [frameL_len] at h
  unfold frameL
  rw [List.getElem?_map, List.getElem?_range h]; rfl
theorem sec_mg {gen R seq i n : Nat} {x : List UInt8} (hg : gen < 4294967296) (hx : x.length ≤ 48) : mg gen (secL gen R seq i n x) := ⟨secL_len _ _ _ _ _ hx, rfl, sec_gen _ _ _ _ _ _ hg⟩
section
variable {L L' : List (List UInt8)} {gen seq R T : Nat} {want : List (List UInt8)} {b : List UInt8}
theorem oks_mem (h : OKS L gen seq) (hg : gen < 4294967296) (hs : seq < 4294967296) : ∀ s ∈ L.take (cntK L), mg gen s ∧ numB s 9 = seq ∧ numB s 5 = numB (L.headD []) 5 := fun s hm => by
  obtain ⟨h1, h2, h3, h4, h5⟩ := h
  have hf := (frameK_zero h5).2.2.2.1
  rw [hf] at hm
  unfold frameL at hm
  obtain ⟨i, _, rfl⟩ := List.mem_map.1 hm
  exact ⟨sec_mg hg (partL_le _ _), sec_seq _ _ _ _ _ _ hs, sec_round _ _ _ _ _ _ (numB_lt _ _)⟩
theorem scan_none (k : Nat) (h : ¬ OKS L gen seq) : scanG gen k L seq = ([], 0) := by
  cases k with
  | zero => rfl
  | succ k => simp only [scanG, standK_no h, if_true]
theorem scan_stop (gen : Nat) : ∀ (k : Nat) (L : List (List UInt8)) (s : Nat), L.length < k → ¬ OKS (L.drop (scanG gen k L s).2) gen (s + (scanG gen k L s).1.length)
  | 0, L, s, h => by omega
  | k + 1, L, s, h => by
    by_cases hO : OKS L gen s
    · have hn : ¬ (standK L gen s).2 = 0 := by rw [standK_yes hO]; exact hO.cnt
      have hle := standK_le L gen s
      have ih := scan_stop gen k (L.drop (standK L gen s).2) (s + 1) (by rw [List.length_drop]; omega)
      simp only [scanG, if_neg hn, List.length_cons]
      rw [List.drop_drop] at ih
      rw [show s + ((scanG gen k (L.drop (standK L gen s).2) (s + 1)).1.length + 1) = s + 1 + (scanG gen k (L.drop (standK L gen s).2) (s + 1)).1.length by omega]
      exact ih
    · rw [scan_none _ hO]; exact hO
/-- a journal's sectors: what stands, and what is behind it. -/
structure JI (L : List (List UInt8)) (gen R : Nat) (want : List (List UInt8)) (T : Nat) : Prop where
  scan : (scanK L gen).1 = (want, T)
  seq : ∀ s ∈ L.drop T, mg gen s → numB s 9 ≤ want.length
  rnd : ∀ s ∈ L.drop T, mg gen s → numB s 5 < R
  all : ∀ s ∈ L, mg gen s → numB s 5 ≤ R
theorem JI.re (h : JI L gen R want T) : JI L gen (roundOf gen L + 1) want T :=
  ⟨h.scan, h.seq, fun s hs hm => Nat.lt_succ_of_le ((roundOf_ge L 0).2 s (List.mem_of_mem_drop hs) hm), fun s hs hm => Nat.le_succ_of_le ((roundOf_ge L 0).2 s hs hm)⟩
theorem JI.le (h : JI L gen R want T) : roundOf gen L ≤ R := roundOf_le L 0 (Nat.zero_le _) h.all
theorem JI.len (h : JI L gen R want T) : T ≤ L.length ∧ want.length ≤ T := by
  have h1 := scanG_le gen (L.length + 1) L 0
  have h2 : scanG gen (L.length + 1) L 0 = (want, T) := h.scan
  rw [h2] at h1
  exact h1
theorem JI.scanTo (h : JI L gen R want T) (hT : L'.take T = L.take T) (hl : L'.length = L.length) : (scanK L' gen).1 = (want ++ (scanG gen (L'.length + 1) (L'.drop T) want.length).1, T + (scanG gen (L'.length + 1) (L'.drop T) want.length).2) := by
  have h2 : scanG gen (L.length + 1) L 0 = (want, T) := h.scan
  have hm := scan_more gen (L.length + 1) L 0 (L'.length + 1) (L'.drop T)
  rw [h2, Nat.zero_add] at hm
  have e : L.take (want, T).2 ++ L'.drop T = L' := by
    show L.take T ++ L'.drop T = L'
    rw [← hT, List.take_append_drop]
  rw [e] at hm
  show scanG gen (L'.length + 1) L' 0 = _
  rw [scan_fuel gen (L'.length + 1) L' 0 ((want, T).1.length + (L'.length + 1)) (by omega) (by omega)]
  exact hm
theorem JI.app (h : JI L gen R want T) (hg : gen ≠ 0) (hg2 : gen < 4294967296) (hR : R ≠ 0) (hR2 : R < 4294967296) (hb : b.length ≤ 4000) (hw : want.length + 1 < 4294967296) (hfit : T + partsN b.length ≤ L.length)
    (hL : L' = L.take T ++ (frameL gen R want.length b ++ L.drop (T + partsN b.length))) : JI L' gen R (want ++ [b]) (T + partsN b.length) := by
  have hp := partsN_pos hb
  have hFl := frameL_len gen R want.length b
  have hl : L'.length = L.length := by
    rw [hL, List.length_append, List.length_append, List.length_take, List.length_drop, hFl]; omega
  have hTl : (L.take T).length = T := by rw [List.length_take]; omega
  have hT : L'.take T = L.take T := by
    rw [hL, List.take_append_of_le_length (by omega), List.take_of_length_le (by omega)]
  have hD : L'.drop T = frameL gen R want.length b ++ L.drop (T + partsN b.length) := by
    rw [hL, List.drop_append_of_le_length (by omega), List.drop_of_length_le (by omega), List.nil_append]
  have hD2 : L'.drop (T + partsN b.length) = L.drop (T + partsN b.length) := by
    rw [← List.drop_drop, hD, List.drop_append_of_le_length (by omega), List.drop_of_length_le (by omega), List.nil_append]
  have hin : ∀ s ∈ L.drop (T + partsN b.length), s ∈ L.drop T := fun s hs => by
    rw [← List.drop_drop] at hs
    exact List.mem_of_mem_drop hs
  have hno : ¬ OKS (L.drop (T + partsN b.length)) gen (want.length + 1) := fun hO => by
    obtain ⟨k1, k2, _⟩ := oks_mem hO hg2 hw _ hO.head
    have := h.seq _ (hin _ (List.mem_of_mem_take hO.head)) k1
    omega
  have hst := frame_stands (seq := want.length) hg hR hR2 hb (L.drop (T + partsN b.length))
  refine ⟨?_, ?_, ?_, ?_⟩
  · rw [h.scanTo hT hl, hD]
    simp only [scanG, hst, if_neg (show ¬ partsN b.length = 0 by omega)]
    rw [show (frameL gen R want.length b ++ L.drop (T + partsN b.length)).drop (partsN b.length) = L.drop (T + partsN b.length) from (by rw [List.drop_append_of_le_length (by omega), List.drop_of_length_le (by omega), List.nil_append]), scan_none _ hno]
    rfl
  · rw [hD2]
    intro s hs hm
    have := h.seq s (hin s hs) hm
    rw [List.length_append]; omega
  · rw [hD2]
    exact fun s hs hm => h.rnd s (hin s hs) hm
  · rw [hL]
    intro s hs hm
    rcases List.mem_append.1 hs with hs | hs
    · exact h.all s (List.mem_of_mem_take hs) hm
    · rcases List.mem_append.1 hs with hs | hs
      · unfold frameL at hs
        obtain ⟨i, _, rfl⟩ := List.mem_map.1 hs
        rw [sec_round _ _ _ _ _ _ hR2]; exact Nat.le_refl _
      · exact h.all s (List.mem_of_mem_drop hs) hm
/-- some of an append's sectors, others as they were, others unreadable. -/
def Mix (L L' : List (List UInt8)) (T : Nat) (F : List (List UInt8)) : Prop :=
  L'.length = L.length ∧ ∀ i : Nat, L'[i]? = L[i]? ∨ ∃ t, i = T + t ∧ t < F.length ∧ (L'[i]? = F[t]? ∨ L'[i]? = some [])
theorem nil_mg (gen : Nat) : ¬ mg gen [] := fun h => by cases h.1
theorem JI.crash (h : JI L gen R want T) (hg : gen ≠ 0) (hg2 : gen < 4294967296) (hR : R ≠ 0) (hR2 : R < 4294967296) (hb : b.length ≤ 4000) (hw : want.length + 1 < 4294967296) (hfit : T + partsN b.length ≤ L.length)
    (hM : Mix L L' T (frameL gen R want.length b)) : ∃ want2 T2, (want2 = want ∨ want2 = want ++ [b]) ∧ JI L' gen (roundOf gen L' + 1) want2 T2 ∧ roundOf gen L' ≤ R := by
  obtain ⟨hl, hM⟩ := hM
  have hp := partsN_pos hb
  have hFl := frameL_len gen R want.length b
  have hT : L'.take T = L.take T := by
    apply List.ext_getElem?
    intro i
    by_cases hi : i < T
    · rw [List.getElem?_take_of_lt hi, List.getElem?_take_of_lt hi]
      rcases hM i with e | ⟨t, ht, _⟩
      · exact e
      · omega
    · rw [List.getElem?_eq_none (by rw [List.length_take]; omega), List.getElem?_eq_none (by rw [List.length_take]; omega)]
  have hscan := h.scanTo hT hl
  have inD : ∀ {M : List (List UInt8)} {i : Nat} {s : List UInt8}, M[T + i]? = some s → s ∈ M.drop T := fun {M i s} e => List.mem_of_getElem? (i := i) (by rw [List.getElem?_drop]; exact e)
  by_cases hO : OKS (L'.drop T) gen want.length
  · have hmem := oks_mem hO hg2 (by omega)
    have hc := hO.cnt
    have hcl := hO.2.2.1
    -- each of its sectors
    have hat : ∀ i, i < cntK (L'.drop T) → ∃ s, L'[T + i]? = some s ∧ mg gen s ∧ numB s 9 = want.length ∧ numB s 5 = numB ((L'.drop T).headD []) 5 := fun i hi => by
      have h1 : (L'.drop T)[i]? = some ((L'.drop T)[i]'(by omega)) := List.getElem?_eq_getElem (by omega)
      obtain ⟨k1, k2, k3⟩ := hmem _ (mem_take_of hi h1)
      exact ⟨_, by rw [← List.getElem?_drop]; exact h1, k1, k2, k3⟩
    have hhead : L'[T]? = some ((L'.drop T).headD []) := by
      have h0 := hO.1
      have e : (L'.drop T)[0]? = L'[T]? := by rw [List.getElem?_drop, Nat.add_zero]
      rw [← e]
      cases hd : L'.drop T with
      | nil => exact absurd hd h0
      | cons x r => rfl
    obtain ⟨hm0, _, _⟩ := hmem _ hO.head
    -- an old one?
    have old : L'[T]? = L[T]? → False := fun e => by
      have hr := h.rnd _ (inD (i := 0) (by rw [Nat.add_zero, ← e]; exact hhead)) hm0
      have heq : (L'.drop T).take (cntK (L'.drop T)) = (L.drop T).take (cntK (L'.drop T)) := by
        apply List.ext_getElem?
        intro i
        by_cases hi : i < cntK (L'.drop T)
        · rw [List.getElem?_take_of_lt hi, List.getElem?_take_of_lt hi, List.getElem?_drop, List.getElem?_drop]
          obtain ⟨s, k0, k1, k2, k3⟩ := hat i hi
          rcases hM (T + i) with e | ⟨t, ht, htl, e | e⟩
          · exact e
          · rw [k0, frame_get htl] at e
            rw [Option.some.inj e, sec_round _ _ _ _ _ _ hR2] at k3
            omega
          · rw [k0] at e
            rw [Option.some.inj e] at k1
            exact absurd k1 (nil_mg gen)
        · rw [List.getElem?_eq_none (by rw [List.length_take]; omega), List.getElem?_eq_none (by rw [List.length_take]; omega)]
      have hst := stand_more hO ((L.drop T).drop (cntK (L'.drop T)))
      rw [heq, List.take_append_drop] at hst
      have hstop := scan_stop gen (L.length + 1) L 0 (by omega)
      have h2 : scanG gen (L.length + 1) L 0 = (want, T) := h.scan
      rw [h2, Nat.zero_add] at hstop
      rw [standK_no hstop, standK_yes hO] at hst
      exact hc (congrArg Prod.snd hst).symm
    rcases hM T with e | ⟨t, ht, htl, e | e⟩
    · exact (old e).elim
    · have ht0 : t = 0 := by omega
      subst ht0
      rw [hhead, frame_get htl] at e
      have e := Option.some.inj e
      have hn : cntK (L'.drop T) = partsN b.length := by
        unfold cntK
        rw [e]
        show (UInt8.ofNat (partsN b.length)).toNat = _
        have := partsN_le b.length
        rw [UInt8.toNat_ofNat']; omega
      have hrd : numB ((L'.drop T).headD []) 5 = R := by rw [e, sec_round _ _ _ _ _ _ hR2]
      have hL : L' = L.take T ++ (frameL gen R want.length b ++ L.drop (T + partsN b.length)) := by
        apply List.ext_getElem?
        intro i
        have hTl : (L.take T).length = T := by rw [List.length_take]; omega
        rw [List.getElem?_append, hTl, List.getElem?_append, hFl]
        by_cases h0 : i < T
        · rw [if_pos h0, ← hT, List.getElem?_take_of_lt h0]
        · rw [if_neg h0]
          by_cases h1 : i - T < partsN b.length
          · rw [if_pos h1]
            obtain ⟨s, k0, k1, k2, k3⟩ := hat (i - T) (by omega)
            rw [show T + (i - T) = i by omega] at k0
            rcases hM i with e | ⟨t, ht, htl, e | e⟩
            · have := h.rnd s (inD (i := i - T) (by rw [show T + (i - T) = i by omega, ← e]; exact k0)) k1
              omega
            · rw [e]; congr 1; omega
            · rw [k0] at e
              rw [Option.some.inj e] at k1
              exact absurd k1 (nil_mg gen)
          · rw [if_neg h1, List.getElem?_drop, show T + partsN b.length + (i - T - partsN b.length) = i by omega]
            rcases hM i with e | ⟨t, ht, htl, _⟩
            · exact e
            · omega
      have hA := h.app hg hg2 hR hR2 hb hw hfit hL
      exact ⟨_, _, .inr rfl, hA.re, hA.le⟩
    · rw [hhead] at e
      rw [Option.some.inj e] at hm0
      exact absurd hm0 (nil_mg gen)
  · have hall : ∀ {i : Nat} {s : List UInt8}, L'[i]? = some s → mg gen s → s ∈ L ∧ L[i]? = some s ∨ (numB s 9 = want.length ∧ numB s 5 = R) := fun {i s} e hm => by
      rcases hM i with e2 | ⟨t, ht, htl, e2 | e2⟩
      · rw [e] at e2
        exact .inl ⟨List.mem_of_getElem? e2.symm, e2.symm⟩
      · rw [e, frame_get htl] at e2
        rw [Option.some.inj e2]
        exact .inr ⟨sec_seq _ _ _ _ _ _ (by omega), sec_round _ _ _ _ _ _ hR2⟩
      · rw [e] at e2
        rw [Option.some.inj e2] at hm
        exact absurd hm (nil_mg gen)
    have hdrop : ∀ s ∈ L'.drop T, ∃ i : Nat, L'[T + i]? = some s := fun s hs => by
      obtain ⟨i, hi⟩ := List.mem_iff_getElem?.1 hs
      exact ⟨i, by rw [← List.getElem?_drop]; exact hi⟩
    have hJ : JI L' gen (R + 1) want T := by
      refine ⟨by rw [hscan, scan_none _ hO, List.append_nil]; rfl, fun s hs hm => ?_, fun s hs hm => ?_, fun s hs hm => ?_⟩
      · obtain ⟨i, hi⟩ := hdrop s hs
        rcases hall hi hm with ⟨_, e⟩ | ⟨e, _⟩
        · exact h.seq s (inD e) hm
        · omega
      · obtain ⟨i, hi⟩ := hdrop s hs
        rcases hall hi hm with ⟨k, _⟩ | ⟨_, e⟩
        · have := h.all s k hm; omega
        · omega
      · obtain ⟨i, hi⟩ := List.mem_iff_getElem?.1 hs
        rcases hall hi hm with ⟨k, _⟩ | ⟨_, e⟩
        · have := h.all s k hm; omega
        · omega
    have hle : roundOf gen L' ≤ R := roundOf_le L' 0 (Nat.zero_le _) fun s hs hm => by
      obtain ⟨i, hi⟩ := List.mem_iff_getElem?.1 hs
      rcases hall hi hm with ⟨k, _⟩ | ⟨_, e⟩
      · exact h.all s k hm
      · omega
    exact ⟨want, T, .inl rfl, hJ.re, hle⟩
end
end Go.Proofs.Ytidijnfkcpbkiaa

/- Journal: plainly: an append on a disk that may go down in its midst. -/
set_option linter.unusedVariables false
set_option linter.unusedSimpArgs false
set_option maxRecDepth 20000
set_option maxHeartbeats 2000000
namespace Go.Proofs.Ytidijnfkcpbkiaa
open Go Go.Mx Go.Proofs
theorem write_any {d : DS} (h : d.down = false) {i : Int} (h0 : 0 ≤ i) (h1 : i < d.good.length) {b : List UInt8} (hb : b.length = 64) :
    ((writeD d i b).2 = 0 ∧ (writeD d i b).1.down = false ∧ (writeD d i b).1.good = d.good ∧ (writeD d i b).1.pend = d.pend ++ [⟨i, ⟨b, false, hb⟩⟩]) ∨
    ((writeD d i b).2 = 19 ∧ (writeD d i b).1.down = true ∧ (writeD d i b).1.good = d.good ∧ (writeD d i b).1.pend = d.pend ++ [⟨i, ⟨b, true, hb⟩⟩]) := by
  unfold writeD
  rw [if_pos (hasD_up h h0 h1), dif_pos hb]
  split
  · split
    · exact .inr ⟨rfl, rfl, rfl, rfl⟩
    · exact .inl ⟨rfl, h, rfl, rfl⟩
  · exact .inl ⟨rfl, h, rfl, rfl⟩
theorem read_put {d d2 : DS} (h : d.down = false) (h2 : d2.down = false) {i : Int} (h0 : 0 ≤ i) (h1 : i < d.good.length) {b : List UInt8} (hb : b.length = 64) (hg : d2.good = d.good) (hp : d2.pend = d.pend ++ [⟨i, ⟨b, false, hb⟩⟩]) (j : Int) :
    readD d2 j = if j = i then (b, 0) else readD d j := by
  have hs : readS d2 j = if i = j then ⟨b, false, hb⟩ else readS d j := by
    unfold readS
    rw [hg, hp]
    exact lastP_snoc j _ _ _
  have hh : hasD d2 j = hasD d j := by unfold hasD; rw [h, h2, hg]
  unfold readD
  rw [hs, hh]
  by_cases e : j = i
  · subst e
    rw [if_pos (hasD_up h h0 h1), if_pos rfl, if_pos rfl]; rfl
  · rw [if_neg (show ¬ i = j from fun e2 => e e2.symm), if_neg e]
theorem sync_any {d : DS} (h : d.down = false) : (syncD d).2 = 0 ∧ (syncD d).1.down = false ∧ (syncD d).1.pend = [] ∧ (syncD d).1.good.length = d.good.length := by
  unfold syncD
  rw [h]
  exact ⟨rfl, h, rfl, settleL_len _ _ _ _⟩
theorem read_sync2 {m : Nat} {d : DS} (h : d.down = false) (ok : d.ok m) (j : Int) : readD (syncD d).1 j = readD d j := by
  have hh : hasD (syncD d).1 j = hasD d j := by
    unfold hasD
    rw [(sync_any h).2.1, h, (sync_any h).2.2.2]
  unfold readD
  rw [hh]
  by_cases e : hasD d j = 0
  · rw [if_pos e, if_pos e]
    have hr : 0 ≤ j ∧ j < d.good.length := by
      unfold hasD at e
      rw [h] at e
      rw [if_neg (by decide)] at e
      split at e
      · cases e
      · omega
    obtain ⟨k, rfl⟩ := Int.eq_ofNat_of_zero_le hr.1
    have hs : readS (syncD d).1 k = readS d k := by
      unfold syncD
      rw [h]
      show (settleL (fun _ => true) 0 d.good d.pend)[k]?.getD Sec.z = lastP k (d.good[k]?.getD Sec.z) d.pend
      exact settle_all _ _ _ (by omega) fun x hx => (ok.at_ x hx).1
    rw [hs]
  · rw [if_neg e, if_neg e]
theorem writes_any : ∀ (f : List (List UInt8)) (d : DS) (m : Nat) (i : Int), d.down = false → d.ok m → 0 ≤ i → i + f.length ≤ d.good.length → (∀ s ∈ f, s.length = 64) →
    (writesD d i f).1.good = d.good ∧ (((writesD d i f).2 = 0 ∧ (writesD d i f).1.down = false ∧ ∀ j : Int, readD (writesD d i f).1 j = if i ≤ j ∧ j < i + f.length then (f[(j - i).toNat]?.getD [], 0) else readD d j) ∨
      ((writesD d i f).2 = 19 ∧ (writesD d i f).1.down = true ∧ ∀ x ∈ (writesD d i f).1.pend, x ∈ d.pend ∨ ∃ t : Nat, t < f.length ∧ x.i = i + t ∧ f[t]? = some x.s.b))
  | [], d, m, i, h, ok, h0, h1, hs => ⟨rfl, .inl ⟨rfl, h, fun j => by
    rw [if_neg (by simp only [List.length_nil]; omega)]; rfl⟩⟩
  | x :: r, d, m, i, h, ok, h0, h1, hs => by
    rw [List.length_cons] at h1
    have hx : x.length = 64 := hs x (by simp)
    rcases write_any h h0 (by omega) hx with ⟨a1, a2, a3, a4⟩ | ⟨a1, a2, a3, a4⟩
    · have hd : writesD d i (x :: r) = writesD (writeD d i x).1 (i + 1) r := by
        rw [writesD, if_neg (not_not_intro a1)]
      rw [hd]
      obtain ⟨g, ih⟩ := writes_any r (writeD d i x).1 (m + 1) (i + 1) a2 (writeD_ok ok i x) (by omega) (by rw [a3]; omega) fun s hs' => hs s (by simp [hs'])
      refine ⟨g.trans a3, ?_⟩
      rcases ih with ⟨b1, b2, b3⟩ | ⟨b1, b2, b3⟩
      · refine .inl ⟨b1, b2, fun j => ?_⟩
        rw [b3 j, read_put h a2 h0 (by omega) hx a3 a4, List.length_cons]
        by_cases e : j = i
        · subst e
          rw [if_neg (by omega), if_pos rfl, if_pos (by omega), show (j - j).toNat = 0 by omega]; rfl
        · by_cases e2 : i + 1 ≤ j ∧ j < i + 1 + r.length
          · rw [if_pos e2, if_pos (by omega), show (j - i).toNat = (j - (i + 1)).toNat + 1 by omega, List.getElem?_cons_succ]
          · rw [if_neg e2, if_neg e, if_neg (by omega)]
      · refine .inr ⟨b1, b2, fun y hy => ?_⟩
        rcases b3 y hy with hy | ⟨t, t1, t2, t3⟩
        · rw [a4] at hy
          rcases List.mem_append.1 hy with hy | hy
          · exact .inl hy
          · rw [List.mem_singleton.1 hy]
            exact .inr ⟨0, by simp, by show i = i + ((0 : Nat) : Int); omega, rfl⟩
        · exact .inr ⟨t + 1, by rw [List.length_cons]; omega, by omega, t3⟩
    · have hd : writesD d i (x :: r) = writeD d i x := by
        rw [writesD, if_pos (by rw [a1]; decide)]
      rw [hd]
      refine ⟨a3, .inr ⟨a1, a2, fun y hy => ?_⟩⟩
      rw [a4] at hy
      rcases List.mem_append.1 hy with hy | hy
      · exact .inl hy
      · rw [List.mem_singleton.1 hy]
        exact .inr ⟨0, by simp, by show i = i + ((0 : Nat) : Int); omega, rfl⟩
theorem settle_some (k : Nat → Bool) {j : Nat} : ∀ (l : List Wt) (t : Nat) (gl : List Sec), (settleL k t gl l)[j]? = gl[j]? ∨ ∃ x ∈ l, x.i.toNat = j ∧ (settleL k t gl l)[j]? = some x.s
  | [], _, _ => .inl rfl
  | x :: r, t, gl => by
    rw [settleL]
    rcases settle_some k r (t + 1) (if k t then gl.set x.i.toNat x.s else gl) with e | ⟨y, hy, h1, h2⟩
    · rw [e]
      split
      · by_cases hx : x.i.toNat = j
        · by_cases hj : j < gl.length
          · exact .inr ⟨x, by simp, hx, by rw [hx]; exact List.getElem?_set_self hj⟩
          · left
            rw [List.getElem?_eq_none (by rw [List.length_set]; omega), List.getElem?_eq_none (by omega)]
        · exact .inl (List.getElem?_set_ne hx)
      · exact .inl rfl
    · exact .inr ⟨y, by simp [hy], h1, h2⟩
/-- an append: as a whole, or in its midst the disk went down. -/
theorem append_any {d : DS} {m : Nat} {J : JS} {b : List UInt8} (h : d.down = false) (hp0 : d.pend = []) (ok : d.ok m) (hJ : J.ok) (hgen : J.gen ≠ 0) (hro : J.round ≠ 0) (hd : J.dead = false) (hb : b.length ≤ 4000)
    (hfit : J.tail + partsN b.length ≤ J.size) (hdisk : J.base + J.size ≤ d.good.length) {size T : Nat} (hsz : (size : Int) = J.size) (hT : (T : Int) = J.tail) :
    (appendJ d J b).1.1.good.length = d.good.length ∧
    (((appendJ d J b).2 = 0 ∧ (appendJ d J b).1.1.down = false ∧ (appendJ d J b).1.1.pend = [] ∧ (appendJ d J b).1.2 = { J with tail := J.tail + partsN b.length, seq := J.seq + 1 } ∧
      readsD (appendJ d J b).1.1 J.base.toNat size = (readsD d J.base.toNat size).take T ++ (frameL J.gen J.round J.seq.toNat b ++ (readsD d J.base.toNat size).drop (T + partsN b.length))) ∨
    ((appendJ d J b).2 = 19 ∧ (appendJ d J b).1.1.down = true ∧ (appendJ d J b).1.2 = { J with dead := true } ∧ ∀ keep, Mix (readsD d J.base.toNat size) (readsD (restartD (appendJ d J b).1.1 keep) J.base.toNat size) T (frameL J.gen J.round J.seq.toNat b))) := by
  have hp := partsN_pos hb
  obtain ⟨⟨hb0, hb1⟩, ⟨hs0, hs1⟩, hgen2, hrd, ⟨ht0, ht1⟩, ⟨hq0, hq1⟩⟩ := hJ
  have hF : appendF J b = frameL J.gen J.round J.seq.toNat b := by
    unfold appendF frameK
    rw [if_neg (by omega), if_neg (by omega)]
  have hFl : (appendF J b).length = partsN b.length := by rw [hF, frameL_len]
  have hF64 : ∀ s ∈ appendF J b, s.length = 64 := fun s hs => by rw [hF] at hs; exact (sec_mark hs).2
  obtain ⟨wg, hcase⟩ := writes_any (appendF J b) d m (J.base + J.tail) h ok (by omega) (by rw [hFl]; omega) hF64
  have wok := writesD_ok (f := appendF J b) (i := J.base + J.tail) ok
  rcases hcase with ⟨w0, wd, wr⟩ | ⟨w0, wd, wp⟩
  · obtain ⟨s0, sd, sp, sl⟩ := sync_any wd
    have hA : appendJ d J b = (((syncD (writesD d (J.base + J.tail) (appendF J b)).1).1, { J with tail := J.tail + partsN b.length, seq := J.seq + 1 }), 0) := by
      unfold appendJ
      rw [if_neg (by omega), if_neg (by rw [hd]; decide), if_neg (by omega), if_neg (not_not_intro w0), if_neg (not_not_intro s0)]
    rw [hA]
    refine ⟨sl.trans (by rw [wg]), .inl ⟨rfl, sd, sp, rfl, ?_⟩⟩
    rw [← hF, ← hFl]
    refine reads_cut (by rw [hFl]; omega) fun j => ?_
    show (readD (syncD (writesD d (J.base + J.tail) (appendF J b)).1).1 j).1 = _
    rw [read_sync2 wd wok, wr, show ((J.base.toNat : Int)) = J.base by omega, hT]
    split <;> rfl
  · have hA : appendJ d J b = (((writesD d (J.base + J.tail) (appendF J b)).1, { J with dead := true }), 19) := by
      unfold appendJ
      rw [if_neg (by omega), if_neg (by rw [hd]; decide), if_neg (by omega), if_pos (by rw [w0]; decide), w0]
    rw [hA]
    refine ⟨by show (writesD d (J.base + J.tail) (appendF J b)).1.good.length = _; rw [wg], .inr ⟨rfl, wd, rfl, fun keep => ⟨by rw [readsD_len, readsD_len], fun i => ?_⟩⟩⟩
    rw [reads_get, reads_get]
    by_cases hi : i < size
    · rw [if_pos hi, if_pos hi, show ((J.base.toNat : Int)) = J.base by omega]
      obtain ⟨D, hD⟩ : ∃ D, restartD (writesD d (J.base + J.tail) (appendF J b)).1 keep = D := ⟨_, rfl⟩
      have hDg : D.good = settleL (keepF keep) 0 d.good (writesD d (J.base + J.tail) (appendF J b)).1.pend := by rw [← hD, ← wg]; rfl
      have hDp : D.pend = [] := by rw [← hD]; rfl
      have hDd : D.down = false := by rw [← hD]; rfl
      rw [hD]
      have hDl : D.good.length = d.good.length := by rw [hDg]; exact settleL_len _ _ _ _
      have hh : hasD D (J.base + i) = 0 := hasD_up hDd (by omega) (by omega)
      have hh2 : hasD d (J.base + i) = 0 := hasD_up h (by omega) (by omega)
      have hS : readS D (J.base + i) = D.good[(J.base + (i : Int)).toNat]?.getD Sec.z := by unfold readS; rw [hDp]; rfl
      have hS2 : readS d (J.base + i) = d.good[(J.base + (i : Int)).toNat]?.getD Sec.z := by unfold readS; rw [hp0]; rfl
      unfold readD
      rw [if_pos hh, if_pos hh2, hS, hS2, hDg]
      rcases settle_some (keepF keep) (j := (J.base + (i : Int)).toNat) (writesD d (J.base + J.tail) (appendF J b)).1.pend 0 d.good with e | ⟨x, hx, x1, x2⟩
      · rw [e]; exact .inl rfl
      · rcases wp x hx with hx | ⟨t, t1, t2, t3⟩
        · rw [hp0] at hx; cases hx
        · rw [x2]
          refine .inr ⟨t, by omega, by rw [← hF]; exact t1, ?_⟩
          show (some (if x.s.torn = true then ([], (5 : Int)) else (x.s.b, 0)).1 = _) ∨ (some (if x.s.torn = true then ([], (5 : Int)) else (x.s.b, 0)).1 = _)
          rw [← hF, t3]
          cases x.s.torn
          · exact .inl rfl
          · exact .inr rfl
    · rw [if_neg hi, if_neg hi]; exact .inl rfl
end Go.Proofs.Ytidijnfkcpbkiaa

/- Journal: Create, the small ones, and the sectors of a stretch. -/
set_option linter.unusedVariables false
set_option linter.unusedSimpArgs false
set_option maxRecDepth 20000
set_option maxHeartbeats 2000000
namespace Go.Proofs.Ytidijnfkcpbkiaa
open Go Go.Mx Go.Proofs
open W (OwnB GivesW)
def JS.anew (J : JS) : JS := { J with tail := 0, seq := 0 }
theorem openK_kind (d : DS) (base size : Int) (gen : Nat) : ((openK d base size gen).2.2 = 0 → ∃ J, (openK d base size gen).1 = some J) ∧ ((openK d base size gen).2.2 ≠ 0 → (openK d base size gen).1 = none ∧ (openK d base size gen).2.1 = []) := by
  unfold openK
  split
  · rename_i h
    exact ⟨fun e => absurd e h, fun _ => ⟨rfl, rfl⟩⟩
  · split
    · exact ⟨fun e => (by cases e), fun _ => ⟨rfl, rfl⟩⟩
    · exact ⟨fun _ => ⟨_, rfl⟩, fun h => absurd rfl h⟩
section
variable {w w' w1 : World} {o o' o1 : Own} {q g n N m : Nat} {K : Nat → Prop} {b s : List UInt8} {a : Option Addr} {c : Nat} {l : List BS} {d : DS} {J : JS}
theorem Create_spec (h : DG w o g d) (ok : Tags w o) (hd : d.ok m) (hm : m < 100000) (base size : Int) (gen : Nat) :
    Calls Try.prog 29 #[.pointer (some (blk g)), .int .i64 base, .int .i64 size, .int .u32 gen] w (fun z w' => ∃ o' jp, z = .returned (.tuple #[.pointer jp, .int .i64 (openK d base size gen).2.2]) ∧ Step no w o w' o' ∧
      (∀ J, (openK d base size gen).1 = some J → ∃ q, jp = some (blk q) ∧ w.heap.size ≤ q ∧ JG w' o' q g J.anew)) := by
  refine (journal_Create.go _ _ _ _ (R := fun z w' => ∃ o' jp, z = (.tuple #[.pointer jp, .int .i64 (openK d base size gen).2.2]) ∧ Step no w o w' o' ∧
      (∀ J, (openK d base size gen).1 = some J → ∃ q, jp = some (blk q) ∧ w.heap.size ≤ q ∧ JG w' o' q g J.anew)) ?_).mono fun z w' ⟨u, he, o', jp, hu, hw⟩ => ⟨o', jp, by rw [he, hu], hw⟩
  unfold journal_Create.N
  obtain ⟨k0, k1⟩ := openK_kind d base size gen
  refine (Open_spec h ok hd hm base size gen).mono fun u w8 ⟨o8, jp, la, lc, l, he, s8, hmap, hr, hn, hj⟩ => ⟨_, _, _, _, _, he, fun h0 => ?_, fun h0 => ?_⟩
  · obtain ⟨J, hJ⟩ := k0 h0
    obtain ⟨q, rfl, hq, jg⟩ := hj J hJ
    have ha5 : ((blk q).add 5).add 0 = (blk q).add 5 := by rw [add_add]
    have ha6 : ((blk q).add 6).add 0 = (blk q).add 6 := by rw [add_add]
    refine ⟨_, rfl, ?_⟩
    rw [ha5, ha6]
    refine ⟨jg.mem.cana (i := 5) rfl, thenW_in fun w57 e57 => ?_⟩
    have b57 := jg.mem.seti 5 rfl e57
    refine ⟨b57.cana (i := 6) rfl, thenW_in fun w60 e60 => ?_⟩
    have X60 : Ext (fun b => b = q) w8 w60 := ((Ext.refl (fun b => b = q) w8).x_set (q := q) (i := 5) rfl (.inl rfl) e57).x_set (q := q) (i := 6) rfl (.inl rfl) e60
    obtain ⟨o60, s60⟩ := Step.store1 X60 s8.ok jg.tg
    refine ⟨o60, _, rfl, s8.trans' s60 fun i hi => .inr (by subst hi; exact hq), fun J2 hJ2 => ⟨q, rfl, hq, ?_⟩⟩
    rw [hJ] at hJ2
    cases hJ2
    exact ⟨b57.seti 6 rfl e60, by rw [s60.own jg.mem.lt]; exact jg.tg⟩
  · exact ⟨o8, _, rfl, s8, fun J hJ => by rw [(k1 h0).1] at hJ; cases hJ⟩
end
end Go.Proofs.Ytidijnfkcpbkiaa
