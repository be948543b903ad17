/- Snapshot: heads; the small functions of a store. -/
import Derived.Test.YtidijnfkcpbkiaaZD
import Derived.Test.YtidijnfkcpbkiaaZC
set_option linter.unusedVariables false
set_option linter.unusedSimpArgs false
set_option maxRecDepth 20000
set_option maxHeartbeats 2000000
namespace Go.Proofs.Ytidijnfkcpbkiaa
open Go Go.Mx Go.Proofs
open W (OwnB GivesW)
def whichN (n : Nat) : Nat := (n + 1) % 2
def headB (n : Nat) : List UInt8 := 94 :: (be4 n ++ List.replicate 59 0)
theorem headB_len (n : Nat) : (headB n).length = 64 := rfl
theorem and_one64 (k : Nat) : ((BitVec.ofInt (IntKind.bits .i64) (k : Int) &&& BitVec.ofInt (IntKind.bits .i64) 1).toNat : Nat) = k % 2 := by
  show ((BitVec.ofInt 64 (k : Int) &&& BitVec.ofInt 64 1)).toNat = k % 2
  rw [BitVec.toNat_and, show (BitVec.ofInt 64 1).toNat = 1 from rfl, Nat.and_one_is_mod, BitVec.ofInt_natCast, BitVec.toNat_ofNat]
  omega
section
variable {w w' w1 : World} {o o' o1 : Own} {q g p N m : Nat} {K : Nat → Prop} {b s : List UInt8} {a : Option Addr} {c : Nat} {d : DS} {J : JS} {lg : Option Addr}
theorem which_spec (n : Nat) (hn : n < 4294967296) : Calls Try.prog 35 #[.int .u32 n] w (Ret (.int .i64 (whichN n)) fun w' => w' = w) := by
  refine snapshot_which.run _ ?_
  unfold snapshot_which.N
  have e : IntKind.u32.wrap ((n : Int) + 1) = (((n + 1) % 4294967296 : Nat) : Int) := by rw [IntKind.wrap_u32]; omega
  rw [e, and_one64]
  refine ⟨by omega, by omega, ?_, rfl⟩
  congr 1
  rw [w64 (by omega) (by omega)]
  unfold whichN; omega
/-- a store. -/
structure SS where
  half : Int
  number : Nat
  dead : Bool
def SS.V (S : SS) (g : Nat) (lg : Option Addr) : List Value := [.pointer (some (blk g)), .int .i64 S.half, .int .u32 S.number, .pointer lg, .bool S.dead]
structure SG (w : World) (o : Own) (p g : Nat) (lg : Option Addr) (S : SS) : Prop where
  mem : Blk w p 60 (S.V g lg)
  tg : o p = some p
theorem SG.step {S : SS} (h : SG w o p g lg S) (s : Step K w o w' o') (hk : ¬ K p) : SG w' o' p g lg S := ⟨s.blk h.mem h.tg hk, by rw [s.own h.mem.lt]; exact h.tg⟩
theorem base_spec {S : SS} (h : SG w o p g lg S) (hh : 0 ≤ S.half ∧ S.half ≤ 1000) (n : Nat) (hn : n < 4294967296) : Calls Try.prog 27 #[.pointer (some (blk p)), .int .u32 n] w (Ret (.int .i64 (2 + whichN n * S.half)) fun w' => Ext no w w') := by
  refine snapshot_Store_base.run _ _ ?_
  unfold snapshot_Store_base.N
  have hw2 : whichN n < 2 := Nat.mod_lt _ (by decide)
  refine ⟨_, rfl, _, h.mem.cella (i := 1) rfl, fun w3 X3 => (which_spec n hn).mono fun u w9 ⟨he, hw⟩ => ⟨_, he, ?_⟩⟩
  subst hw
  have hm : (0 : Int) ≤ (whichN n : Int) * S.half ∧ (whichN n : Int) * S.half ≤ 1000 := by
    rcases Nat.lt_or_ge (whichN n) 1 with h0 | h0
    · rw [show whichN n = 0 by omega]; omega
    · rw [show whichN n = 1 by omega]; omega
  exact ⟨(h.mem.ext X3 id).cella (i := 1) rfl, by omega, by omega, by omega, by omega, rfl, X3⟩
theorem sNumber_spec {S : SS} (h : SG w o p g lg S) : Calls Try.prog 17 #[.pointer (some (blk p))] w (Ret (.int .u32 S.number) fun w' => w' = w) := by
  refine snapshot_Store_Number.run _ ?_
  unfold snapshot_Store_Number.N
  exact ⟨fun h => (by cases h), fun _ => ⟨_, rfl, _, h.mem.cella (i := 2) rfl, rfl, rfl⟩⟩
theorem sCount_spec {S : SS} (h : SG w o p g (some (blk q)) S) (hJ : JG w o q g J) (h0 : 0 ≤ J.seq) (h1 : J.seq ≤ 1000000) : Calls Try.prog 15 #[.pointer (some (blk p))] w (Ret (.int .i64 (J.seq - 1)) fun w' => w' = w) := by
  refine snapshot_Store_Count.run _ ?_
  unfold snapshot_Store_Count.N
  exact ⟨fun h => (by cases h), fun _ => ⟨_, rfl, _, h.mem.cella (i := 3) rfl, (jCount_spec hJ).mono fun u w9 ⟨he, hw⟩ => ⟨_, he, by omega, by omega, rfl, hw⟩⟩⟩
theorem sRoom_spec {S : SS} (h : SG w o p g (some (blk q)) S) (hJ : JG w o q g J) (hj : J.ok) : Calls Try.prog 16 #[.pointer (some (blk p))] w (Ret (.int .i64 (J.size - J.tail)) fun w' => Ext no w w') := by
  refine snapshot_Store_Room.run _ ?_
  unfold snapshot_Store_Room.N
  exact ⟨fun h => (by cases h), fun _ => ⟨_, rfl, _, h.mem.cella (i := 3) rfl, (jRoom_spec hJ hj.tail.1 hj.tail.2 hj.size.1 hj.size.2).mono fun u w9 ⟨he, hw⟩ => ⟨_, he, rfl, hw⟩⟩⟩
theorem see_spec {S : SS} (h : SG w o p g lg S) (ok : Tags w o) (k : Int) : Calls Try.prog 38 #[.pointer (some (blk p)), .int .i64 k] w (Ret (.int .i64 k) fun w' => ∃ o', Step (fun i => i = p) w o w' o' ∧ SG w' o' p g lg { S with dead := if k = 19 then true else S.dead }) := by
  refine snapshot_Store_see.run _ _ ?_
  unfold snapshot_Store_see.N
  have ha : ((blk p).add 4).add 0 = (blk p).add 4 := by rw [add_add]
  rw [show (if k = 19 then true else S.dead) = (if k = 19 then true else S.dead) from rfl]
  refine ⟨fun hk => ⟨_, rfl, ?_⟩, fun hk => ⟨rfl, _, (Step.refl _ ok), ?_⟩⟩
  · rw [ha]
    refine ⟨h.mem.cana (i := 4) rfl, thenW_in fun w2 e2 => ⟨rfl, ?_⟩⟩
    have X : Ext (fun b => b = p) w w2 := (Ext.refl (fun b => b = p) w).x_set (q := p) (i := 4) rfl (.inl rfl) e2
    obtain ⟨o2, s2⟩ := Step.store1 X ok h.tg
    exact ⟨o2, s2, by rw [if_pos hk]; exact h.mem.seti 4 rfl e2, by rw [s2.own h.mem.lt]; exact h.tg⟩
  · rw [if_neg hk]; exact h
/-- a head on its way: its first t bytes of the number are there. -/
def headT (n t : Nat) : List UInt8 := 0 :: ((be4 n).take t ++ List.replicate (63 - t) 0)
theorem head_spec (n : Nat) : Calls Try.prog 36 #[.int .u32 n] w (fun z w' => ∃ q, z = .returned (.slice (some (blk q)) 64 64) ∧ w.heap.size ≤ q ∧ q < w'.heap.size ∧ Ext no w w' ∧ Blk w' q 5 (bytesV (headB n))) := by
  refine (snapshot_head.go _ (R := fun z w' => ∃ q, z = (.slice (some (blk q)) 64 64) ∧ w.heap.size ≤ q ∧ q < w'.heap.size ∧ Ext no w w' ∧ Blk w' q 5 (bytesV (headB n))) ?_).mono fun z w' ⟨u, he, q, hu, hw⟩ => ⟨q, by rw [he, hu], hw⟩
  unfold snapshot_head.N
  obtain ⟨w3, hmk, X3, hb3, hlt3⟩ := dmk_bytes w 64 (by decide)
  refine ⟨_, _, _, w3, hmk, ?_⟩
  have hset : ∀ (l : List UInt8) (i : Nat) (v : UInt8), (bytesV l).set i (u8V v) = bytesV (l.set i v) := fun l i v => by unfold bytesV; rw [List.map_set]
  refine ⟨fun m vs w1 => ∃ t : Nat, vs = [.int .i64 t] ∧ m + t = 4 ∧ Ext no w w1 ∧ Blk w1 w.heap.size 5 (bytesV (headT n t)), 4, ⟨0, rfl, rfl, X3, hb3⟩, ?_⟩
  rintro m w7 i ⟨t, hi, hm, X7, hb7⟩
  simp only [List.cons.injEq, Value.int.injEq, true_and, and_true] at hi
  subst hi
  have hl7 : ∀ t, t ≤ 4 → (bytesV (headT n t)).length = 64 := fun t ht => by
    rw [bytesV_length]
    unfold headT
    rw [List.length_cons, List.length_append, List.length_take, List.length_replicate]
    show min t 4 + (63 - t) + 1 = 64
    omega
  refine ⟨fun ht => ?_, fun ht => ?_⟩
  · have ht4 : t < 4 := by omega
    refine ⟨by omega, by omega, fun e => ?_, fun e => ?_, fun e => ?_, fun e => ?_⟩
    · have ht0 : t = 0 := by omega
      subst ht0
      have had : ((blk w.heap.size).add (Int.toNat ((1 : Int) + ((0 : Nat) : Int)) * 1)).add 0 = (blk w.heap.size).add 1 := by rw [add_add]; rfl
      have hget : (bytesV (headT n 0))[1]? = some (u8V 0) := rfl
      have hv : Value.int .u8 (IntKind.u8.wrap ((n : Int) / 16777216)) = u8V (UInt8.ofNat (n / 16777216)) := wrapU8i (z := ((n / 16777216 : Nat) : Int)) (Int.natCast_nonneg _)
      refine ⟨by omega, by omega, _, rfl, by omega, by omega, ?_⟩
      rw [had, hv]
      refine ⟨hb7.cana (i := 1) hget, thenW_in fun w8 e8 => ⟨by omega, by omega, m - 1, by omega, 1, rfl, by omega, X7.x_set (q := w.heap.size) (i := 1) rfl (.inr (Nat.le_refl _)) e8, ?_⟩⟩
      have := hb7.seti 1 rfl e8
      rw [hset] at this
      skip
      exact this
    · have ht0 : t = 1 := by omega
      subst ht0
      have had : ((blk w.heap.size).add (Int.toNat ((1 : Int) + ((1 : Nat) : Int)) * 1)).add 0 = (blk w.heap.size).add 2 := by rw [add_add]; rfl
      have hget : (bytesV (headT n 1))[2]? = some (u8V 0) := rfl
      have hv : Value.int .u8 (IntKind.u8.wrap ((n : Int) / 65536)) = u8V (UInt8.ofNat (n / 65536)) := wrapU8i (z := ((n / 65536 : Nat) : Int)) (Int.natCast_nonneg _)
      refine ⟨by omega, by omega, _, rfl, by omega, by omega, ?_⟩
      rw [had, hv]
      refine ⟨hb7.cana (i := 2) hget, thenW_in fun w8 e8 => ⟨by omega, by omega, m - 1, by omega, 2, rfl, by omega, X7.x_set (q := w.heap.size) (i := 2) rfl (.inr (Nat.le_refl _)) e8, ?_⟩⟩
      have := hb7.seti 2 rfl e8
      rw [hset] at this
      skip
      exact this
    · have ht0 : t = 2 := by omega
      subst ht0
      have had : ((blk w.heap.size).add (Int.toNat ((1 : Int) + ((2 : Nat) : Int)) * 1)).add 0 = (blk w.heap.size).add 3 := by rw [add_add]; rfl
      have hget : (bytesV (headT n 2))[3]? = some (u8V 0) := rfl
      have hv : Value.int .u8 (IntKind.u8.wrap ((n : Int) / 256)) = u8V (UInt8.ofNat (n / 256)) := wrapU8i (z := ((n / 256 : Nat) : Int)) (Int.natCast_nonneg _)
      refine ⟨by omega, by omega, _, rfl, by omega, by omega, ?_⟩
      rw [had, hv]
      refine ⟨hb7.cana (i := 3) hget, thenW_in fun w8 e8 => ⟨by omega, by omega, m - 1, by omega, 3, rfl, by omega, X7.x_set (q := w.heap.size) (i := 3) rfl (.inr (Nat.le_refl _)) e8, ?_⟩⟩
      have := hb7.seti 3 rfl e8
      rw [hset] at this
      skip
      exact this
    · have ht0 : t = 3 := by omega
      subst ht0
      have had : ((blk w.heap.size).add (Int.toNat ((1 : Int) + ((3 : Nat) : Int)) * 1)).add 0 = (blk w.heap.size).add 4 := by rw [add_add]; rfl
      have hget : (bytesV (headT n 3))[4]? = some (u8V 0) := rfl
      have hv : Value.int .u8 (IntKind.u8.wrap ((n : Int) / 1)) = u8V (UInt8.ofNat (n / 1)) := wrapU8i (z := ((n / 1 : Nat) : Int)) (Int.natCast_nonneg _)
      refine ⟨by omega, by omega, _, rfl, by omega, by omega, ?_⟩
      rw [had, hv]
      refine ⟨hb7.cana (i := 4) hget, thenW_in fun w8 e8 => ⟨by omega, by omega, m - 1, by omega, 4, rfl, by omega, X7.x_set (q := w.heap.size) (i := 4) rfl (.inr (Nat.le_refl _)) e8, ?_⟩⟩
      have := hb7.seti 4 rfl e8
      rw [hset] at this
      rw [Nat.div_one] at this
      exact this
  · have ht4 : t = 4 := by omega
    subst ht4
    have had : ((blk w.heap.size).add (Int.toNat 0 * 1)).add 0 = (blk w.heap.size).add 0 := by rw [add_add]; rfl
    have hget : (bytesV (headT n 4))[0]? = some (u8V 0) := rfl
    refine ⟨_, rfl, by omega, ?_⟩
    rw [had]
    refine ⟨hb7.cana (i := 0) hget, thenW_in fun w8 e8 => ⟨w.heap.size, rfl, Nat.le_refl _, ?_, ?_, ?_⟩⟩
    · have := (hb7.seti 0 (v := u8V 94) rfl e8).lt; exact this
    · exact X7.x_set (q := w.heap.size) (i := 0) rfl (.inr (Nat.le_refl _)) e8
    · have := hb7.seti 0 (v := u8V 94) rfl e8
      rw [hset] at this
      exact this
end
end Go.Proofs.Ytidijnfkcpbkiaa

/- Snapshot: the number of a head (both). -/
set_option linter.unusedVariables false
set_option linter.unusedSimpArgs false
set_option maxRecDepth 20000
set_option maxHeartbeats 2000000
namespace Go.Proofs.Ytidijnfkcpbkiaa
open Go Go.Mx Go.Proofs
open W (OwnB GivesW)
/-- the number of a head's bytes at place i (0: it is none). -/
def numH (b : List UInt8) (i : Int) : Nat := if numB b 1 = 0 then 0 else if (whichN (numB b 1) : Int) ≠ i then 0 else if headB (numB b 1) = b then numB b 1 else 0
theorem numH_nil (i : Int) : numH [] i = 0 := by
  unfold numH
  exact if_pos (by unfold numB byteN; simp)
section
variable {w w' w1 : World} {o o' o1 : Own} {q g p N m : Nat} {K : Nat → Prop} {b s x y : List UInt8} {a ba : Option Addr} {c bc : Nat} {d : DS} {J : JS}
theorem byteN_at {l : List UInt8} {i : Nat} (h : i < l.length) : (l[i]).toNat = byteN l i := by
  unfold byteN; rw [List.getElem?_eq_getElem h]; rfl
theorem equalB_spec (hx : RowAt w a (bytesV x)) (hy : RowAt w ba (bytesV y)) (hl : x.length < 1000000) :
    Calls Try.prog 49 #[.slice a x.length c, .slice ba y.length bc] w (Ret (.bool (decide (x = y))) fun w' => Ext no w w') := by
  refine slices_Equal_byte_byte.run _ _ _ _ _ _ ?_
  unfold slices_Equal_byte_byte.N
  refine ⟨fun h => ⟨by rw [decide_eq_false fun e => h (by rw [e])], Ext.refl _ _⟩, fun h => ?_⟩
  have hlen : x.length = y.length := by omega
  refine ⟨fun m vs w1 => ∃ t : Nat, vs = [.int .i64 t] ∧ m + t = x.length ∧ Ext no w w1 ∧ x.take t = y.take t, x.length, ⟨0, rfl, rfl, Ext.refl _ _, rfl⟩, ?_⟩
  rintro m w7 i ⟨t, hi, hm, X7, ht7⟩
  simp only [List.cons.injEq, Value.int.injEq, true_and, and_true] at hi
  subst hi
  refine ⟨fun ht => ?_, fun ht => ⟨?_, X7⟩⟩
  · have htl : t < x.length := by omega
    obtain ⟨a1, h1, c1⟩ := byte_cell (hx.no X7) htl
    obtain ⟨a2, h2, c2⟩ := byte_cell (hy.no X7) (i := t) (by omega)
    refine ⟨a1, h1, by omega, by omega, _, by rw [Int.toNat_natCast]; exact c1, a2, h2, by omega, by omega, _, by rw [Int.toNat_natCast]; exact c2, fun hne w9 X9 => ⟨?_, X7.trans X9⟩, fun he => ⟨by omega, by omega, fun w9 X9 => ⟨m - 1, by omega, t + 1, rfl, by omega, X7.trans X9, ?_⟩⟩⟩
    · rw [decide_eq_false fun e => hne (by rw [e])]
    · have g1 := byteN_at htl
      have g2 := byteN_at (l := y) (i := t) (by omega)
      have : x[t] = y[t]'(by omega) := UInt8.toNat_inj.1 (by rw [g1, g2]; omega)
      rw [List.take_add_one, List.take_add_one, ht7, List.getElem?_eq_getElem htl, List.getElem?_eq_getElem (show t < y.length by omega), this]
  · have htt : t = x.length := by omega
    rw [List.take_of_length_le (by omega), List.take_of_length_le (by omega)] at ht7
    rw [decide_eq_true ht7]
theorem snumber_spec (h : DG w o g d) (ok : Tags w o) (i : Int) (hpl : d.pend.length < 1000000) :
    Calls Try.prog 24 #[.func (.func 25) #[.pointer (some (blk g))] #[], .int .i64 i] w (Ret (.int .u32 (numH (readD d i).1 i)) fun w' => Ext no w w') := by
  refine snapshot_number.run _ _ _ _ ?_
  unfold snapshot_number.N
  refine ⟨by kernel_rfl, ?_⟩
  refine Calls.mono (dRead_spec h ok i hpl) fun u w11 ⟨ra, rn, rc, o11, he, hn, hnc, s11, hR1, hR0⟩ => ⟨ra, rn, rc, _, he, fun hz => ?_, fun hz => ?_⟩
  all_goals have X11 : Ext no w w11 := s11.ext.mono fun b ⟨_, _, h⟩ _ => h
  · have e : (readD d i).1 = [] := by
      unfold readD at hz ⊢
      split at hz
      · rename_i h0
        rw [if_pos h0]
        split at hz
        · rename_i h1; rw [if_pos h1]
        · exact absurd rfl hz
      · rename_i h0
        rw [if_neg h0]
    rw [e]
    exact ⟨by rw [numH_nil]; rfl, X11⟩
  · obtain ⟨q, tt, e, hbk, hl, hq, _⟩ := hR0 hz
    subst e
    have hrow : RowAt w11 (some (blk q)) (bytesV (readD d i).1) := by
      have := (RowAt.of_blk hbk).take (bytesV (readD d i).1).length
      rwa [List.take_left] at this
    have h64 : (readD d i).1.length = 64 := by
      unfold readD at hz ⊢
      split at hz
      · rename_i h0
        rw [if_pos h0]
        split at hz
        · cases hz
        · rename_i h1
          rw [if_neg h1]; exact (readS d i).h
      · rename_i h0
        exact absurd hz h0
    generalize (readD d i).1 = b at *
    subst hn
    refine ⟨by omega, ?_⟩
    refine ⟨fun m vs w1 => ∃ t : Nat, vs = [.int .u32 (numP b 1 t), .int .i64 t] ∧ m + t = 4 ∧ w1 = w11, 4, ⟨0, rfl, rfl, rfl⟩, ?_⟩
    rintro m w12 n t ⟨t', hi', hm, rfl⟩
    simp only [List.cons.injEq, Value.int.injEq, true_and, and_true] at hi'
    obtain ⟨rfl, rfl⟩ := hi'
    refine ⟨fun ht => ?_, fun ht => ?_⟩
    · have ht4 : t' < 4 := by omega
      have hd : RowAt w12 (cutA (some (blk q)) rc 1 1) (bytesV (b.drop 1)) := by
        have := hrow.cut 1 rc (by rw [bytesV_length]; exact hnc)
        unfold bytesV at this ⊢
        rwa [← List.map_drop] at this
      obtain ⟨ad, ha, hcell⟩ := byte_cell hd (i := t') (by rw [List.length_drop]; omega)
      have hb : byteN (b.drop 1) t' = byteN b (1 + t') := by unfold byteN; rw [List.getElem?_drop]
      rw [hb] at hcell
      refine ⟨ad, ha, by omega, by omega, _, by rw [Int.toNat_natCast]; exact hcell, by omega, by omega, m - 1, by omega, t' + 1, ?_, by omega, rfl⟩
      rw [or_step _ _ (numP_lt b 1 t' (by omega)) (byteN_lt _ _)]; rfl
    · have ht4 : t' = 4 := by omega
      subst ht4
      rw [numP_four]
      have hlt := numB_lt b 1
      unfold numH
      refine ⟨fun h0 => ⟨by rw [if_pos (by omega)]; rfl, X11⟩, fun h0 => ?_⟩
      rw [if_neg (show ¬ numB b 1 = 0 by omega)]
      refine (which_spec (numB b 1) hlt).mono fun u w21 ⟨he, hw⟩ => ⟨_, he, fun hne => ⟨by rw [if_pos hne]; rfl, by subst hw; exact X11⟩, fun heq => ?_⟩
      subst hw
      rw [if_neg (not_not_intro heq)]
      refine (head_spec (numB b 1)).mono fun u w25 ⟨q2, he, hq2, _, X25, hb25⟩ => ⟨_, _, _, he, ?_⟩
      refine (equalB_spec (x := headB (numB b 1)) (c := 64) (bc := rc) (RowAt.of_blk hb25) (hrow.no X25) (by rw [headB_len]; decide)).mono fun u w28 ⟨he, X28⟩ => ⟨_, he, fun hf => ⟨by rw [if_neg (of_decide_eq_false hf)]; rfl, (X11.trans X25).trans X28⟩, fun ht => ⟨by rw [if_pos (of_decide_eq_true ht)], (X11.trans X25).trans X28⟩⟩
end
end Go.Proofs.Ytidijnfkcpbkiaa

/- Snapshot: the reference's number of a head. -/
set_option linter.unusedVariables false
set_option linter.unusedSimpArgs false
set_option maxRecDepth 20000
set_option maxHeartbeats 2000000
namespace Go.Proofs.Ytidijnfkcpbkiaa
open Go Go.Mx Go.Proofs
open W (OwnB GivesW)
theorem head_hi (n : Nat) {j : Nat} (h : 5 ≤ j) : byteN (headB n) j = 0 := by
  obtain ⟨k, rfl⟩ := Nat.exists_eq_add_of_le' h
  show (((List.replicate 59 (0 : UInt8))[k]?).getD 0).toNat = 0
  rw [List.getElem?_replicate]
  split <;> rfl
theorem headB_iff {b : List UInt8} (hl : b.length = 64) : headB (numB b 1) = b ↔ (byteN b 0 = 94 ∧ ∀ j, 5 ≤ j → j < 64 → byteN b j = 0) := by
  refine ⟨fun e => ⟨by rw [← e]; rfl, fun j h5 _ => by rw [← e]; exact head_hi _ h5⟩, fun ⟨h0, h5⟩ => ?_⟩
  apply List.ext_getElem (by rw [headB_len, hl])
  intro i h1 h2
  apply UInt8.toNat_inj.1
  rw [byteN_at h1, byteN_at h2]
  have g0 := byteN_lt b 1
  have g1 := byteN_lt b 2
  have g2 := byteN_lt b 3
  have g3 := byteN_lt b 4
  have hn : numB b 1 = byteN b 1 * 16777216 + byteN b 2 * 65536 + byteN b 3 * 256 + byteN b 4 := rfl
  by_cases hi : 5 ≤ i
  · rw [head_hi _ hi, h5 i hi (by omega)]
  · have : i = 0 ∨ i = 1 ∨ i = 2 ∨ i = 3 ∨ i = 4 := by omega
    rcases this with rfl | rfl | rfl | rfl | rfl
    · exact h0.symm
    · show (UInt8.ofNat (numB b 1 / 16777216)).toNat = _
      rw [UInt8.toNat_ofNat']; omega
    · show (UInt8.ofNat (numB b 1 / 65536)).toNat = _
      rw [UInt8.toNat_ofNat']; omega
    · show (UInt8.ofNat (numB b 1 / 256)).toNat = _
      rw [UInt8.toNat_ofNat']; omega
    · show (UInt8.ofNat (numB b 1)).toNat = _
      rw [UInt8.toNat_ofNat']; omega
section
variable {w w' w1 : World} {o o' o1 : Own} {q g p N m : Nat} {K : Nat → Prop} {b s x y : List UInt8} {a ba : Option Addr} {c bc : Nat}
theorem numH_not (hl : b.length = 64) {i : Int} (h : ¬ (byteN b 0 = 94 ∧ ∀ j, 5 ≤ j → j < 64 → byteN b j = 0)) : numH b i = 0 := by
  unfold numH
  rw [if_neg (fun e => h ((headB_iff hl).1 e))]
  split
  · rfl
  · split <;> rfl
theorem refHead_spec (hb : RowAt w a (bytesV b)) (hl : b.length = 64 ∨ b = []) {i : Int} (h0 : 0 ≤ i) (h1 : i ≤ 1) :
    Calls Try.prog 39 #[.slice a b.length c, .int .i64 i] w (Ret (.int .u32 (numH b i)) fun w' => Ext no w w') := by
  refine cachetteref11_Head.run _ _ _ _ ?_
  unfold cachetteref11_Head.N
  refine ⟨fun hn => ?_, fun hn => ?_⟩
  · rcases hl with hl | rfl
    · omega
    · exact ⟨by rw [numH_nil]; rfl, Ext.refl _ _⟩
  have hl : b.length = 64 := by omega
  obtain ⟨ad, rfl, c0⟩ := byte_cell hb (i := 0) (by omega)
  have cell : ∀ j, j < 64 → w.cell? (ad.add (j * 1)) = some (.int .u8 (byteN b j)) := fun j hj => by
    obtain ⟨ad2, e, cj⟩ := byte_cell hb (i := j) (by omega)
    cases e; exact cj
  refine ⟨ad, rfl, by omega, _, c0, fun hne => ⟨by rw [numH_not hl fun e => hne (by rw [e.1]; rfl)]; rfl, Ext.refl _ _⟩, fun h94 => ?_⟩
  refine ⟨fun m vs w1 => ∃ t : Nat, vs = [.int .i64 t] ∧ m + t = 64 ∧ 5 ≤ t ∧ w1 = w ∧ ∀ j, 5 ≤ j → j < t → byteN b j = 0, 59, ⟨5, rfl, rfl, Nat.le_refl _, rfl, fun j h h2 => by omega⟩, ?_⟩
  rintro m w11 i' ⟨t, hi, hm, h5, rfl, hz⟩
  simp only [List.cons.injEq, Value.int.injEq, true_and, and_true] at hi
  subst hi
  refine ⟨fun ht => ?_, fun ht => ?_⟩
  · have ct := cell t (by omega)
    refine ⟨by omega, by omega, _, by rw [Int.toNat_natCast]; exact ct, fun hne => ⟨by rw [numH_not hl fun e => hne (by rw [e.2 t h5 (by omega)]; rfl)]; rfl, Ext.refl _ _⟩, fun h => ⟨by omega, by omega, m - 1, by omega, t + 1, rfl, by omega, by omega, rfl, fun j hj hj2 => ?_⟩⟩
    by_cases e : j = t
    · subst e; omega
    · exact hz j hj (by omega)
  · have htt : t = 64 := by omega
    subst htt
    have hh : headB (numB b 1) = b := (headB_iff hl).2 ⟨by omega, hz⟩
    have g0 := byteN_lt b 1
    have g1 := byteN_lt b 2
    have g2 := byteN_lt b 3
    have g3 := byteN_lt b 4
    have hn : numB b 1 = byteN b 1 * 16777216 + byteN b 2 * 65536 + byteN b 3 * 256 + byteN b 4 := rfl
    refine ⟨by omega, _, cell 1 (by decide), by omega, _, cell 2 (by decide), by omega, _, cell 3 (by decide), by omega, _, cell 4 (by decide), ?_⟩
    have hw : (IntKind.u32.wrap ((IntKind.u32.wrap ((IntKind.u32.wrap ((IntKind.u32.wrap ((IntKind.u32.wrap (byteN b 1 : Int)) * 16777216)) + (IntKind.u32.wrap ((IntKind.u32.wrap (byteN b 2 : Int)) * 65536)))) + (IntKind.u32.wrap ((IntKind.u32.wrap (byteN b 3 : Int)) * 256)))) + (IntKind.u32.wrap (byteN b 4 : Int)))) = ((numB b 1 : Nat) : Int) := by
      simp only [IntKind.wrap_u32]; omega
    rw [hw]
    have ht2 : Int.tmod ((numB b 1 : Nat) : Int) 2 = ((numB b 1 % 2 : Nat) : Int) := by rw [Int.tmod_eq_emod_of_nonneg (by omega)]; omega
    rw [ht2]
    unfold numH
    refine ⟨fun hz0 w17 X17 => ⟨by rw [if_pos (by omega)]; rfl, X17⟩, fun hz0 => ⟨by omega, by omega, by omega, by omega, fun hne w17 X17 => ⟨?_, X17⟩, fun heq w17 X17 => ⟨?_, X17⟩⟩⟩
    · rw [if_neg (by omega), if_pos (by unfold whichN; omega)]; rfl
    · rw [if_neg (by omega), if_neg (by unfold whichN; omega), if_pos hh]
end
end Go.Proofs.Ytidijnfkcpbkiaa

/- Snapshot: Append of a store. -/
set_option linter.unusedVariables false
set_option linter.unusedSimpArgs false
set_option maxRecDepth 20000
set_option maxHeartbeats 2000000
namespace Go.Proofs.Ytidijnfkcpbkiaa
open Go Go.Mx Go.Proofs
open W (OwnB GivesW)
section
variable {w w' w1 : World} {o o' o1 : Own} {q g p N m : Nat} {K : Nat → Prop} {b : List UInt8} {a ba : Option Addr} {c bc : Nat} {d : DS} {J : JS} {S : SS}
def SS.seen (S : SS) (k : Int) : SS := { S with dead := if k = 19 then true else S.dead }
theorem sAppend_spec (h : SG w o p g (some (blk q)) S) (hJ : JG w o q g J) (hD : DG w o g d) (ok : Tags w o) (hpq : p ≠ q) (hpg : p ≠ g) (hqg : q ≠ g) (hS : S.dead = false) (hd : d.ok m) (hm : m + 100 < 100000) (hj : J.ok) (hb : RowAt w a (bytesV b)) (hc : b.length ≤ c) (hbl : b.length < 1000000) :
    Calls Try.prog 11 #[.pointer (some (blk p)), .slice a b.length c] w (Ret (.int .i64 (appendJ d J b).2) fun w' => ∃ o', Step (fun i => i = p ∨ i = q ∨ i = g) w o w' o' ∧ SG w' o' p g (some (blk q)) (S.seen (appendJ d J b).2) ∧ JG w' o' q g (appendJ d J b).1.2 ∧ DG w' o' g (appendJ d J b).1.1) := by
  refine snapshot_Store_Append.run _ _ _ _ ?_
  unfold snapshot_Store_Append.N
  refine ⟨fun e => (by cases e), fun _ => ⟨_, rfl, S.dead, h.mem.cella (i := 4) rfl, fun hdd => absurd (hdd.symm.trans hS) (by decide), fun _ => ⟨_, h.mem.cella (i := 3) rfl, ?_⟩⟩⟩
  refine (Append_spec hJ hD ok hqg hd hm hj hb hc hbl).mono fun u w22 ⟨he, o22, s22, J22, D22⟩ => ⟨_, he, ?_⟩
  have h22 := h.step s22 (show ¬ (p = q ∨ p = g) by omega)
  refine (see_spec h22 s22.ok (appendJ d J b).2).mono fun u w25 ⟨he, o25, s25, S25⟩ => ⟨_, he, rfl, o25, ?_, S25, J22.step s25 (show ¬ q = p by omega), D22.step s25 (show ¬ g = p by omega)⟩
  exact (s22.mono fun _ h _ => .inr h).trans (s25.mono fun _ h _ => .inl h)
end
end Go.Proofs.Ytidijnfkcpbkiaa

/- Snapshot: the steps of a Compact. -/
set_option linter.unusedVariables false
set_option linter.unusedSimpArgs false
set_option maxRecDepth 20000
set_option maxHeartbeats 2000000
namespace Go.Proofs.Ytidijnfkcpbkiaa
open Go Go.Mx Go.Proofs
open W (OwnB GivesW)
section
variable {w w' w1 : World} {o o' o1 : Own} {q g p N m qk ql qs qp qn : Nat} {K : Nat → Prop} {b : List UInt8} {a ba : Option Addr} {c bc : Nat} {d : DS} {J : JS} {S : SS} {k : Int} {lg : Option Addr}
theorem step1_spec (h : w.cell? (blk qk) = some (.int .i64 k)) : Calls Try.prog 30 #[.pointer (some (blk qk))] w (Ret (.int .i64 k) fun w' => w' = w) := by
  refine snapshot_Store_Compact_1.run _ ?_
  unfold snapshot_Store_Compact_1.N
  exact ⟨_, h, rfl, rfl⟩
theorem step2_spec (hl : w.cell? (blk ql) = some (.pointer (some (blk q)))) (hs : w.cell? (blk qs) = some (.slice a b.length c)) (hJ : JG w o q g J) (hD : DG w o g d) (ok : Tags w o) (hqg : q ≠ g) (hd : d.ok m) (hm : m + 100 < 100000) (hj : J.ok) (hb : RowAt w a (bytesV b)) (hc : b.length ≤ c) (hbl : b.length < 1000000) :
    Calls Try.prog 31 #[.pointer (some (blk ql)), .pointer (some (blk qs))] w (Ret (.int .i64 (appendJ d J b).2) fun w' => ∃ o', Step (fun i => i = q ∨ i = g) w o w' o' ∧ JG w' o' q g (appendJ d J b).1.2 ∧ DG w' o' g (appendJ d J b).1.1) := by
  refine snapshot_Store_Compact_2.run _ _ ?_
  unfold snapshot_Store_Compact_2.N
  exact ⟨_, hl, _, _, _, hs, (Append_spec hJ hD ok hqg hd hm hj hb hc hbl).mono fun u w9 ⟨he, hw⟩ => ⟨_, he, rfl, hw⟩⟩
theorem step3_spec {n : Nat} (hp : w.cell? (blk qp) = some (.pointer (some (blk p)))) (hn : w.cell? (blk qn) = some (.int .u32 n)) (hn2 : n < 4294967296) (h : SG w o p g lg S) (hD : DG w o g d) (ok : Tags w o) (hd : d.ok m) (hm : m < 100000) :
    Calls Try.prog 33 #[.pointer (some (blk qp)), .pointer (some (blk qn))] w (Ret (.int .i64 (writeD d (whichN n) (headB n)).2) fun w' => ∃ o', Step (fun i => i = g) w o w' o' ∧ DG w' o' g (writeD d (whichN n) (headB n)).1) := by
  refine snapshot_Store_Compact_3.run _ _ ?_
  unfold snapshot_Store_Compact_3.N
  refine ⟨_, hp, _, rfl, _, h.mem.cella (i := 0) rfl, _, hn, _, hn, fun w3 X3 => ?_⟩
  refine (which_spec n hn2).mono fun u w15 ⟨he, hw⟩ => ?_
  subst hw
  refine ⟨_, he, X3.cell hn id, (h.mem.ext X3 id).cella (i := 0) rfl, X3.cell hp id, ?_⟩
  refine (head_spec n).mono fun u w21 ⟨q2, he, hq2, _, X21, hb21⟩ => ⟨_, _, _, he, ?_⟩
  have X := X3.trans X21
  refine ⟨(h.mem.ext X id).cella (i := 0) rfl, X.cell hp id, ?_⟩
  have s21 := Step.of_no X ok
  have hw := dWrite_spec (ba := some (blk q2)) (bc := 64) (b := headB n) (hD.step s21 id) s21.ok hd hm (whichN n) (RowAt.of_blk hb21)
  exact hw.mono fun u w26 ⟨he, o26, s26, D26⟩ => ⟨_, he, rfl, o26, s21.none.trans s26, D26⟩
/-- what a Compact leaves, and answers: where all steps are done, the new journal. -/
def compactK (d : DS) (S : SS) (b : List UInt8) : DS × Option JS × Int :=
  match openK d (2 + whichN (S.number + 1) * S.half) S.half (S.number + 1) with
  | (none, _, k) => (d, none, k)
  | (some J, _, _) =>
    if (appendJ d J.anew b).2 ≠ 0 then ((appendJ d J.anew b).1.1, none, (appendJ d J.anew b).2)
    else if (writeD (appendJ d J.anew b).1.1 (whichN (S.number + 1)) (headB (S.number + 1))).2 ≠ 0 then ((writeD (appendJ d J.anew b).1.1 (whichN (S.number + 1)) (headB (S.number + 1))).1, none, (writeD (appendJ d J.anew b).1.1 (whichN (S.number + 1)) (headB (S.number + 1))).2)
    else if (syncD (writeD (appendJ d J.anew b).1.1 (whichN (S.number + 1)) (headB (S.number + 1))).1).2 ≠ 0 then ((syncD (writeD (appendJ d J.anew b).1.1 (whichN (S.number + 1)) (headB (S.number + 1))).1).1, none, (syncD (writeD (appendJ d J.anew b).1.1 (whichN (S.number + 1)) (headB (S.number + 1))).1).2)
    else ((syncD (writeD (appendJ d J.anew b).1.1 (whichN (S.number + 1)) (headB (S.number + 1))).1).1, some (appendJ d J.anew b).1.2, 0)
end
end Go.Proofs.Ytidijnfkcpbkiaa

/- Snapshot: the loop of a Compact. -/
set_option linter.unusedVariables false
set_option linter.unusedSimpArgs false
set_option maxRecDepth 20000
set_option maxHeartbeats 4000000
namespace Go.Proofs.Ytidijnfkcpbkiaa
open Go Go.Mx Go.Proofs
open W (OwnB GivesW)
/-- a block of nobody's stays. -/
theorem free_blk {K : Nat → Prop} {w w' : World} {o o' : Own} {b : Nat} {t : TypeId} {cs : List Value} (h : Blk w b t cs) (ho : o b = none) (s : Step K w o w' o') : Blk w' b t cs ∧ o' b = none :=
  ⟨h.ext s.ext (fun ⟨k, h1, _⟩ => by rw [ho] at h1; cases h1), by rw [s.own h.lt]; exact ho⟩
section
variable {w w' w1 : World} {o o' o1 : Own} {q g p N m qa qk ql qs qp qn : Nat} {K : Nat → Prop} {b : List UInt8} {a ba : Option Addr} {c bc : Nat} {d : DS} {J : JS} {S : SS} {k : Int} {lg ln : Option Addr}
/-- the captured variables, and the array of the steps. -/
structure Caps (w : World) (o : Own) (qa qk ql qs qp qn p g n : Nat) (k : Int) (ln a : Option Addr) (len c : Nat) : Prop where
  ba : Blk w qa 68 [.func (.func 30) #[] #[.pointer (some (blk qk))], .func (.func 31) #[] #[.pointer (some (blk ql)), .pointer (some (blk qs))], .func (.func 33) #[] #[.pointer (some (blk qp)), .pointer (some (blk qn))], .func (.func 37) #[.pointer (some (blk g))] #[]]
  bk : Blk w qk 26 [.int .i64 k]
  bl : Blk w ql 58 [.pointer ln]
  bs : Blk w qs 30 [.slice a len c]
  bp : Blk w qp 29 [.pointer (some (blk p))]
  bn : Blk w qn 34 [.int .u32 n]
  free : o qa = none ∧ o qk = none ∧ o ql = none ∧ o qs = none ∧ o qp = none ∧ o qn = none
theorem Caps.step {n len : Nat} (h : Caps w o qa qk ql qs qp qn p g n k ln a len c) (s : Step K w o w' o') : Caps w' o' qa qk ql qs qp qn p g n k ln a len c := by
  obtain ⟨f1, f2, f3, f4, f5, f6⟩ := h.free
  obtain ⟨b1, g1⟩ := free_blk h.ba f1 s
  obtain ⟨b2, g2⟩ := free_blk h.bk f2 s
  obtain ⟨b3, g3⟩ := free_blk h.bl f3 s
  obtain ⟨b4, g4⟩ := free_blk h.bs f4 s
  obtain ⟨b5, g5⟩ := free_blk h.bp f5 s
  obtain ⟨b6, g6⟩ := free_blk h.bn f6 s
  exact ⟨b1, b2, b3, b4, b5, b6, g1, g2, g3, g4, g5, g6⟩
end
end Go.Proofs.Ytidijnfkcpbkiaa

/- Snapshot: the loop of a Compact, walked. -/
set_option linter.unusedVariables false
set_option linter.unusedSimpArgs false
set_option maxRecDepth 20000
set_option maxHeartbeats 4000000
namespace Go.Proofs.Ytidijnfkcpbkiaa
open Go Go.Mx Go.Proofs
open W (OwnB GivesW)
section
variable {w w' w1 : World} {o o' o1 : Own} {q g p N m qa qk ql qs qp qn n : Nat} {b : List UInt8} {a ba : Option Addr} {c bc : Nat} {d : DS} {J : JS} {S : SS} {k : Int} {lg ln : Option Addr}
def KC (p q g : Nat) : Nat → Prop := fun i => i = p ∨ i = q ∨ i = g
theorem compact_loop {R : Value → World → Prop} (C : Caps w o qa qk ql qs qp qn p g n k ln a b.length c) (h : SG w o p g lg S) (hD : DG w o g d) (ok : Tags w o) (hd : d.ok m) (hm : m + 300 < 100000) (hn : n < 4294967296)
    (hb : Row w o a (bytesV b)) (hc : b.length ≤ c) (hbl : b.length < 1000000) (hln : k = 0 → ln = some (blk q) ∧ JG w o q g J ∧ J.ok) (hpq : p ≠ q) (hpg : p ≠ g) (hqg : q ≠ g)
    {A : (DS × JS) × Int} (hA : appendJ d J b = A) {X : DS × Int} (hX : writeD A.1.1 (whichN n) (headB n) = X) {Y : DS × Int} (hY : syncD X.1 = Y)
    (E : ∀ w' o' d' e, e ≠ 0 → Step (KC p q g) w o w' o' → SG w' o' p g lg (S.seen e) → DG w' o' g d' → ((k ≠ 0 ∧ d' = d ∧ e = k) ∨ (k = 0 ∧ A.2 = e ∧ d' = A.1.1) ∨ (k = 0 ∧ A.2 = 0 ∧ X.2 = e ∧ d' = X.1) ∨ (k = 0 ∧ A.2 = 0 ∧ X.2 = 0 ∧ Y.2 = e ∧ d' = Y.1)) → R (.int .i64 e) w')
    (Z : ∀ w' o', k = 0 → A.2 = 0 → X.2 = 0 → Y.2 = 0 → Step (KC p q g) w o w' o' → SG w' o' p g (some (blk q)) { S with number := n } → JG w' o' q g A.1.2 → DG w' o' g Y.1 → R (.int .i64 0) w') :
    ∃ (I1 : Nat → List Value → World → Prop) (m87 : Nat), I1 m87 [.int .i64 0] w ∧ ∀ (m88 : Nat) (ww89 : World) (t86 : Int), I1 m88 [.int .i64 t86] ww89 →
      (t86 < (4 : Int) →
        0 ≤ (t86 : Int) ∧ (t86 : Int) < (4 : Int) ∧
        ∃ (x92k : Nat) (x92f : Array Value) (x92g : Array Value), ww89.cell? ((blk qa).add (Int.toNat t86 * 1)) = some (.func (.func x92k) x92f x92g) ∧
        ∃ (x95 : Option Addr), ww89.cell? (blk qp) = some (.pointer x95) ∧
        ∀ (ww93 : World), Ext no ww89 ww93 →
        enters Try.prog x92k = true ∧ Calls Try.prog x92k (x92f.toList ++ ([] : List Value) ++ x92g.toList).toArray ww93 (fun ee97 ww98 => ∃ (r96 : Int), ee97 = .returned (.int .i64 r96) ∧
        ww98.cell? (blk qp) = some (.pointer x95) ∧
        Calls Try.prog 38 #[.pointer x95, .int .i64 r96] ww98 fun ee101 ww102 => ∃ (see100 : Int), ee101 = .returned (.int .i64 see100) ∧
        (see100 ≠ 0 → R (.int .i64 see100) ww102) ∧
        (see100 = 0 → (-9223372036854775808 : Int) ≤ (t86 + 1) ∧ (t86 + 1) < 9223372036854775808 ∧ ∃ m104, m104 < m88 ∧ I1 m104 [.int .i64 (t86 + 1)] ww102))) ∧
      ((4 : Int) ≤ t86 →
        ∃ (x107 : Option Addr), ww89.cell? (blk qp) = some (.pointer x107) ∧
        ∃ (x109 : Option Addr), ww89.cell? (blk qp) = some (.pointer x109) ∧
        ∃ (x111 : Int), ww89.cell? (blk qn) = some (.int .u32 x111) ∧
        ∃ (x113 : Option Addr), ww89.cell? (blk ql) = some (.pointer x113) ∧
        ∃ a114 : Addr, x107 = some a114 ∧
        ∀ (ww105 : World), Ext no ww89 ww105 →
        canStore ww105 ((a114.add 2).add 0) ∧
        thenW (ww105.setCell ((a114.add 2).add 0) (.int .u32 x111)) fun ww115 =>
        ww115.cell? (blk ql) = some (.pointer x113) ∧
        ww115.cell? (blk qp) = some (.pointer x109) ∧
        ∃ a118 : Addr, x109 = some a118 ∧
        canStore ww115 ((a118.add 3).add 0) ∧
        thenW (ww115.setCell ((a118.add 3).add 0) (.pointer x113)) fun ww119 =>
        R (.int .i64 0) ww119) := by
  refine ⟨fun m1 vs w1 => ∃ (t : Nat) (o1 : Own) (d1 : DS) (J1 : JS), vs = [.int .i64 t] ∧ m1 + t = 4 ∧ Step (KC p q g) w o w1 o1 ∧ Caps w1 o1 qa qk ql qs qp qn p g n k ln a b.length c ∧ SG w1 o1 p g lg S ∧ DG w1 o1 g d1 ∧ (k = 0 → JG w1 o1 q g J1) ∧ d1.ok (m + 100 + t) ∧
    ((t = 0 ∧ d1 = d ∧ J1 = J) ∨ (t = 1 ∧ k = 0 ∧ d1 = d ∧ J1 = J) ∨ (t = 2 ∧ k = 0 ∧ A.2 = 0 ∧ d1 = A.1.1 ∧ J1 = A.1.2) ∨ (t = 3 ∧ k = 0 ∧ A.2 = 0 ∧ X.2 = 0 ∧ d1 = X.1 ∧ J1 = A.1.2) ∨ (t = 4 ∧ k = 0 ∧ A.2 = 0 ∧ X.2 = 0 ∧ Y.2 = 0 ∧ d1 = Y.1 ∧ J1 = A.1.2)), 4,
    ⟨0, o, d, J, rfl, rfl, Step.refl _ ok, C, h, hD, fun e => (hln e).2.1, hd.up (by omega), .inl ⟨rfl, rfl, rfl⟩⟩, ?_⟩
  rintro m1 w7 i ⟨t, o7, d1, J1, hi, hm1, s7, C7, h7, D7, J7, k7, stg⟩
  simp only [List.cons.injEq, Value.int.injEq, true_and, and_true] at hi
  subst hi
  refine ⟨fun ht => ⟨by omega, by omega, ?_⟩, fun ht => ?_⟩
  · -- what see does behind each step
    have fin : ∀ (w9 : World) (o9 : Own) (d9 : DS) (J9 : JS) (e : Int), Step (KC p q g) w o w9 o9 → Caps w9 o9 qa qk ql qs qp qn p g n k ln a b.length c → SG w9 o9 p g lg S → DG w9 o9 g d9 → (k = 0 → JG w9 o9 q g J9) → d9.ok (m + 100 + (t + 1)) →
        (e ≠ 0 → ((k ≠ 0 ∧ d9 = d ∧ e = k) ∨ (k = 0 ∧ A.2 = e ∧ d9 = A.1.1) ∨ (k = 0 ∧ A.2 = 0 ∧ X.2 = e ∧ d9 = X.1) ∨ (k = 0 ∧ A.2 = 0 ∧ X.2 = 0 ∧ Y.2 = e ∧ d9 = Y.1))) →
        (e = 0 → ((t + 1 = 0 ∧ d9 = d ∧ J9 = J) ∨ (t + 1 = 1 ∧ k = 0 ∧ d9 = d ∧ J9 = J) ∨ (t + 1 = 2 ∧ k = 0 ∧ A.2 = 0 ∧ d9 = A.1.1 ∧ J9 = A.1.2) ∨ (t + 1 = 3 ∧ k = 0 ∧ A.2 = 0 ∧ X.2 = 0 ∧ d9 = X.1 ∧ J9 = A.1.2) ∨ (t + 1 = 4 ∧ k = 0 ∧ A.2 = 0 ∧ X.2 = 0 ∧ Y.2 = 0 ∧ d9 = Y.1 ∧ J9 = A.1.2))) →
        Calls Try.prog 38 #[.pointer (some (blk p)), .int .i64 e] w9 fun ee101 ww102 => ∃ (see100 : Int), ee101 = .returned (.int .i64 see100) ∧
          (see100 ≠ 0 → R (.int .i64 see100) ww102) ∧
          (see100 = 0 → (-9223372036854775808 : Int) ≤ ((t : Int) + 1) ∧ ((t : Int) + 1) < 9223372036854775808 ∧ ∃ m104, m104 < m1 ∧ ∃ (t2 : Nat) (o1 : Own) (d1 : DS) (J1 : JS), [Value.int .i64 ((t : Int) + 1)] = [.int .i64 t2] ∧ m104 + t2 = 4 ∧ Step (KC p q g) w o ww102 o1 ∧ Caps ww102 o1 qa qk ql qs qp qn p g n k ln a b.length c ∧ SG ww102 o1 p g lg S ∧ DG ww102 o1 g d1 ∧ (k = 0 → JG ww102 o1 q g J1) ∧ d1.ok (m + 100 + t2) ∧
            ((t2 = 0 ∧ d1 = d ∧ J1 = J) ∨ (t2 = 1 ∧ k = 0 ∧ d1 = d ∧ J1 = J) ∨ (t2 = 2 ∧ k = 0 ∧ A.2 = 0 ∧ d1 = A.1.1 ∧ J1 = A.1.2) ∨ (t2 = 3 ∧ k = 0 ∧ A.2 = 0 ∧ X.2 = 0 ∧ d1 = X.1 ∧ J1 = A.1.2) ∨ (t2 = 4 ∧ k = 0 ∧ A.2 = 0 ∧ X.2 = 0 ∧ Y.2 = 0 ∧ d1 = Y.1 ∧ J1 = A.1.2))) := fun w9 o9 d9 J9 e s9 C9 h9 D9 J9' k9 hE h0 => by
      refine (see_spec h9 s9.ok e).mono fun u w12 ⟨he, o12, s12, S12⟩ => ⟨_, he, fun hne => ?_, fun hz => ⟨by omega, by omega, m1 - 1, by omega, t + 1, o12, d9, J9, rfl, by omega, ?_, C9.step s12, ?_, D9.step s12 (show ¬ g = p from fun e => hpg e.symm), fun hk => (J9' hk).step s12 (show ¬ q = p from fun e => hpq e.symm), k9, h0 hz⟩⟩
      · exact E w12 o12 d9 e hne (s9.trans (s12.mono fun _ h _ => .inl h)) S12 (D9.step s12 (show ¬ g = p from fun e => hpg e.symm)) (hE hne)
      · exact s9.trans (s12.mono fun _ h _ => .inl h)
      · subst hz; exact S12
    have cp : ∀ {w9 : World}, Ext no w7 w9 → w9.cell? (blk qp) = some (.pointer (some (blk p))) := fun X9 => (C7.bp.ext X9 id).cella (i := 0) rfl
    rcases stg with ⟨rfl, rfl, rfl⟩ | ⟨rfl, hk, rfl, rfl⟩ | ⟨rfl, hk, a0, rfl, rfl⟩ | ⟨rfl, hk, a0, x0, rfl, rfl⟩ | ⟨rfl, _⟩
    · refine ⟨_, _, _, C7.ba.cella (i := 0) rfl, _, C7.bp.cella (i := 0) rfl, fun w9 X9 => ⟨by kernel_rfl, ?_⟩⟩
      have t9 := Step.of_no X9 s7.ok
      have C9 := C7.step t9
      refine Calls.mono (step1_spec (C9.bk.cella (i := 0) rfl)) fun u w10 ⟨he, hw⟩ => ⟨_, he, ?_⟩
      subst hw
      exact ⟨C9.bp.cella (i := 0) rfl, fin _ _ _ _ k (s7.trans t9.none) C9 (h7.step t9 id) (D7.step t9 id) (fun hk => (J7 hk).step t9 id) (k7.up (by omega)) (fun hk => .inl ⟨hk, rfl, rfl⟩) (fun hk => .inr (.inl ⟨rfl, hk, rfl, rfl⟩))⟩
    · obtain ⟨rfl, _, jok⟩ := hln hk
      refine ⟨_, _, _, C7.ba.cella (i := 1) rfl, _, C7.bp.cella (i := 0) rfl, fun w9 X9 => ⟨by kernel_rfl, ?_⟩⟩
      have t9 := Step.of_no X9 s7.ok
      have C9 := C7.step t9
      have hrow := (hb.step s7).step t9
      have hs := step2_spec (C9.bl.cella (i := 0) rfl) (C9.bs.cella (i := 0) rfl) ((J7 hk).step t9 id) (D7.step t9 id) t9.ok hqg k7 (by omega) jok hrow.1 hc hbl
      rw [hA] at hs
      refine Calls.mono hs fun u w10 ⟨he, o10, s10, J10, D10⟩ => ⟨_, he, ?_⟩
      have C10 := C9.step s10
      have kA : A.1.1.ok (m + 100 + 1 + 1) := by have := (appendJ_ok hd J1 b).up (n := m + 100 + 1 + 1) (by omega); rwa [hA] at this
      exact ⟨C10.bp.cella (i := 0) rfl, fin _ _ _ _ A.2 ((s7.trans t9.none).trans (s10.mono fun _ h _ => .inr h)) C10 ((h7.step t9 id).step s10 (show ¬ (p = q ∨ p = g) by omega)) D10 (fun _ => J10) kA (fun hne => .inr (.inl ⟨hk, rfl, rfl⟩)) (fun hz => .inr (.inr (.inl ⟨rfl, hk, hz, rfl, rfl⟩)))⟩
    · refine ⟨_, _, _, C7.ba.cella (i := 2) rfl, _, C7.bp.cella (i := 0) rfl, fun w9 X9 => ⟨by kernel_rfl, ?_⟩⟩
      have t9 := Step.of_no X9 s7.ok
      have C9 := C7.step t9
      have hs := step3_spec (C9.bp.cella (i := 0) rfl) (C9.bn.cella (i := 0) rfl) hn (h7.step t9 id) (D7.step t9 id) t9.ok k7 (by omega)
      rw [hX] at hs
      refine Calls.mono hs fun u w10 ⟨he, o10, s10, D10⟩ => ⟨_, he, ?_⟩
      have C10 := C9.step s10
      have kX : X.1.ok (m + 100 + 2 + 1) := by have := writeD_ok k7 (whichN n) (headB n); rwa [hX] at this
      exact ⟨C10.bp.cella (i := 0) rfl, fin _ _ _ _ X.2 ((s7.trans t9.none).trans (s10.mono fun _ h _ => .inr (.inr h))) C10 ((h7.step t9 id).step s10 (show ¬ p = g from hpg)) D10 (fun hk => ((J7 hk).step t9 id).step s10 (show ¬ q = g from hqg)) kX (fun hne => .inr (.inr (.inl ⟨hk, a0, rfl, rfl⟩))) (fun hz => .inr (.inr (.inr (.inl ⟨rfl, hk, a0, hz, rfl, rfl⟩))))⟩
    · refine ⟨_, _, _, C7.ba.cella (i := 3) rfl, _, C7.bp.cella (i := 0) rfl, fun w9 X9 => ⟨by kernel_rfl, ?_⟩⟩
      have t9 := Step.of_no X9 s7.ok
      have C9 := C7.step t9
      have hs := dSync_spec (D7.step t9 id) t9.ok k7 (by omega)
      rw [hY] at hs
      refine Calls.mono hs fun u w10 ⟨he, o10, s10, D10⟩ => ⟨_, he, ?_⟩
      have C10 := C9.step s10
      have kY : Y.1.ok (m + 100 + 3 + 1) := by have := (syncD_ok k7).up (n := m + 100 + 3 + 1) (by omega); rwa [hY] at this
      exact ⟨C10.bp.cella (i := 0) rfl, fin _ _ _ _ Y.2 ((s7.trans t9.none).trans (s10.mono fun _ h _ => .inr (.inr h))) C10 ((h7.step t9 id).step s10 (show ¬ p = g from hpg)) D10 (fun hk => ((J7 hk).step t9 id).step s10 (show ¬ q = g from hqg)) kY (fun hne => .inr (.inr (.inr ⟨hk, a0, x0, rfl, rfl⟩))) (fun hz => .inr (.inr (.inr (.inr ⟨rfl, hk, a0, x0, hz, rfl, rfl⟩))))⟩
    · omega
  · rcases stg with ⟨rfl, _⟩ | ⟨rfl, _⟩ | ⟨rfl, _⟩ | ⟨rfl, _⟩ | ⟨rfl, hk, a0, x0, y0, rfl, rfl⟩
    · omega
    · omega
    · omega
    · omega
    obtain ⟨rfl, _, _⟩ := hln hk
    have ha2 : ((blk p).add 2).add 0 = (blk p).add 2 := by rw [add_add]
    have ha3 : ((blk p).add 3).add 0 = (blk p).add 3 := by rw [add_add]
    refine ⟨_, C7.bp.cella (i := 0) rfl, _, C7.bp.cella (i := 0) rfl, _, C7.bn.cella (i := 0) rfl, _, C7.bl.cella (i := 0) rfl, _, rfl, fun w9 X9 => ?_⟩
    have t9 := Step.of_no X9 s7.ok
    have C9 := C7.step t9
    have h9 := h7.step t9 id
    rw [ha2]
    refine ⟨h9.mem.cana (i := 2) rfl, thenW_in fun w57 e57 => ?_⟩
    have X57 : Ext (fun b => b = p) w9 w57 := (Ext.refl (fun b => b = p) w9).x_set (q := p) (i := 2) rfl (.inl rfl) e57
    have b57 := h9.mem.seti 2 rfl e57
    obtain ⟨o57, s57⟩ := Step.store1 X57 t9.ok h9.tg
    have C57 := C9.step s57
    refine ⟨C57.bl.cella (i := 0) rfl, C57.bp.cella (i := 0) rfl, _, rfl, ?_⟩
    rw [ha3]
    refine ⟨b57.cana (i := 3) rfl, thenW_in fun w60 e60 => ?_⟩
    have X60 : Ext (fun b => b = p) w57 w60 := (Ext.refl (fun b => b = p) w57).x_set (q := p) (i := 3) rfl (.inl rfl) e60
    have tg57 : o57 p = some p := by rw [s57.own h9.mem.lt]; exact h9.tg
    obtain ⟨o60, s60⟩ := Step.store1 X60 s57.ok tg57
    have st := s57.trans s60
    have hgp : ¬ g = p := fun e => hpg e.symm
    have hqp : ¬ q = p := fun e => hpq e.symm
    exact Z w60 o60 hk a0 x0 y0 ((s7.trans t9.none).trans (st.mono fun _ h _ => .inl h)) ⟨b57.seti 3 rfl e60, by rw [s60.own b57.lt]; exact tg57⟩ (((J7 hk).step t9 id).step st hqp) ((D7.step t9 id).step st hgp)
end
end Go.Proofs.Ytidijnfkcpbkiaa

/- JournalCrash, plainly: a journal through appends and crashes. -/
set_option linter.unusedVariables false
set_option linter.unusedSimpArgs false
set_option maxRecDepth 20000
set_option maxHeartbeats 2000000
namespace Go.Proofs.Ytidijnfkcpbkiaa
open Go Go.Mx Go.Proofs
theorem JI.blank {L : List (List UInt8)} {gen R : Nat} (hg : gen < 4294967296) (h : ∀ s ∈ L, ¬ mg gen s) : JI L gen R [] 0 := by
  refine ⟨?_, fun s hs hm => absurd hm (h s (List.mem_of_mem_drop hs)), fun s hs hm => absurd hm (h s (List.mem_of_mem_drop hs)), fun s hs hm => absurd hm (h s hs)⟩
  refine scan_none (L.length + 1) fun hO => ?_
  exact h _ (List.mem_of_mem_take hO.head) (oks_mem hO hg (by decide) _ hO.head).1
/-- a journal on a disk that is up, behind t acts. -/
structure CS (d : DS) (J : JS) (want : List (List UInt8)) (gen size T t : Nat) : Prop where
  down : d.down = false
  pend : d.pend = []
  ok : d.ok (100 * t)
  good : d.good.length = 60
  base : J.base = 0
  jsize : J.size = size
  jgen : J.gen = gen
  round : 1 ≤ J.round ∧ J.round ≤ t + 1
  tail : J.tail = T
  seq : J.seq = want.length
  dead : J.dead = false
  ji : JI (readsD d 0 size) gen J.round want T
  len : want.length ≤ t
section
variable {d : DS} {J : JS} {want : List (List UInt8)} {gen size T t : Nat} {b : List UInt8}
theorem CS.up (h : CS d J want gen size T t) : CS d J want gen size T (t + 1) :=
  ⟨h.down, h.pend, h.ok.up (by omega), h.good, h.base, h.jsize, h.jgen, ⟨h.round.1, Nat.le_succ_of_le h.round.2⟩, h.tail, h.seq, h.dead, h.ji, Nat.le_succ_of_le h.len⟩
theorem CS.tl (h : CS d J want gen size T t) : T ≤ size ∧ want.length ≤ T := by
  have := h.ji.len
  rw [readsD_len] at this
  exact this
theorem CS.jok (h : CS d J want gen size T t) (hg : gen < 4294967296) (hs : size ≤ 60) (ht : t ≤ 100) : J.ok := by
  have h1 := h.tl
  have h2 := h.round
  have h3 := h.base
  have h4 := h.jsize
  have h5 := h.jgen
  have h6 := h.tail
  have h7 := h.seq
  exact ⟨by omega, by omega, by omega, by omega, by omega, by omega⟩
theorem open_up {d : DS} (hd : d.down = false) (hg : d.good.length = 60) (h1 : 1 ≤ size) (h2 : size ≤ 60) (h0 : gen ≠ 0) {R : Nat} (h : JI (readsD d 0 size) gen R want T) (hR : R < 4294967295) :
    openK d 0 size gen = (some ⟨0, size, gen, roundOf gen (readsD d 0 size) + 1, T, want.length, false⟩, want, 0) := by
  have hst : stretchK d 0 size gen = (readsD d 0 size, 0) := by
    unfold stretchK
    rw [if_neg (by omega), hd]; rfl
  have hr := h.le
  have hsc := h.scan
  have hrr : (scanK (readsD d 0 size) gen).2 = roundOf gen (readsD d 0 size) := rfl
  unfold openK
  rw [hst]
  rw [if_neg (show ¬ ((readsD d 0 size, (0 : Int)).2 ≠ 0) from not_not_intro rfl)]
  rw [if_neg (show ¬ (scanK (readsD d 0 size, (0 : Int)).1 gen).2 = 4294967295 from (by show ¬ roundOf gen (readsD d 0 size) = 4294967295; omega))]
  show (some (JS.mk 0 size gen (roundOf gen (readsD d 0 size) + 1) (((scanK (readsD d 0 size) gen).1.2 : Nat) : Int) (((scanK (readsD d 0 size) gen).1.1.length : Nat) : Int) false), (scanK (readsD d 0 size) gen).1.1, (0 : Int)) = _
  rw [hsc]
theorem CS.reopen (h : CS d J want gen size T t) (h1 : 1 ≤ size) (h2 : size ≤ 60) (h0 : gen ≠ 0) (ht : t ≤ 100) : (openK d 0 size gen).2 = (want, 0) := by
  rw [open_up h.down h.good h1 h2 h0 h.ji (by have := h.round; omega)]
/-- an act. -/
theorem CS.act (h : CS d J want gen size T t) (h1 : 1 ≤ size) (h2 : size ≤ 60) (h0 : gen ≠ 0) (hg : gen < 4294967296) (ht : t ≤ 100) (hb : b.length ≤ 500) :
    ((appendJ d J b).2 = 0 ∧ CS (appendJ d J b).1.1 (appendJ d J b).1.2 (want ++ [b]) gen size (T + partsN b.length) (t + 1)) ∨
    ((appendJ d J b).2 = 18 ∧ (appendJ d J b).1 = (d, J) ∧ (size : Int) - T < partsN b.length) ∨
    ((appendJ d J b).2 = 19 ∧ (appendJ d J b).1.1.down = true ∧ (appendJ d J b).1.2.dead = true ∧ (appendJ d J b).1.2.ok ∧ (appendJ d J b).1.1.ok (100 * (t + 1)) ∧ ∀ keep, ∃ want2 T2 J2, (want2 = want ∨ want2 = want ++ [b]) ∧ openK (restartD (appendJ d J b).1.1 keep) 0 size gen = (some J2, want2, 0) ∧
      CS (restartD (appendJ d J b).1.1 keep) J2 want2 gen size T2 (t + 1)) := by
  have hj := h.jok hg h2 ht
  have hp := partsN_pos (n := b.length) (by omega)
  have htl := h.tl
  have hrd := h.round
  have hbs := h.base
  have hsz := h.jsize
  have hgn := h.jgen
  have hta := h.tail
  have hsq := h.seq
  have hgo := h.good
  have hln := h.len
  have kA := (appendJ_ok h.ok J b).up (n := 100 * (t + 1)) (by omega)
  by_cases hf : (partsN b.length : Int) ≤ (size : Int) - T
  · have hjb : J.base.toNat = 0 := by omega
    have hjq : J.seq.toNat = want.length := by omega
    obtain ⟨gl, hc⟩ := append_any h.down h.pend h.ok hj (by omega) (by omega) h.dead (b := b) (by omega) (by omega) (by omega) (size := size) (T := T) (by omega) (by omega)
    rw [hjb, hjq, hgn] at hc
    rcases hc with ⟨c1, c2, c3, c4, c5⟩ | ⟨c1, c2, c3, c4⟩
    · refine .inl ⟨c1, c2, c3, kA, gl.trans hgo, ?_, ?_, ?_, ?_, ?_, ?_, ?_, ?_, ?_⟩
      · rw [c4]; exact hbs
      · rw [c4]; exact hsz
      · rw [c4]
      · rw [c4]; exact ⟨hrd.1, by show J.round ≤ _; omega⟩
      · rw [c4]; show J.tail + (partsN b.length : Int) = ((T + partsN b.length : Nat) : Int); omega
      · rw [c4]; show J.seq + 1 = (((want ++ [b]).length : Nat) : Int); rw [List.length_append]; show J.seq + 1 = ((want.length + 1 : Nat) : Int); omega
      · rw [c4]; exact h.dead
      · rw [c4]
        exact h.ji.app h0 hg (by omega) (by omega) (by omega) (by omega) (by rw [readsD_len]; omega) c5
      · rw [List.length_append]; show want.length + 1 ≤ _; omega
    · refine .inr (.inr ⟨c1, c2, by rw [c3], by rw [c3, ← hgn]; exact ⟨hj.base, hj.size, hj.gen, hj.round, hj.tail, hj.seq⟩, kA, fun keep => ?_⟩)
      obtain ⟨w2, T2, hw, hji, hle⟩ := h.ji.crash h0 hg (by omega) (by omega) (by omega) (by omega) (by rw [readsD_len]; omega) (c4 keep)
      have rok := restartD_ok kA keep
      have hgl : (restartD (appendJ d J b).1.1 keep).good.length = 60 := by
        show (settleL _ 0 _ _).length = 60
        rw [settleL_len]; exact gl.trans hgo
      have hO := open_up (d := restartD (appendJ d J b).1.1 keep) rfl hgl h1 h2 h0 hji (by omega)
      refine ⟨w2, T2, _, hw, hO, ⟨rfl, rfl, rok, hgl, rfl, rfl, rfl, ⟨by show 1 ≤ roundOf _ _ + 1; omega, by show roundOf _ _ + 1 ≤ _; omega⟩, rfl, rfl, rfl, hji, ?_⟩⟩
      rcases hw with rfl | rfl
      · omega
      · rw [List.length_append]; show want.length + 1 ≤ _; omega
  · have e : appendJ d J b = ((d, J), 18) := by
      unfold appendJ
      rw [if_neg (by omega), h.dead, if_neg (by decide), if_pos (by omega)]
    rw [e]
    exact .inr (.inl ⟨rfl, rfl, by omega⟩)
end
theorem new_read (n : Nat) (i : Int) : (readD (newDS n) i).1 = List.replicate 64 0 ∨ (readD (newDS n) i).1 = [] := by
  have hs : readS (newDS n) i = Sec.z := by
    unfold readS newDS
    show ((List.replicate n Sec.z)[i.toNat]?).getD Sec.z = Sec.z
    rw [List.getElem?_replicate]
    split <;> rfl
  unfold readD
  rw [hs]
  split
  · exact .inl rfl
  · exact .inr rfl
theorem new_blank {size gen : Nat} : ∀ s ∈ readsD (newDS 60) 0 size, ¬ mg gen s := fun s hs hm => by
  unfold readsD at hs
  obtain ⟨i, _, rfl⟩ := List.mem_map.1 hs
  rcases new_read 60 (((0 : Nat) : Int) + (i : Int)) with e | e
  · rw [e] at hm
    have : (0 : Nat) = 197 := hm.2.1
    omega
  · rw [e] at hm
    exact nil_mg gen hm
theorem CS.new {size gen : Nat} (h1 : 1 ≤ size) (h2 : size ≤ 60) (h0 : gen ≠ 0) (hg : gen < 4294967296) : ∃ J, openK (newDS 60) 0 size gen = (some J, [], 0) ∧ CS (newDS 60) J [] gen size 0 0 := by
  have hji : JI (readsD (newDS 60) 0 size) gen 0 [] 0 := JI.blank hg new_blank
  have hgl : (newDS 60).good.length = 60 := by simp [newDS]
  refine ⟨_, open_up (d := newDS 60) rfl hgl h1 h2 h0 hji (by decide), ⟨rfl, rfl, newDS_ok (by decide) (by decide), hgl, rfl, rfl, rfl, ⟨?_, ?_⟩, rfl, rfl, rfl, hji.re, Nat.le_refl _⟩⟩
  · show 1 ≤ roundOf _ _ + 1; omega
  · show roundOf _ _ + 1 ≤ 0 + 1; have := hji.le; omega
end Go.Proofs.Ytidijnfkcpbkiaa

/- Snapshot, plainly: a store on a disk that is up. -/
set_option linter.unusedVariables false
set_option linter.unusedSimpArgs false
set_option maxRecDepth 20000
set_option maxHeartbeats 2000000
namespace Go.Proofs.Ytidijnfkcpbkiaa
open Go Go.Mx Go.Proofs
theorem whichN_lt (n : Nat) : whichN n < 2 := Nat.mod_lt _ (by decide)
theorem numH_head {n : Nat} (h0 : n ≠ 0) (h1 : n < 4294967296) : numH (headB n) (whichN n) = n := by
  have e : numB (headB n) 1 = n := by
    show byteN (headB n) 1 * 16777216 + byteN (headB n) 2 * 65536 + byteN (headB n) 3 * 256 + byteN (headB n) 4 = n
    show (UInt8.ofNat (n / 16777216)).toNat * 16777216 + (UInt8.ofNat (n / 65536)).toNat * 65536 + (UInt8.ofNat (n / 256)).toNat * 256 + (UInt8.ofNat n).toNat = n
    rw [UInt8.toNat_ofNat', UInt8.toNat_ofNat', UInt8.toNat_ofNat', UInt8.toNat_ofNat']; omega
  unfold numH
  rw [e, if_neg h0, if_neg (fun h => h rfl), if_pos rfl]
section
variable {d : DS} {J : JS} {S : SS} {m size base T gen R : Nat} {want : List (List UInt8)} {b : List UInt8}
theorem open_at (hd : d.down = false) (h1 : 1 ≤ size) (hfit : base + size ≤ d.good.length) (h0 : gen ≠ 0) (h : JI (readsD d base size) gen R want T) (hR : R < 4294967295) :
    openK d base size gen = (some ⟨base, size, gen, roundOf gen (readsD d base size) + 1, T, want.length, false⟩, want, 0) := by
  have hst : stretchK d base size gen = (readsD d base size, 0) := by
    unfold stretchK
    rw [if_neg (by omega), hd]; rfl
  have hr := h.le
  have hsc := h.scan
  have hrr : (scanK (readsD d base size) gen).2 = roundOf gen (readsD d base size) := rfl
  unfold openK
  rw [hst]
  rw [if_neg (show ¬ ((readsD d base size, (0 : Int)).2 ≠ 0) from not_not_intro rfl)]
  rw [if_neg (show ¬ (scanK (readsD d base size, (0 : Int)).1 gen).2 = 4294967295 from (by show ¬ roundOf gen (readsD d base size) = 4294967295; omega))]
  show (some (JS.mk base size gen (roundOf gen (readsD d base size) + 1) (((scanK (readsD d base size) gen).1.2 : Nat) : Int) (((scanK (readsD d base size) gen).1.1.length : Nat) : Int) false), (scanK (readsD d base size) gen).1.1, (0 : Int)) = _
  rw [hsc]
theorem append_all (h : Up d) (ok : d.ok m) (hJ : J.ok) (hgen : J.gen ≠ 0) (hro : J.round ≠ 0) (hd : J.dead = false) (hb : b.length ≤ 4000)
    (hfit : J.tail + partsN b.length ≤ J.size) (hdisk : J.base + J.size ≤ d.good.length) :
    (appendJ d J b).2 = 0 ∧ Up (appendJ d J b).1.1 ∧ (appendJ d J b).1.1.pend = [] ∧ (appendJ d J b).1.1.good.length = d.good.length ∧ (appendJ d J b).1.2 = { J with tail := J.tail + partsN b.length, seq := J.seq + 1 } ∧
      ∀ j : Int, readD (appendJ d J b).1.1 j = if J.base + J.tail ≤ j ∧ j < J.base + J.tail + partsN b.length then ((frameL J.gen J.round J.seq.toNat b)[(j - (J.base + J.tail)).toNat]?.getD [], 0) else readD d j := by
  have hp := partsN_pos hb
  obtain ⟨⟨hb0, hb1⟩, ⟨hs0, hs1⟩, hgen2, hrd, ⟨ht0, ht1⟩, ⟨hq0, hq1⟩⟩ := hJ
  have hF : appendF J b = frameL J.gen J.round J.seq.toNat b := by
    unfold appendF frameK
    rw [if_neg (by omega), if_neg (by omega)]
  have hFl : (appendF J b).length = partsN b.length := by rw [hF, frameL_len]
  have hF64 : ∀ s ∈ appendF J b, s.length = 64 := fun s hs => by rw [hF] at hs; exact (sec_mark hs).2
  obtain ⟨w0, wu, wl, wr⟩ := writes_up (appendF J b) d m (J.base + J.tail) h ok (by omega) (by rw [hFl]; omega) hF64
  have wok := writesD_ok (f := appendF J b) (i := J.base + J.tail) ok
  obtain ⟨s0, su, sp, sl⟩ := sync_up wu
  have hA : appendJ d J b = (((syncD (writesD d (J.base + J.tail) (appendF J b)).1).1, { J with tail := J.tail + partsN b.length, seq := J.seq + 1 }), 0) := by
    unfold appendJ
    rw [if_neg (by omega), if_neg (by rw [hd]; decide), if_neg (by omega), if_neg (not_not_intro w0), if_neg (not_not_intro s0)]
  rw [hA]
  refine ⟨rfl, su, sp, sl.trans wl, rfl, fun j => ?_⟩
  rw [← hF]
  show readD (syncD (writesD d (J.base + J.tail) (appendF J b)).1).1 j = _
  rw [read_sync wu wok, wr, hFl]
theorem reads_same {d2 : DS} (h : ∀ j : Int, (base : Int) ≤ j → j < base + size → readD d2 j = readD d j) : readsD d2 base size = readsD d base size := by
  apply List.ext_getElem?
  intro i
  rw [reads_get, reads_get]
  split
  · rw [h _ (by omega) (by omega)]
  · rfl
/-- no sector of the halves is of a later number. -/
def Gens (d : DS) (half N : Nat) : Prop := ∀ j : Int, 2 ≤ j → j < 2 + 2 * half → ∀ g, mg g (readD d j).1 → g ≤ N
/-- a store on a disk that is up, behind t acts. -/
structure PS (d : DS) (S : SS) (J : JS) (n half N : Nat) (snap : List UInt8) (all : List (List UInt8)) (T t : Nat) : Prop where
  up : Up d
  pend : d.pend = []
  ok : d.ok (200 * t)
  good : d.good.length = n
  fit : 2 + 2 * half ≤ n
  eS : S = ⟨half, N, false⟩
  base : J.base = ((2 + whichN N * half : Nat) : Int)
  jsize : J.size = half
  jgen : J.gen = N
  round : 1 ≤ J.round ∧ J.round ≤ t + 1
  tail : J.tail = T
  seq : J.seq = all.length + 1
  dead : J.dead = false
  ji : JI (readsD d (2 + whichN N * half) half) N J.round (snap :: all) T
  mine : numH (readD d (whichN N : Nat)).1 (whichN N : Nat) = N
  other : numH (readD d ((1 - whichN N : Nat) : Int)).1 ((1 - whichN N : Nat) : Int) < N
  gens : Gens d half N
  nb : 1 ≤ N ∧ N ≤ t
  len : all.length ≤ t
theorem PS.tl {n half N t : Nat} {snap : List UInt8} {all : List (List UInt8)} (h : PS d S J n half N snap all T t) : T ≤ half ∧ all.length + 1 ≤ T := by
  have := h.ji.len
  rw [readsD_len] at this
  exact this
theorem half_in {half N : Nat} : 2 ≤ 2 + whichN N * half ∧ 2 + whichN N * half + half ≤ 2 + 2 * half ∧ (whichN N * half = 0 ∨ whichN N * half = half) := by
  have := whichN_lt N
  rcases Nat.lt_or_ge (whichN N) 1 with h0 | h0
  · rw [show whichN N = 0 by omega]; omega
  · rw [show whichN N = 1 by omega]; omega
theorem PS.jok {n half N t : Nat} {snap : List UInt8} {all : List (List UInt8)} (h : PS d S J n half N snap all T t) (hn : n ≤ 400) (ht : t ≤ 1000) : J.ok := by
  have h1 := h.tl
  have h2 := h.round
  have h3 := h.base
  have h4 := h.jsize
  have h5 := h.jgen
  have h6 := h.tail
  have h7 := h.seq
  have h8 := h.nb
  have h9 := h.fit
  have hi := half_in (half := half) (N := N)
  have hl := h.len
  exact ⟨by omega, by omega, by omega, by omega, by omega, by omega⟩
theorem PS.up' {n half N t : Nat} {snap : List UInt8} {all : List (List UInt8)} (h : PS d S J n half N snap all T t) : PS d S J n half N snap all T (t + 1) :=
  ⟨h.up, h.pend, h.ok.up (by omega), h.good, h.fit, h.eS, h.base, h.jsize, h.jgen, ⟨h.round.1, Nat.le_succ_of_le h.round.2⟩, h.tail, h.seq, h.dead, h.ji, h.mine, h.other, h.gens, ⟨h.nb.1, Nat.le_succ_of_le h.nb.2⟩, Nat.le_succ_of_le h.len⟩
theorem gens_put {d2 : DS} {half N g r q k : Nat} {lo : Int} {b : List UInt8} (h : Gens d half N) (hg : g ≤ N) (hg2 : g < 4294967296) (hr : ∀ j : Int, readD d2 j = if lo ≤ j ∧ j < lo + k then ((frameL g r q b)[(j - lo).toNat]?.getD [], 0) else readD d j) : Gens d2 half N := by
  intro j h0 h1 g2 hm
  rw [hr] at hm
  split at hm
  · by_cases hl : (j - lo).toNat < (frameL g r q b).length
    · rw [frame_get hl] at hm
      have e : numB (secL g r q (j - lo).toNat (partsN b.length) (partL b (j - lo).toNat)) 1 = g2 := hm.2.2
      rw [sec_gen _ _ _ _ _ _ hg2] at e
      omega
    · rw [List.getElem?_eq_none (by omega)] at hm
      exact absurd hm (nil_mg g2)
  · exact h j h0 h1 g2 hm
/-- an append. -/
theorem PS.app {n half N t : Nat} {snap : List UInt8} {all : List (List UInt8)} (h : PS d S J n half N snap all T t) (hn : n ≤ 400) (ht : t ≤ 100) (hb : b.length ≤ 4000) (hfit : T + partsN b.length ≤ half) :
    (appendJ d J b).2 = 0 ∧ PS (appendJ d J b).1.1 S (appendJ d J b).1.2 n half N snap (all ++ [b]) (T + partsN b.length) (t + 1) := by
  have hj := h.jok hn (by omega)
  have hp := partsN_pos hb
  have htl := h.tl
  have hrd := h.round
  have hbs := h.base
  have hsz := h.jsize
  have hgn := h.jgen
  have hta := h.tail
  have hsq := h.seq
  have hgo := h.good
  have hln := h.len
  have hnb := h.nb
  have hft := h.fit
  obtain ⟨hi1, hi2, hi3⟩ := half_in (half := half) (N := N)
  have kA := (appendJ_ok h.ok J b).up (n := 200 * (t + 1)) (by omega)
  obtain ⟨a1, a2, a3, a4, a5, a6⟩ := append_all h.up h.ok hj (by omega) (by omega) h.dead hb (by omega) (by omega)
  have hw := whichN_lt N
  have hFl := frameL_len N J.round J.seq.toNat b
  have hcut : readsD (appendJ d J b).1.1 (2 + whichN N * half) half = (readsD d (2 + whichN N * half) half).take T ++ (frameL N J.round (all.length + 1) b ++ (readsD d (2 + whichN N * half) half).drop (T + partsN b.length)) := by
    have := reads_cut (d := d) (d2 := (appendJ d J b).1.1) (base := 2 + whichN N * half) (size := half) (T := T) (f := frameL N J.round (all.length + 1) b) (by rw [frameL_len]; omega) fun j => by
      rw [a6 j, frameL_len, hgn, hbs, hta, show J.seq.toNat = all.length + 1 by omega]
      split <;> rfl
    rw [this, frameL_len]
  refine ⟨a1, a2, a3, kA, a4.trans hgo, hft, h.eS, ?_, ?_, ?_, ?_, ?_, ?_, ?_, ?_, ?_, ?_, ?_, ⟨hnb.1, by omega⟩, by rw [List.length_append]; show all.length + 1 ≤ _; omega⟩
  · rw [a5]; exact hbs
  · rw [a5]; exact hsz
  · rw [a5]; exact hgn
  · rw [a5]; exact ⟨hrd.1, by show J.round ≤ _; omega⟩
  · rw [a5]; show J.tail + (partsN b.length : Int) = ((T + partsN b.length : Nat) : Int); omega
  · rw [a5]; show J.seq + 1 = (((all ++ [b]).length : Nat) : Int) + 1; rw [List.length_append]; show J.seq + 1 = ((all.length + 1 : Nat) : Int) + 1; omega
  · rw [a5]; exact h.dead
  · rw [a5]
    exact h.ji.app (by omega) (by omega) (by omega) (by omega) hb (by rw [List.length_cons]; omega) (by rw [readsD_len]; omega) hcut
  · rw [a6, if_neg (by omega)]; exact h.mine
  · rw [a6, if_neg (by omega)]; exact h.other
  · exact gens_put h.gens (g := J.gen) (by omega) (by omega) a6
/-- a Compact of what has room. -/
theorem compact_up {n half N t : Nat} (hu : Up d) (hp0 : d.pend = []) (ok : d.ok (200 * t)) (hgo : d.good.length = n) (hft : 2 + 2 * half ≤ n) (hS : S = ⟨half, N, false⟩) (hn : n ≤ 400) (ht : t ≤ 100) (hNt : N ≤ t) (hb : b.length ≤ 4000) (hfit : partsN b.length ≤ half)
    (hh0 : numH (readD d (0 : Nat)).1 (0 : Nat) ≤ N) (hh1 : numH (readD d (1 : Nat)).1 (1 : Nat) ≤ N) (hg : Gens d half N) :
    ∃ d2 J2, compactK d S b = (d2, some J2, 0) ∧ PS d2 ⟨half, N + 1, false⟩ J2 n half (N + 1) b [] (partsN b.length) (t + 1) := by
  have hp := partsN_pos hb
  obtain ⟨hi1, hi2, hi3⟩ := half_in (half := half) (N := N + 1)
  have hw := whichN_lt (N + 1)
  have hbl : ∀ s ∈ readsD d (2 + whichN (N + 1) * half) half, ¬ mg (N + 1) s := fun s hs hm => by
    obtain ⟨i, hi⟩ := List.mem_iff_getElem?.1 hs
    rw [reads_get] at hi
    split at hi
    · have := hg (((2 + whichN (N + 1) * half : Nat) : Int) + (i : Int)) (by omega) (by omega) (N + 1) (by rw [Option.some.inj hi]; exact hm)
      omega
    · cases hi
  have hji : JI (readsD d (2 + whichN (N + 1) * half) half) (N + 1) 0 [] 0 := JI.blank (by omega) hbl
  have hrl := hji.le
  have hopen := open_at (d := d) (base := 2 + whichN (N + 1) * half) (size := half) (gen := N + 1) hu.1 (by omega) (by omega) (by omega) hji (by decide)
  have hr1 : roundOf (N + 1) (readsD d (2 + whichN (N + 1) * half) half) + 1 = 1 := by omega
  rw [hr1] at hopen
  obtain ⟨J, hJ⟩ : ∃ J : JS, J = ⟨((2 + whichN (N + 1) * half : Nat) : Int), half, N + 1, 1, 0, 0, false⟩ := ⟨_, rfl⟩
  have hopen : openK d ((2 + whichN (N + 1) * half : Nat) : Int) half (N + 1) = (some J, [], 0) := by rw [hopen, hJ]; rfl
  have hJa : J.anew = J := by rw [hJ]; rfl
  have hji1 : JI (readsD d (2 + whichN (N + 1) * half) half) (N + 1) 1 [] 0 := by have := hji.re; rwa [hr1] at this
  have e1 : J.base = ((2 + whichN (N + 1) * half : Nat) : Int) := by rw [hJ]
  have e2 : J.size = half := by rw [hJ]
  have e3 : J.gen = N + 1 := by rw [hJ]
  have e4 : J.round = 1 := by rw [hJ]
  have e5 : J.tail = 0 := by rw [hJ]
  have e6 : J.seq = 0 := by rw [hJ]
  have e7 : J.dead = false := by rw [hJ]
  have hj : J.ok := ⟨by omega, by omega, by omega, by omega, by omega, by omega⟩
  have kA := appendJ_ok ok J b
  obtain ⟨a1, a2, a3, a4, a5, a6⟩ := append_all hu ok hj (by omega) (by omega) e7 hb (by omega) (by omega)
  have hw64 : (headB (N + 1)).length = 64 := rfl
  obtain ⟨A, hA⟩ : ∃ A, (appendJ d J b).1.1 = A := ⟨_, rfl⟩
  rw [hA] at a2 a3 a4 a6 kA
  have hwr := write_up a2 (i := ((whichN (N + 1) : Nat) : Int)) (by omega) (by omega) hw64
  have hrw := fun j => read_write a2 (i := ((whichN (N + 1) : Nat) : Int)) (by omega) (by omega) hw64 j
  obtain ⟨X, hX⟩ : ∃ X, (writeD A (whichN (N + 1) : Nat) (headB (N + 1))).1 = X := ⟨_, rfl⟩
  have x0 : (writeD A (whichN (N + 1) : Nat) (headB (N + 1))).2 = 0 := by rw [hwr]
  have xu : Up X := by rw [← hX, hwr]; exact a2
  have xl : X.good.length = A.good.length := by rw [← hX, hwr]
  have kX : X.ok (200 * t + 84 + 1) := by rw [← hX]; exact writeD_ok kA _ _
  rw [hX] at hrw
  obtain ⟨s0, su, sp, sl⟩ := sync_up xu
  have hrs := fun j => read_sync xu kX j
  have kS := syncD_ok kX
  have hC : compactK d S b = ((syncD X).1, some (appendJ d J b).1.2, 0) := by
    unfold compactK
    rw [hS]
    show (match openK d (2 + (whichN (N + 1) : Int) * (half : Int)) half (N + 1) with
      | (none, _, k) => (d, none, k)
      | (some J, _, _) => _) = _
    rw [show (2 + (whichN (N + 1) : Int) * (half : Int)) = ((2 + whichN (N + 1) * half : Nat) : Int) by rw [Int.natCast_add, Int.natCast_mul]; rfl, hopen]
    show (if (appendJ d J.anew b).2 ≠ 0 then _ else _) = _
    rw [hJa, if_neg (not_not_intro a1), hA]
    show (if (writeD A (whichN (N + 1) : Nat) (headB (N + 1))).2 ≠ 0 then _ else _) = _
    rw [if_neg (not_not_intro x0)]
    show (if (syncD (writeD A (whichN (N + 1) : Nat) (headB (N + 1))).1).2 ≠ 0 then _ else _) = _
    rw [hX, if_neg (not_not_intro s0)]
  refine ⟨_, _, hC, su, sp, kS.up (by omega), by omega, hft, rfl, ?_, ?_, ?_, ?_, ?_, ?_, ?_, ?_, ?_, ?_, ?_, ⟨by omega, by omega⟩, Nat.zero_le _⟩
  · rw [a5]; exact e1
  · rw [a5]; exact e2
  · rw [a5]; exact e3
  · rw [a5]; show 1 ≤ J.round ∧ J.round ≤ _; omega
  · rw [a5]; show J.tail + (partsN b.length : Int) = _; omega
  · rw [a5]; show J.seq + 1 = _; rw [e6]; rfl
  · rw [a5]; exact e7
  · rw [a5]
    show JI _ (N + 1) J.round [b] (partsN b.length)
    have hsame : readsD (syncD X).1 (2 + whichN (N + 1) * half) half = readsD A (2 + whichN (N + 1) * half) half := reads_same fun j h0 h1 => by rw [hrs, hrw, if_neg (by omega)]
    have hcut : readsD (syncD X).1 (2 + whichN (N + 1) * half) half = (readsD d (2 + whichN (N + 1) * half) half).take 0 ++ (frameL (N + 1) 1 0 b ++ (readsD d (2 + whichN (N + 1) * half) half).drop (0 + partsN b.length)) := by
      have := reads_cut (d := d) (d2 := A) (base := 2 + whichN (N + 1) * half) (size := half) (T := 0) (f := frameL (N + 1) 1 0 b) (by rw [frameL_len]; omega) fun j => by
        rw [a6, frameL_len, e3, e4, e1, show J.tail = ((0 : Nat) : Int) from e5, show J.seq.toNat = 0 by omega]
        split <;> rfl
      rw [hsame, this, frameL_len]
    have := hji1.app (b := b) (by omega) (by omega) (by decide) (by decide) hb (by simp) (by rw [readsD_len]; omega) hcut
    rw [e4]
    rwa [Nat.zero_add] at this
  · rw [hrs, hrw, if_pos rfl]
    exact numH_head (by omega) (by omega)
  · rw [hrs, hrw, if_neg (by omega), a6, if_neg (by omega)]
    rcases Nat.lt_or_ge (whichN (N + 1)) 1 with h0 | h0
    · rw [show 1 - whichN (N + 1) = 1 by omega]; omega
    · rw [show 1 - whichN (N + 1) = 0 by omega]; omega
  · intro j h0 h1 g2 hm
    rw [hrs, hrw, if_neg (by omega)] at hm
    exact gens_put (fun j h0 h1 g hm => Nat.le_succ_of_le (hg j h0 h1 g hm)) (g := J.gen) (N := N + 1) (by omega) (by omega) a6 j h0 h1 g2 hm
end
end Go.Proofs.Ytidijnfkcpbkiaa

/- Snapshot, plainly: Open, and what sectors say. -/
set_option linter.unusedVariables false
set_option linter.unusedSimpArgs false
set_option maxRecDepth 20000
set_option maxHeartbeats 2000000
namespace Go.Proofs.Ytidijnfkcpbkiaa
open Go Go.Mx Go.Proofs
/-- what Compact does, and answers. -/
def compactS (d : DS) (S : SS) (b : List UInt8) : DS × Option JS × Int :=
  if partsN b.length = 0 then (d, none, 3)
  else if S.dead then (d, none, 19)
  else if S.number = 4294967295 then (d, none, 2)
  else if (partsN b.length : Int) > S.half then (d, none, 18)
  else compactK d S b
/-- what Open found. -/
structure OS where
  d : DS
  s : Option (SS × JS)
  l : List (List UInt8)
  k : Int
def bigN (d : DS) : Nat := max (numH (readD d 0).1 0) (numH (readD d 1).1 1)
def halfD (d : DS) : Int := ((d.good.length : Int) - 2).tdiv 2
def openS (d : DS) : OS :=
  if (d.good.length : Int) < 6 then ⟨d, none, [], 1⟩
  else if d.down then ⟨d, none, [], 19⟩
  else if bigN d = 0 then
    (match compactS d ⟨halfD d, 0, false⟩ [] with
    | (d2, some J, _) => ⟨d2, some (⟨halfD d, 1, false⟩, J), [], 0⟩
    | (d2, none, k) => ⟨d2, none, [], k⟩)
  else
    (match openK d (2 + whichN (bigN d) * halfD d) (halfD d) (bigN d) with
    | (none, _, k) => ⟨d, none, [], k⟩
    | (some J, l, _) => if l = [] then ⟨d, none, [], 4⟩ else ⟨d, some (⟨halfD d, bigN d, false⟩, J), l, 0⟩)
/-- what sectors say: number, snapshot and records, room, kind. -/
def ofK (L : List (List UInt8)) : Nat × List (List UInt8) × Int × Int :=
  if L.length < 6 then (0, [], 0, 1)
  else
    let a := numH (L[0]?.getD []) 0
    let b := numH (L[1]?.getD []) 1
    let half := (L.length - 2) / 2
    if a = 0 ∧ b = 0 then (if (scanK ((L.drop 2).take half) 1).2 = 4294967295 then (0, [], 0, 2) else (0, [], 0, 0))
    else
      let n := if b > a then b else a
      let from_ := if b > a then 2 + half else 2
      let s := scanK ((L.drop from_).take half) n
      if s.2 = 4294967295 then (0, [], 0, 2)
      else if s.1.1 = [] then (0, [], 0, 4)
      else (n, s.1.1, (half : Int) - s.1.2, 0)
section
variable {d : DS} {J : JS} {S : SS} {n half N T t : Nat} {snap b : List UInt8} {all : List (List UInt8)}
theorem halfD_eq (hg : d.good.length = n) (h6 : 6 ≤ n) : halfD d = (((n - 2) / 2 : Nat) : Int) := by
  unfold halfD
  rw [hg, Int.tdiv_eq_ediv_of_nonneg (by omega)]
  omega
theorem PS.big (h : PS d S J n half N snap all T t) : bigN d = N ∧ (whichN N = 0 → numH (readD d 0).1 0 = N ∧ numH (readD d 1).1 1 < N) ∧ (whichN N = 1 → numH (readD d 1).1 1 = N ∧ numH (readD d 0).1 0 < N) := by
  have h1 := h.mine
  have h2 := h.other
  have hw := whichN_lt N
  rcases Nat.lt_or_ge (whichN N) 1 with h0 | h0
  · have e : whichN N = 0 := by omega
    rw [e] at h1 h2
    have h1 : numH (readD d 0).1 0 = N := h1
    have h2 : numH (readD d 1).1 1 < N := h2
    exact ⟨by unfold bigN; omega, fun _ => ⟨h1, h2⟩, fun h => by omega⟩
  · have e : whichN N = 1 := by omega
    rw [e] at h1 h2
    have h1 : numH (readD d 1).1 1 = N := h1
    have h2 : numH (readD d 0).1 0 < N := h2
    exact ⟨by unfold bigN; omega, fun h => by omega, fun _ => ⟨h1, h2⟩⟩
/-- another Open. -/
theorem PS.reopen (h : PS d S J n half N snap all T t) (h6 : 6 ≤ n) (hn : n ≤ 400) (ht : t ≤ 1000) (hh : half = (n - 2) / 2) :
    ∃ J2, openS d = ⟨d, some (S, J2), snap :: all, 0⟩ ∧ PS d S J2 n half N snap all T (t + 1) := by
  have hb := h.big.1
  have hnb := h.nb
  have hf := h.fit
  have hrd := h.round
  have hgo := h.good
  have hle := h.ji.le
  obtain ⟨hi1, hi2, hi3⟩ := half_in (half := half) (N := N)
  have hD : halfD d = (half : Int) := by rw [halfD_eq h.good h6, hh]
  have hO := open_at (d := d) (base := 2 + whichN N * half) (size := half) (gen := N) h.up.1 (by omega) (by omega) (by omega) h.ji (by omega)
  obtain ⟨J2, hJ2⟩ : ∃ J2 : JS, J2 = ⟨((2 + whichN N * half : Nat) : Int), half, N, roundOf N (readsD d (2 + whichN N * half) half) + 1, T, (snap :: all).length, false⟩ := ⟨_, rfl⟩
  rw [← hJ2] at hO
  refine ⟨J2, ?_, ?_⟩
  · unfold openS
    rw [if_neg (by omega), if_neg (by rw [h.up.1]; decide), if_neg (by omega), hb, hD, show (2 + (whichN N : Int) * (half : Int)) = ((2 + whichN N * half : Nat) : Int) by rw [Int.natCast_add, Int.natCast_mul]; rfl, hO]
    show (if snap :: all = [] then _ else _) = _
    rw [if_neg (by simp), h.eS]
  · have hu := h.up'
    refine ⟨hu.up, hu.pend, hu.ok, hu.good, hu.fit, hu.eS, ?_, ?_, ?_, ?_, ?_, ?_, ?_, ?_, hu.mine, hu.other, hu.gens, hu.nb, hu.len⟩
    · rw [hJ2]
    · rw [hJ2]
    · rw [hJ2]
    · rw [hJ2]; show 1 ≤ roundOf _ _ + 1 ∧ roundOf _ _ + 1 ≤ _; omega
    · rw [hJ2]
    · rw [hJ2]; show (((snap :: all).length : Nat) : Int) = _; rw [List.length_cons]; omega
    · rw [hJ2]
    · rw [hJ2]; exact h.ji.re
theorem reads_drop (d : DS) (n k m : Nat) (h : k + m ≤ n) : ((readsD d 0 n).drop k).take m = readsD d k m := by
  apply List.ext_getElem?
  intro i
  rw [reads_get]
  by_cases hi : i < m
  · rw [List.getElem?_take_of_lt hi, List.getElem?_drop, reads_get, if_pos (by omega), if_pos hi]
    congr 3; omega
  · rw [if_neg hi, List.getElem?_eq_none (by rw [List.length_take]; omega)]
/-- what the sectors of a store say. -/
theorem PS.of (h : PS d S J n half N snap all T t) (h6 : 6 ≤ n) (hn : n ≤ 400) (ht : t ≤ 1000) (hh : half = (n - 2) / 2) : ofK (readsD d 0 n) = (N, snap :: all, (half : Int) - T, 0) := by
  obtain ⟨_, b0, b1⟩ := h.big
  have hl := readsD_len d 0 n
  have hw := whichN_lt N
  have hnb := h.nb
  have hrd := h.round
  have hf := h.fit
  have hle := h.ji.le
  obtain ⟨hi1, hi2, hi3⟩ := half_in (half := half) (N := N)
  have g0 : (readsD d 0 n)[0]?.getD [] = (readD d 0).1 := by rw [reads_get, if_pos (by omega)]; rfl
  have g1 : (readsD d 0 n)[1]?.getD [] = (readD d 1).1 := by rw [reads_get, if_pos (by omega)]; rfl
  have hs : scanK (readsD d (2 + whichN N * half) half) N = ((snap :: all, T), roundOf N (readsD d (2 + whichN N * half) half)) := by
    have := h.ji.scan
    have h2 : (scanK (readsD d (2 + whichN N * half) half) N).2 = roundOf N (readsD d (2 + whichN N * half) half) := rfl
    exact Prod.ext this h2
  unfold ofK
  rw [if_neg (by omega)]
  simp only [g0, g1, hl, ← hh]
  rcases Nat.lt_or_ge (whichN N) 1 with h0 | h0
  · have e : whichN N = 0 := by omega
    obtain ⟨c0, c1⟩ := b0 e
    rw [e, Nat.zero_mul, Nat.add_zero] at hs hle
    rw [c0, if_neg (show ¬ (N = 0 ∧ numH (readD d 1).1 1 = 0) by omega), if_neg (show ¬ numH (readD d 1).1 1 > N by omega), if_neg (show ¬ numH (readD d 1).1 1 > N by omega), reads_drop d n 2 half (by omega), hs]
    show (if roundOf N _ = 4294967295 then _ else if snap :: all = [] then _ else _) = _
    rw [if_neg (by omega), if_neg (by simp)]
  · have e : whichN N = 1 := by omega
    obtain ⟨c0, c1⟩ := b1 e
    rw [e, Nat.one_mul] at hs hle
    rw [c0, if_neg (show ¬ (numH (readD d 0).1 0 = 0 ∧ N = 0) by omega), if_pos (show N > numH (readD d 0).1 0 from c1), if_pos (show N > numH (readD d 0).1 0 from c1), reads_drop d n (2 + half) half (by omega), hs]
    show (if roundOf N _ = 4294967295 then _ else if snap :: all = [] then _ else _) = _
    rw [if_neg (by omega), if_neg (by simp)]
/-- a Compact. -/
theorem PS.compact (h : PS d S J n half N snap all T t) (hn : n ≤ 400) (ht : t ≤ 100) (hb : b.length ≤ 4000) (hfit : partsN b.length ≤ half) :
    ∃ d2 J2, compactS d S b = (d2, some J2, 0) ∧ PS d2 ⟨half, N + 1, false⟩ J2 n half (N + 1) b [] (partsN b.length) (t + 1) := by
  obtain ⟨_, b0, b1⟩ := h.big
  have hp := partsN_pos hb
  have hnb := h.nb
  have hw := whichN_lt N
  have hh : numH (readD d (0 : Nat)).1 (0 : Nat) ≤ N ∧ numH (readD d (1 : Nat)).1 (1 : Nat) ≤ N := by
    rcases Nat.lt_or_ge (whichN N) 1 with h0 | h0
    · obtain ⟨c0, c1⟩ := b0 (by omega)
      exact ⟨Nat.le_of_eq c0, Nat.le_of_lt c1⟩
    · obtain ⟨c0, c1⟩ := b1 (by omega)
      exact ⟨Nat.le_of_lt c1, Nat.le_of_eq c0⟩
  obtain ⟨d2, J2, hC, hP⟩ := compact_up h.up h.pend h.ok h.good h.fit h.eS hn ht hnb.2 hb hfit hh.1 hh.2 h.gens
  refine ⟨d2, J2, ?_, hP⟩
  unfold compactS
  rw [if_neg (by omega), h.eS, if_neg (show ¬ (false = true) by decide), if_neg (by show ¬ N = 4294967295; omega), if_neg (by show ¬ (partsN b.length : Int) > (half : Int); omega), ← h.eS, hC]
/-- a Compact, and an append, without room. -/
theorem PS.full (h : PS d S J n half N snap all T t) (ht : t ≤ 100) (hb : b.length ≤ 4000) (hfit : half < partsN b.length) : compactS d S b = (d, none, 18) := by
  have hp := partsN_pos hb
  have hnb := h.nb
  unfold compactS
  rw [if_neg (by omega), h.eS, if_neg (show ¬ (false = true) by decide), if_neg (by show ¬ N = 4294967295; omega), if_pos (by show (partsN b.length : Int) > (half : Int); omega)]
theorem PS.noroom (h : PS d S J n half N snap all T t) (hb : b.length ≤ 4000) (hfit : half < T + partsN b.length) : appendJ d J b = ((d, J), 18) := by
  have hp := partsN_pos hb
  have hs := h.jsize
  have hta := h.tail
  unfold appendJ
  rw [if_neg (by omega), h.dead, if_neg (by decide), if_pos (by omega)]
end
theorem zero_no : numH (List.replicate 64 0) 0 = 0 ∧ numH (List.replicate 64 0) 1 = 0 := by
  have : numB (List.replicate 64 0) 1 = 0 := rfl
  unfold numH
  rw [this]; exact ⟨rfl, rfl⟩
theorem new_read2 (n : Nat) (i : Int) : (readD (newDS n) i).1 = List.replicate 64 0 ∨ (readD (newDS n) i).1 = [] := by
  have hs : readS (newDS n) i = Sec.z := by
    unfold readS newDS
    show ((List.replicate n Sec.z)[i.toNat]?).getD Sec.z = Sec.z
    rw [List.getElem?_replicate]
    split <;> rfl
  unfold readD
  rw [hs]
  split
  · exact .inl rfl
  · exact .inr rfl
theorem new_numH (n : Nat) (i : Int) {j : Int} (hj : j = 0 ∨ j = 1) : numH (readD (newDS n) i).1 j = 0 := by
  rcases new_read2 n i with e | e
  · rw [e]
    rcases hj with rfl | rfl
    · exact zero_no.1
    · exact zero_no.2
  · rw [e]; exact numH_nil _
theorem new_gens (n half N : Nat) : Gens (newDS n) half N := fun j _ _ g hm => by
  rcases new_read2 n j with e | e
  · rw [e] at hm
    have : (0 : Nat) = 197 := hm.2.1
    omega
  · rw [e] at hm
    exact absurd hm (nil_mg g)
/-- the first Open. -/
theorem PS.new {n half : Nat} (h6 : 6 ≤ n) (hn : n ≤ 400) (hh : half = (n - 2) / 2) :
    ∃ d J, openS (newDS n) = ⟨d, some (⟨half, 1, false⟩, J), [], 0⟩ ∧ PS d ⟨half, 1, false⟩ J n half 1 [] [] 1 1 := by
  have hgl : (newDS n).good.length = n := by simp [newDS]
  have hD : halfD (newDS n) = (half : Int) := by rw [halfD_eq hgl h6, hh]
  obtain ⟨d2, J2, hC, hP⟩ := compact_up (d := newDS n) (S := ⟨half, 0, false⟩) (b := []) (N := 0) (t := 0) (half := half) (n := n) ⟨rfl, rfl⟩ rfl (newDS_ok (by omega) hn) hgl (by omega) rfl hn (by decide) (Nat.le_refl _) (by decide) (by show 1 ≤ half; omega) (Nat.le_of_eq (new_numH n 0 (.inl rfl))) (Nat.le_of_eq (new_numH n 1 (.inr rfl))) (new_gens _ _ _)
  refine ⟨d2, J2, ?_, hP⟩
  have hbig : bigN (newDS n) = 0 := by unfold bigN; rw [new_numH _ _ (.inl rfl), new_numH _ _ (.inr rfl)]; rfl
  have hS : compactS (newDS n) ⟨half, 0, false⟩ [] = (d2, some J2, 0) := by
    unfold compactS
    rw [if_neg (show ¬ partsN ([] : List UInt8).length = 0 by decide), if_neg (show ¬ (false = true) by decide), if_neg (show ¬ 0 = 4294967295 by decide), if_neg (by show ¬ ((1 : Nat) : Int) > (half : Int); omega), hC]
  unfold openS
  rw [if_neg (by omega), if_neg (show ¬ ((newDS n).down = true) from fun h => by cases h), if_pos hbig, hD, hS]
end Go.Proofs.Ytidijnfkcpbkiaa

/- Snapshot: Compact of a store. -/
set_option linter.unusedVariables false
set_option linter.unusedSimpArgs false
set_option maxRecDepth 20000
set_option maxHeartbeats 4000000
namespace Go.Proofs.Ytidijnfkcpbkiaa
open Go Go.Mx Go.Proofs
open W (OwnB GivesW)
/-- some blocks become nobody's. -/
def untag (o : Own) (L : List Nat) : Own := fun b => if b ∈ L then none else o b
theorem DG.own {w : World} {o o' : Own} {g : Nat} {d : DS} (h : DG w o g d) (k : ∀ b, o b = some g → o' b = some g) : DG w o' g d := by
  obtain ⟨⟨ga, gc, pa, pc, hb, hg, hp⟩, tg⟩ := h
  exact ⟨⟨ga, gc, pa, pc, hb, ⟨hg.own, fun ad ha => ⟨k _ (hg.tg ad ha).1, (hg.tg ad ha).2⟩⟩, ⟨hp.own, fun ad ha => ⟨k _ (hp.tg ad ha).1, (hp.tg ad ha).2⟩⟩⟩, k _ tg⟩
section
variable {w0 w w' wc : World} {o0 o o' : Own} {q g p m qk ql qs qp qn n : Nat} {K : Nat → Prop} {b : List UInt8} {a : Option Addr} {c : Nat} {d : DS} {S : SS} {lg jp : Option Addr} {L l : List Nat}
/-- on the way through Compact. -/
structure CW (w0 : World) (o0 : Own) (qp qs qn p g : Nat) (lg : Option Addr) (S : SS) (d : DS) (a : Option Addr) (b : List UInt8) (c n : Nat) (w : World) (o : Own) : Prop where
  st : Step no w0 o0 w o
  bp : Blk w qp 29 [.pointer (some (blk p))] ∧ o qp = none
  bs : Blk w qs 30 [.slice a b.length c] ∧ o qs = none
  bn : Blk w qn 34 [.int .u32 n] ∧ o qn = none
  sg : SG w o p g lg S
  dg : DG w o g d
  lt : p < w0.heap.size ∧ g < w0.heap.size
theorem CW.move (h : CW w0 o0 qp qs qn p g lg S d a b c n w o) (s : Step K w o w' o') (hk : ∀ k, K k → w0.heap.size ≤ k) : CW w0 o0 qp qs qn p g lg S d a b c n w' o' :=
  ⟨h.st.trans' s fun i hi => .inr (hk i hi), free_blk h.bp.1 h.bp.2 s, free_blk h.bs.1 h.bs.2 s, free_blk h.bn.1 h.bn.2 s, h.sg.step s fun hp => by have := hk _ hp; have := h.lt.1; omega, h.dg.step s fun hp => by have := hk _ hp; have := h.lt.2; omega, h.lt⟩
theorem CW.cp (h : CW w0 o0 qp qs qn p g lg S d a b c n w o) : w.cell? (blk qp) = some (.pointer (some (blk p))) := h.bp.1.cella (i := 0) rfl
theorem CW.cn (h : CW w0 o0 qp qs qn p g lg S d a b c n w o) : w.cell? (blk qn) = some (.int .u32 n) := h.bn.1.cella (i := 0) rfl
theorem CW.ch (h : CW w0 o0 qp qs qn p g lg S d a b c n w o) : w.cell? ((blk p).add 1) = some (.int .i64 S.half) := h.sg.mem.cella (i := 1) rfl
theorem CW.cd (h : CW w0 o0 qp qs qn p g lg S d a b c n w o) : w.cell? ((blk p).add 0) = some (.pointer (some (blk g))) := h.sg.mem.cella (i := 0) rfl
theorem CW.still (h : CW w0 o0 qp qs qn p g lg S d a b c n w o) (X : Ext no w w') : ∃ o', CW w0 o0 qp qs qn p g lg S d a b c n w' o' ∧ Step no w o w' o' :=
  ⟨_, h.move (Step.of_no X h.st.ok) (fun _ h => h.elim), Step.of_no X h.st.ok⟩
theorem CW.priv (h : CW w0 o0 qp qs qn p g lg S d a b c n w o) (X : Ext no w w') (P : Priv w w' L) : ∃ o', CW w0 o0 qp qs qn p g lg S d a b c n w' o' ∧ Mine L w' o' ∧ (∀ k ∈ L, w0.heap.size ≤ k) ∧ Step no w o w' o' := by
  obtain ⟨s, M⟩ := Step.priv X P h.st.ok
  exact ⟨_, h.move s (fun _ h => h.elim), M, fun k hk => Nat.le_trans h.st.size (P k hk).1, s⟩
theorem CW.join (h : CW w0 o0 qp qs qn p g lg S d a b c n w o) (M : Mine L w o) (hL : ∀ k ∈ L, w0.heap.size ≤ k) (X : Ext (fun b => b ∈ L) w w') (P : PrivJ L w w' l) : ∃ o', CW w0 o0 qp qs qn p g lg S d a b c n w' o' ∧ Mine l w' o' ∧ (∀ k ∈ l, w0.heap.size ≤ k) ∧ Step (fun j => j ∈ L) w o w' o' := by
  obtain ⟨s, M2⟩ := Step.join X h.st.ok M P
  exact ⟨_, h.move s hL, M2, fun k hk => (P k hk).1.elim (hL k) fun h2 => Nat.le_trans h.st.size h2, s⟩
theorem CW.joins (h : CW w0 o0 qp qs qn p g lg S d a b c n w o) (M : Mine L w o) (hL : ∀ k ∈ L, w0.heap.size ≤ k) (X : Ext (fun b => b ∈ L) w w') : ∃ o', CW w0 o0 qp qs qn p g lg S d a b c n w' o' ∧ Step (fun j => j ∈ L) w o w' o' :=
  ⟨_, h.move (Step.joins X h.st.ok M) hL, Step.joins X h.st.ok M⟩
theorem CW.seen (h : CW w0 o0 qp qs qn p g lg S d a b c n w o) (X : Ext no w w') {t : TypeId} {cs : List Value} (hb : Blk w' q t cs) (hq : w.heap.size ≤ q) : ∃ o', CW w0 o0 qp qs qn p g lg S d a b c n w' o' ∧ (Blk w' q t cs ∧ o' q = none) ∧ Step no w o w' o' :=
  ⟨_, h.move (Step.of_no X h.st.ok) (fun _ h => h.elim), ⟨hb, grow_ge hq⟩, Step.of_no X h.st.ok⟩
/-- what Create made. -/
def JR (S : SS) (d : DS) (wc : World) (g : Nat) (jp : Option Addr) (w : World) (o : Own) : Prop :=
  ∀ J, (openK d (2 + whichN (S.number + 1) * S.half) S.half (S.number + 1)).1 = some J → ∃ q, jp = some (blk q) ∧ wc.heap.size ≤ q ∧ JG w o q g J.anew
theorem JR.move (h : JR S d wc g jp w o) (s : Step K w o w' o') (hk : ∀ k, K k → k < wc.heap.size ∨ w.heap.size ≤ k) : JR S d wc g jp w' o' := fun J hJ => by
  obtain ⟨q, e, hq, jg⟩ := h J hJ
  exact ⟨q, e, hq, jg.step s fun hK => by have := jg.mem.lt; rcases hk q hK with h | h <;> omega⟩
theorem JR.still (h : JR S d wc g jp w o) (s : Step no w o w' o') : JR S d wc g jp w' o' := h.move s fun _ h => h.elim
/-- what is left where a Compact ended. -/
def Left (w : World) (o : Own) (p g : Nat) (lg : Option Addr) (S : SS) (C : DS × Option JS × Int) (w' : World) : Prop :=
  ∃ o', Step (fun i => i = p ∨ i = g) w o w' o' ∧ DG w' o' g C.1 ∧ (C.2.1 = none → SG w' o' p g lg (S.seen C.2.2)) ∧ ∀ J, C.2.1 = some J → ∃ q, w.heap.size ≤ q ∧ SG w' o' p g (some (blk q)) { S with number := S.number + 1 } ∧ JG w' o' q g J
theorem openK_ok {J : JS} (hd : d.ok m) (hn : n < 4294967296) {base size : Int} (h : (openK d base size n).1 = some J) : J.anew.ok := by
  have hl := stretchK_len d base size n hd.n2
  have hr := roundOf_lt n (stretchK d base size n).1
  have h1 : ∀ x, (scanK (stretchK d base size n).1 n).2 = x → roundOf n (stretchK d base size n).1 = x := fun x e => e
  unfold openK at h
  split at h
  · cases h
  · rename_i hk
    split at h
    · cases h
    · rename_i hk2
      have e := Option.some.inj h
      subst e
      have hs : ¬ (n = 0 ∨ base < 0 ∨ size < 1 ∨ base > d.good.length ∨ size > (d.good.length : Int) - base) := fun hs => hk (by unfold stretchK; rw [if_pos hs]; decide)
      have := hd.n2
      have h2 : (scanK (stretchK d base size n).1 n).2 = roundOf n (stretchK d base size n).1 := rfl
      exact ⟨by show 0 ≤ base ∧ base ≤ _; omega, by show 0 ≤ size ∧ size ≤ _; omega, hn, by show (scanK (stretchK d base size n).1 n).2 + 1 < _; omega, by show (0 : Int) ≤ 0 ∧ (0 : Int) ≤ _; omega, by show (0 : Int) ≤ 0 ∧ (0 : Int) ≤ _; omega⟩
theorem compact_tail {R : Value → World → Prop} (C : CW w0 o0 qp qs qn p g lg S d a b c n w o) (fl : Blk w ql 58 [.pointer none] ∧ o ql = none) (fk : Blk w qk 26 [.int .i64 0] ∧ o qk = none)
    (hql : w0.heap.size ≤ ql) (hqk : w0.heap.size ≤ qk) (hne : ql ≠ qk) (jr : JR S d wc g jp w o) (hwc : w0.heap.size ≤ wc.heap.size) (hpg : p ≠ g)
    (hd : d.ok m) (hm : m + 300 < 100000) (hN : n = S.number + 1) (hn : n < 4294967296) (hc : b.length ≤ c) (hbl : b.length < 1000000)
    (hb : Row w0 o0 a (bytesV b)) (hR : ∀ e w', e = (compactK d S b).2.2 → Left w0 o0 p g lg S (compactK d S b) w' → R (.int .i64 e) w') :
    canStore w ((blk ql).add 0) ∧
    thenW (w.setCell ((blk ql).add 0) (.pointer jp)) fun ww77 =>
    canStore ww77 ((blk qk).add 0) ∧
    thenW (ww77.setCell ((blk qk).add 0) (.int .i64 (openK d (2 + whichN (S.number + 1) * S.half) S.half (S.number + 1)).2.2)) fun ww78 =>
    ∃ (x80 : Option Addr), ww78.cell? (blk qp) = some (.pointer x80) ∧
    ∃ a81 : Addr, x80 = some a81 ∧
    ∃ (d83 : Option Addr), ww78.cell? (a81.add 0) = some (.pointer d83) ∧
    ∀ (ww84 : World) (q85 : Nat), Ext no ww78 ww84 → Blk ww84 q85 68 [.func (.func 30) #[] #[.pointer (some (blk qk))], .func (.func 31) #[] #[.pointer (some (blk ql)), .pointer (some (blk qs))], .func (.func 33) #[] #[.pointer (some (blk qp)), .pointer (some (blk qn))], .func (.func 37) #[.pointer d83] #[]] → ww78.heap.size ≤ q85 → q85 < ww84.heap.size →
    ∃ (I1 : Nat → List Value → World → Prop) (m87 : Nat), I1 m87 [.int .i64 0] ww84 ∧ ∀ (m88 : Nat) (ww89 : World) (t86 : Int), I1 m88 [.int .i64 t86] ww89 →
    (t86 < (4 : Int) →
      0 ≤ (t86 : Int) ∧ (t86 : Int) < (4 : Int) ∧
      ∃ (x92k : Nat) (x92f : Array Value) (x92g : Array Value), ww89.cell? ((blk q85).add (Int.toNat t86 * 1)) = some (.func (.func x92k) x92f x92g) ∧
      ∃ (x95 : Option Addr), ww89.cell? (blk qp) = some (.pointer x95) ∧
      ∀ (ww93 : World), Ext no ww89 ww93 →
      enters Try.prog x92k = true ∧ Calls Try.prog x92k (x92f.toList ++ ([] : List Value) ++ x92g.toList).toArray ww93 (fun ee97 ww98 => ∃ (r96 : Int), ee97 = .returned (.int .i64 r96) ∧
      ww98.cell? (blk qp) = some (.pointer x95) ∧
      Calls Try.prog 38 #[.pointer x95, .int .i64 r96] ww98 fun ee101 ww102 => ∃ (see100 : Int), ee101 = .returned (.int .i64 see100) ∧
      (see100 ≠ 0 →
        R (.int .i64 see100) ww102) ∧
      (see100 = 0 →
        (-9223372036854775808 : Int) ≤ (t86 + 1) ∧ (t86 + 1) < 9223372036854775808 ∧
        ∃ m104, m104 < m88 ∧ I1 m104 [.int .i64 (t86 + 1)] ww102))) ∧
    ((4 : Int) ≤ t86 →
      ∃ (x107 : Option Addr), ww89.cell? (blk qp) = some (.pointer x107) ∧
      ∃ (x109 : Option Addr), ww89.cell? (blk qp) = some (.pointer x109) ∧
      ∃ (x111 : Int), ww89.cell? (blk qn) = some (.int .u32 x111) ∧
      ∃ (x113 : Option Addr), ww89.cell? (blk ql) = some (.pointer x113) ∧
      ∃ a114 : Addr, x107 = some a114 ∧
      ∀ (ww105 : World), Ext no ww89 ww105 →
      canStore ww105 ((a114.add 2).add 0) ∧
      thenW (ww105.setCell ((a114.add 2).add 0) (.int .u32 x111)) fun ww115 =>
      ww115.cell? (blk ql) = some (.pointer x113) ∧
      ww115.cell? (blk qp) = some (.pointer x109) ∧
      ∃ a118 : Addr, x109 = some a118 ∧
      canStore ww115 ((a118.add 3).add 0) ∧
      thenW (ww115.setCell ((a118.add 3).add 0) (.pointer x113)) fun ww119 =>
      R (.int .i64 0) ww119) := by
  have hql2 := fl.1.lt
  have hqk2 := fk.1.lt
  refine ⟨fl.1.cana (i := 0) rfl, thenW_in fun w1 e1 => ?_⟩
  have bl1 := fl.1.seta 0 (.pointer jp)
  rw [← e1] at bl1
  have bk1 : Blk w1 qk _ _ := fk.1.off (show qk ≠ ((blk ql).add 0).block from fun e => hne e.symm) e1
  refine ⟨bk1.cana (i := 0) rfl, thenW_in fun w2 e2 => ?_⟩
  have bk2 := bk1.seta 0 (.int .i64 (openK d (2 + whichN (S.number + 1) * S.half) S.half (S.number + 1)).2.2)
  rw [← e2] at bk2
  have bl2 : Blk w2 ql _ _ := bl1.off (show ql ≠ ((blk qk).add 0).block from hne) e2
  -- the two blocks are their own for the stores, and nobody's behind them
  have X : Ext (fun x => x = ql ∨ x = qk) w w2 := ((Ext.refl (fun x => x = ql ∨ x = qk) w).x_set (q := ql) (i := 0) rfl (.inl (.inl rfl)) e1).x_set (q := qk) (i := 0) rfl (.inl (.inr rfl)) e2
  have t1 := (C.st.tag hql hql2).tag hqk hqk2
  have mine : Mine [ql, qk] w (tag (tag o ql ql) qk qk) := fun x hx => by
    rcases List.mem_cons.1 hx with rfl | hx
    · exact ⟨hql2, by rw [tag_ne hne]; exact tag_self⟩
    · rw [List.mem_singleton.1 hx]; exact ⟨hqk2, tag_self⟩
  have keepo : ∀ {g' : Nat} (x : Nat), o x = some g' → tag (tag o ql ql) qk qk x = some g' := fun {g'} x hx => by
    rw [tag_ne (fun e => by rw [e, fk.2] at hx; cases hx), tag_ne (fun e => by rw [e, fl.2] at hx; cases hx)]; exact hx
  have keepn : ∀ x : Nat, o x = none → x ≠ ql → x ≠ qk → tag (tag o ql ql) qk qk x = none := fun x hx h1 h2 => by rw [tag_ne h2, tag_ne h1]; exact hx
  have s2 := Step.stores X t1.ok mine fun x hx => by rcases hx with rfl | rfl <;> simp
  have Kge : ∀ i, i ∈ [ql, qk] → w0.heap.size ≤ i := fun i hi => by
    rcases List.mem_cons.1 hi with rfl | hi
    · exact hql
    · rw [List.mem_singleton.1 hi]; exact hqk
  have t2 := t1.trans' s2 fun i hi => .inr (Kge i hi)
  obtain ⟨o2, ho2⟩ : ∃ o2, o2 = untag (grow w (tag (tag o ql ql) qk qk)) [ql, qk] := ⟨_, rfl⟩
  have o2s : ∀ (x : Nat) (g' : Nat), o x = some g' → x < w.heap.size → o2 x = some g' := fun x g' hx hl => by
    rw [ho2]; unfold untag
    rw [if_neg, grow_lt hl]
    · exact keepo x hx
    · intro hm
      rcases List.mem_cons.1 hm with rfl | hm
      · rw [fl.2] at hx; cases hx
      · rw [List.mem_singleton.1 hm, fk.2] at hx; cases hx
  have o2n : ∀ x, o x = none → x < w.heap.size → o2 x = none := fun x hx hl => by
    rw [ho2]; unfold untag
    by_cases hm : x ∈ [ql, qk]
    · rw [if_pos hm]
    · rw [if_neg hm, grow_lt hl, keepn x hx (fun e => hm (by simp [e])) (fun e => hm (by simp [e]))]
  have st2 : Step no w0 o0 w2 o2 := ⟨t2.ext, fun x hx => by
    rw [ho2]; unfold untag
    rw [if_neg (fun hm => by have := Kge x hm; omega)]; exact t2.same x hx, t2.ok0, fun x j hx hj => by
      rw [ho2] at hj; unfold untag at hj
      split at hj
      · cases hj
      · exact t2.ok x j hx hj⟩
  have un : ∀ (g' : Nat), g' ≠ ql → g' ≠ qk → ∀ x, grow w (tag (tag o ql ql) qk qk) x = some g' → o2 x = some g' := fun g' h1 h2 x hx => by
    rw [ho2]; unfold untag
    rw [if_neg]
    · exact hx
    · intro hm
      rcases List.mem_cons.1 hm with rfl | hm
      · rw [grow_lt hql2, (mine x (by simp)).2] at hx; cases hx; exact h1 rfl
      · rw [List.mem_singleton.1 hm, grow_lt hqk2, (mine qk (by simp)).2] at hx; cases hx; exact h2 rfl
  have gne : ∀ {g' : Nat}, o g' = some g' → g' ≠ ql ∧ g' ≠ qk := fun {g'} hg => ⟨fun e => (by rw [e, fl.2] at hg; cases hg), fun e => (by rw [e, fk.2] at hg; cases hg)⟩
  have nK : ∀ {g' : Nat}, o g' = some g' → ¬ g' ∈ [ql, qk] := fun {g'} hg hm => by
    rcases List.mem_cons.1 hm with e | hm
    · exact (gne hg).1 e
    · exact (gne hg).2 (List.mem_singleton.1 hm)
  have D2 : DG w2 o2 g d := ((C.dg.own fun x hx => keepo x hx).step s2 (nK C.dg.tg)).own (un g (gne C.dg.tg).1 (gne C.dg.tg).2)
  have hfree : ∀ {x : Nat} {t : TypeId} {cs : List Value}, Blk w x t cs ∧ o x = none → x ≠ ql → x ≠ qk → Blk w2 x t cs ∧ o2 x = none := fun {x t cs} h h1 h2 => ⟨h.1.ext X (fun hx => hx.elim h1 h2), o2n x h.2 h.1.lt⟩
  have one : ∀ {g' : Nat} {t : TypeId} {cs : List Value}, Blk w g' t cs → o g' = some g' → Blk w2 g' t cs ∧ o2 g' = some g' := fun {g' t cs} h hg => ⟨h.ext X (fun hx => hx.elim (gne hg).1 (gne hg).2), o2s g' g' hg h.lt⟩
  have tyne : ∀ {x y : Nat} {t u : TypeId} {cs cs' : List Value}, Blk w x t cs → Blk w y u cs' → t ≠ u → x ≠ y := fun {x y t u cs cs'} h1 h2 ht e => by
    subst e
    unfold Blk at h1 h2
    rw [h1] at h2
    injection h2 with h2
    injection h2 with _ h2
    exact ht h2
  have p2 := hfree C.bp (tyne C.bp.1 fl.1 (by decide)) (tyne C.bp.1 fk.1 (by decide))
  have s2' := hfree C.bs (tyne C.bs.1 fl.1 (by decide)) (tyne C.bs.1 fk.1 (by decide))
  have n2 := hfree C.bn (tyne C.bn.1 fl.1 (by decide)) (tyne C.bn.1 fk.1 (by decide))
  have S2 : SG w2 o2 p g lg S := ⟨(one C.sg.mem C.sg.tg).1, (one C.sg.mem C.sg.tg).2⟩
  have J2 : JR S d wc g jp w2 o2 := fun J hJ => by
    obtain ⟨q, e, hq, jg⟩ := jr J hJ
    exact ⟨q, e, hq, (one jg.mem jg.tg).1, (one jg.mem jg.tg).2⟩
  refine ⟨_, p2.1.cella (i := 0) rfl, _, rfl, _, S2.mem.cella (i := 0) rfl, fun w4 q4 X4 b4 hq4 hq4' => ?_⟩
  have s4 := Step.of_no X4 st2.ok
  have st4 := st2.trans s4
  obtain ⟨O, hO⟩ : ∃ O, openK d (2 + whichN (S.number + 1) * S.half) S.half (S.number + 1) = O := ⟨_, rfl⟩
  have hK := openK_kind d (2 + whichN (S.number + 1) * S.half) S.half (S.number + 1)
  have J4 := J2.still s4
  have hgl := C.lt
  have caps : Caps w4 (grow w2 o2) q4 qk ql qs qp qn p g n O.2.2 jp a b.length c := by
    have l2 := free_blk bl2 (o2n ql fl.2 hql2) s4
    have k2 := free_blk bk2 (o2n qk fk.2 hqk2) s4
    have p4 := free_blk p2.1 p2.2 s4
    have b4' := free_blk s2'.1 s2'.2 s4
    have n4 := free_blk n2.1 n2.2 s4
    rw [hO] at k2
    exact ⟨b4, k2.1, l2.1, b4'.1, p4.1, n4.1, grow_ge hq4, k2.2, l2.2, b4'.2, p4.2, n4.2⟩
  have lgs : w0.heap.size ≤ w4.heap.size := st4.size
  have toW : ∀ {w' : World} {o' : Own} {q : Nat}, w0.heap.size ≤ q → Step (KC p q g) w4 (grow w2 o2) w' o' → Step (fun i => i = p ∨ i = g) w0 o0 w' o' := fun {w' o' q} hq s =>
    (st4.mono (K1 := fun i => i = p ∨ i = g) fun _ h _ => h.elim).trans' s fun i hi => by
      rcases hi with h | h | h
      · exact .inl (.inl h)
      · exact .inr (by rw [h]; exact hq)
      · exact .inl (.inr h)
  obtain ⟨jo, jl, jk⟩ := O
  cases jo with
  | none =>
    have hk0 : jk ≠ 0 := fun e => by
      obtain ⟨J, hJ⟩ := hK.1 (by rw [hO]; exact e)
      rw [hO] at hJ; cases hJ
    have hCK : compactK d S b = (d, none, jk) := by unfold compactK; rw [hO]
    refine compact_loop (q := w4.heap.size) (J := ⟨0, 0, 0, 0, 0, 0, false⟩) caps (S2.step s4 id) (D2.step s4 id) s4.ok hd hm hn (hb.step st4) hc hbl (fun e => absurd e hk0) (by omega) hpg (by omega) rfl rfl rfl (fun w' o' d' e he s' S' D' hc' => ?_) (fun w' o' h0 => absurd h0 hk0)
    rcases hc' with ⟨_, rfl, rfl⟩ | ⟨h0, _⟩ | ⟨h0, _⟩ | ⟨h0, _⟩
    · refine hR _ w' (by rw [hCK]) ⟨o', toW lgs s', by rw [hCK]; exact D', fun _ => by rw [hCK]; exact S', fun J hJ => by rw [hCK] at hJ; cases hJ⟩
    · exact absurd h0 hk0
    · exact absurd h0 hk0
    · exact absurd h0 hk0
  | some J =>
    have hk0 : jk = 0 := by
      by_cases e : jk = 0
      · exact e
      · have := (hK.2 (by rw [hO]; exact e)).1
        rw [hO] at this; cases this
    subst hk0
    obtain ⟨q, rfl, hq, jg⟩ := J4 J (by rw [hO])
    have jok := openK_ok (n := S.number + 1) hd (by omega) (show (openK d (2 + whichN (S.number + 1) * S.half) S.half (S.number + 1)).1 = some J by rw [hO])
    have hCK : compactK d S b = if (appendJ d J.anew b).2 ≠ 0 then ((appendJ d J.anew b).1.1, none, (appendJ d J.anew b).2)
      else if (writeD (appendJ d J.anew b).1.1 (whichN (S.number + 1)) (headB (S.number + 1))).2 ≠ 0 then ((writeD (appendJ d J.anew b).1.1 (whichN (S.number + 1)) (headB (S.number + 1))).1, none, (writeD (appendJ d J.anew b).1.1 (whichN (S.number + 1)) (headB (S.number + 1))).2)
      else if (syncD (writeD (appendJ d J.anew b).1.1 (whichN (S.number + 1)) (headB (S.number + 1))).1).2 ≠ 0 then ((syncD (writeD (appendJ d J.anew b).1.1 (whichN (S.number + 1)) (headB (S.number + 1))).1).1, none, (syncD (writeD (appendJ d J.anew b).1.1 (whichN (S.number + 1)) (headB (S.number + 1))).1).2)
      else ((syncD (writeD (appendJ d J.anew b).1.1 (whichN (S.number + 1)) (headB (S.number + 1))).1).1, some (appendJ d J.anew b).1.2, 0) := by unfold compactK; rw [hO]
    refine compact_loop (q := q) (J := J.anew) caps (S2.step s4 id) (D2.step s4 id) s4.ok hd hm hn (hb.step st4) hc hbl (fun _ => ⟨rfl, jg, jok⟩) (by omega) hpg (by omega) rfl rfl rfl (fun w' o' d' e he s' S' D' hc' => ?_) (fun w' o' h0 a0 x0 y0 s' S' J' D' => ?_)
    · rcases hc' with ⟨h0, _⟩ | ⟨_, rfl, rfl⟩ | ⟨_, a0, rfl, rfl⟩ | ⟨_, a0, x0, rfl, rfl⟩
      · exact absurd rfl h0
      · rw [if_pos he] at hCK
        exact hR _ w' (by rw [hCK]) ⟨o', toW (by omega) s', by rw [hCK]; exact D', fun _ => by rw [hCK]; exact S', fun J hJ => by rw [hCK] at hJ; cases hJ⟩
      · subst hN
        rw [if_neg (not_not_intro a0), if_pos he] at hCK
        exact hR _ w' (by rw [hCK]) ⟨o', toW (by omega) s', by rw [hCK]; exact D', fun _ => by rw [hCK]; exact S', fun J hJ => by rw [hCK] at hJ; cases hJ⟩
      · subst hN
        rw [if_neg (not_not_intro a0), if_neg (not_not_intro x0), if_pos he] at hCK
        exact hR _ w' (by rw [hCK]) ⟨o', toW (by omega) s', by rw [hCK]; exact D', fun _ => by rw [hCK]; exact S', fun J hJ => by rw [hCK] at hJ; cases hJ⟩
    · subst hN
      rw [if_neg (not_not_intro a0), if_neg (not_not_intro x0), if_neg (not_not_intro y0)] at hCK
      exact hR _ w' (by rw [hCK]) ⟨o', toW (by omega) s', by rw [hCK]; exact D', fun h => (by rw [hCK] at h; cases h), fun J2 hJ2 => by
        rw [hCK] at hJ2
        cases hJ2
        exact ⟨q, by omega, S', J'⟩⟩
theorem sCompact_spec (h : SG w o p g lg S) (hD : DG w o g d) (ok : Tags w o) (hpg : p ≠ g) (hd : d.ok m) (hm : m + 300 < 100000) (hh : 0 ≤ S.half ∧ S.half ≤ 1000) (hnum : S.number < 4294967296) (hb : Row w o a (bytesV b)) (hc : b.length ≤ c) (hbl : b.length < 1000000) :
    Calls Try.prog 10 #[.pointer (some (blk p)), .slice a b.length c] w (Ret (.int .i64 (compactS d S b).2.2) fun w' => Left w o p g lg S (compactS d S b) w') := by
  refine snapshot_Store_Compact.run _ _ _ _ ?_
  unfold snapshot_Store_Compact.N
  intro w1 qp X1 bp hqp hqp' w2 qs X2 bs hqs hqs'
  have s1 := Step.of_no X1 ok
  have s2 := Step.of_no X2 s1.ok
  have s12 := s1.trans s2
  have bp2 := bp.ext X2 id
  have h2 := h.step s12 id
  have D2 := hD.step s12 id
  have early : ∀ (k : Int) (w3 : World), Ext no w2 w3 → S.seen k = S → compactS d S b = (d, none, k) → (Value.int .i64 k = .int .i64 (compactS d S b).2.2 ∧ Left w o p g lg S (compactS d S b) w3) := fun k w3 X3 hk hC => by
    rw [hC]
    have s3 := s12.trans (Step.of_no X3 s12.ok)
    exact ⟨rfl, _, s3.none, hD.step s3 id, fun _ => by show SG w3 _ p g lg (S.seen k); rw [hk]; exact h.step s3 id, fun J hJ => by cases hJ⟩
  have hpar : journal_Parts.F (b.length : Int) = (partsN b.length : Int) := by rw [parts_F, partsI_nat]
  refine ⟨_, bp2.cella (i := 0) rfl, fun e => (by cases e), fun _ => ⟨_, _, _, bs.cella (i := 0) rfl, ?_⟩⟩
  rw [hpar]
  refine ⟨fun hz w3 X3 => early 3 w3 X3 rfl (by unfold compactS; rw [if_pos (by omega)]), fun hz => ⟨_, bp2.cella (i := 0) rfl, _, rfl, S.dead, h2.mem.cella (i := 4) rfl, fun hdd w3 X3 => ?_, fun hdd => ⟨_, bp2.cella (i := 0) rfl, _, rfl, _, h2.mem.cella (i := 2) rfl, fun hl w3 X3 => ?_, fun hl => ⟨_, bp2.cella (i := 0) rfl, _, rfl, _, h2.mem.cella (i := 1) rfl, fun hf w3 X3 => ?_, fun hf => ⟨_, bp2.cella (i := 0) rfl, _, rfl, _, h2.mem.cella (i := 2) rfl, ?_⟩⟩⟩⟩⟩
  · refine early 19 w3 X3 ?_ (by unfold compactS; rw [if_neg (by omega), if_pos hdd])
    unfold SS.seen
    rw [if_pos rfl, ← hdd]
  · exact early 2 w3 X3 rfl (by unfold compactS; rw [if_neg (by omega), if_neg (by rw [hdd]; decide), if_pos (by omega)])
  · exact early 18 w3 X3 rfl (by unfold compactS; rw [if_neg (by omega), if_neg (by rw [hdd]; decide), if_neg (by omega), if_pos hf])
  have hC : compactS d S b = compactK d S b := by unfold compactS; rw [if_neg (by omega), if_neg (by rw [hdd]; decide), if_neg (by omega), if_neg (by omega)]
  intro w3 qn X3 bn hqn hqn'
  refine ⟨bn.cana (i := 0) rfl, thenW_in fun w4 e4 => ?_⟩
  rw [show IntKind.u32.wrap ((S.number : Int) + 1) = ((S.number + 1 : Nat) : Int) by rw [IntKind.wrap_u32]; omega] at e4
  have bn4 := bn.seta 0 (.int .u32 ((S.number + 1 : Nat) : Int))
  rw [← e4] at bn4
  have X4 : Ext no w2 w4 := X3.x_set (q := qn) (i := 0) rfl (.inr hqn) e4
  have s4 := s12.trans (Step.of_no X4 s12.ok)
  have l1 := X1.size
  have l2 := X2.size
  have X14 := X2.trans X4
  have t4 : Step no w o w4 (grow w o) := dNoStep (K := no) s4
  have hpl := h.mem.lt
  have hgl := hD.lt
  have c : CW w o qp qs qn p g lg S d a b c (S.number + 1) w4 (grow w o) := ⟨t4, ⟨bp.ext X14 id, grow_ge hqp⟩, ⟨bs.ext X4 id, grow_ge (by omega)⟩, ⟨bn4, grow_ge (by omega)⟩, h.step t4 id, hD.step t4 id, ⟨hpl, hgl⟩⟩
  have hR' : ∀ e w', e = (compactK d S b).2.2 → Left w o p g lg S (compactK d S b) w' → (fun v w' => v = Value.int .i64 (compactS d S b).2.2 ∧ Left w o p g lg S (compactS d S b) w') (.int .i64 e) w' := fun e w' he hl => by
    rw [hC]; exact ⟨by rw [he], hl⟩
  refine ⟨_, c.cp, _, rfl, _, c.cd, _, c.cp, _, c.cn, _, c.cp, _, rfl, _, c.ch, _, c.cn, ?_⟩
  refine ⟨?_, ?_, ?_⟩
  · intro w1 L X P
    obtain ⟨o1, c, M, hL, s⟩ := c.priv X P
    refine (base_spec c.sg hh (S.number + 1) (by omega)).mono fun u w1 ⟨he, X⟩ => ⟨_, he, ?_⟩
    obtain ⟨o1, c, s⟩ := c.still X
    refine ⟨M.keep s (fun _ _ h => h), c.cn, c.ch, c.cp, c.cd, c.cp, ?_⟩
    have M := M.step s
    refine ⟨?_, ?_, ?_⟩
    · intro w1 L X P
      obtain ⟨o1, c, M, hL, s⟩ := c.join M hL X P
      have hLt := fun k (hk : k ∈ _) => M.lt hk
      refine (Create_spec c.dg c.st.ok hd (by omega) _ _ (S.number + 1)).mono fun u w1 ⟨o1, jp, he, s, jr⟩ => ⟨_, _, he, M.keep s (fun _ _ h => h), ?_⟩
      have jr : JR S d _ g jp w1 o1 := jr
      have hwc := c.st.size
      have c := c.move s (fun _ h => h.elim)
      have M := M.step s
      refine ⟨?_, ?_⟩
      · intro w1 X
        obtain ⟨o1, c, s⟩ := c.joins M hL X
        have jr := jr.move s fun k hk => .inl (hLt k hk)
        intro w1 ql X hb1 hq1 hq1'
        have hql := Nat.le_trans c.st.size hq1
        obtain ⟨o1, c, fl, s⟩ := c.seen X hb1 hq1
        have jr := jr.still s
        intro w1 qk X hb1 hq1 hq1'
        have hfl := fl.1.lt
        have hqk := Nat.le_trans c.st.size hq1
        obtain ⟨o1, c, fk, s⟩ := c.seen X hb1 hq1
        have fl := free_blk fl.1 fl.2 s
        have jr := jr.still s
        have hne : ql ≠ qk := by omega
        exact compact_tail (R := fun v w' => v = Value.int .i64 (compactS d S b).2.2 ∧ Left w o p g lg S (compactS d S b) w') c fl fk hql hqk hne jr hwc hpg hd hm rfl (by omega) hc hbl hb hR'
      · intro w1 X
        obtain ⟨o1, c, s⟩ := c.joins M hL X
        have jr := jr.move s fun k hk => .inl (hLt k hk)
        intro w1 qk X hb1 hq1 hq1'
        have hqk := Nat.le_trans c.st.size hq1
        obtain ⟨o1, c, fk, s⟩ := c.seen X hb1 hq1
        have jr := jr.still s
        intro w1 ql X hb1 hq1 hq1'
        have hfk := fk.1.lt
        have hql := Nat.le_trans c.st.size hq1
        obtain ⟨o1, c, fl, s⟩ := c.seen X hb1 hq1
        have fk := free_blk fk.1 fk.2 s
        have jr := jr.still s
        have hne : ql ≠ qk := by omega
        exact compact_tail (R := fun v w' => v = Value.int .i64 (compactS d S b).2.2 ∧ Left w o p g lg S (compactS d S b) w') c fl fk hql hqk hne jr hwc hpg hd hm rfl (by omega) hc hbl hb hR'
    · intro w1 X
      obtain ⟨o1, c, s⟩ := c.joins M hL X
      intro w1 ql X hb1 hq1 hq1'
      have hql := Nat.le_trans c.st.size hq1
      obtain ⟨o1, c, fl, s⟩ := c.seen X hb1 hq1
      refine ⟨c.cn, c.ch, c.cp, c.cd, c.cp, ?_⟩
      refine ⟨?_, ?_⟩
      · intro w1 L X P
        obtain ⟨o1, c, M, hL, s⟩ := c.priv X P
        have fl := free_blk fl.1 fl.2 s
        have hLt := fun k (hk : k ∈ _) => M.lt hk
        refine (Create_spec c.dg c.st.ok hd (by omega) _ _ (S.number + 1)).mono fun u w1 ⟨o1, jp, he, s, jr⟩ => ⟨_, _, he, M.keep s (fun _ _ h => h), ?_⟩
        have jr : JR S d _ g jp w1 o1 := jr
        have hwc := c.st.size
        have c := c.move s (fun _ h => h.elim)
        have M := M.step s
        have fl := free_blk fl.1 fl.2 s
        intro w1 X
        obtain ⟨o1, c, s⟩ := c.joins M hL X
        have fl := free_blk fl.1 fl.2 s
        have jr := jr.move s fun k hk => .inl (hLt k hk)
        intro w1 qk X hb1 hq1 hq1'
        have hfl := fl.1.lt
        have hqk := Nat.le_trans c.st.size hq1
        obtain ⟨o1, c, fk, s⟩ := c.seen X hb1 hq1
        have fl := free_blk fl.1 fl.2 s
        have jr := jr.still s
        have hne : ql ≠ qk := by omega
        exact compact_tail (R := fun v w' => v = Value.int .i64 (compactS d S b).2.2 ∧ Left w o p g lg S (compactS d S b) w') c fl fk hql hqk hne jr hwc hpg hd hm rfl (by omega) hc hbl hb hR'
      · intro w1 qk X hb1 hq1 hq1'
        have hfl := fl.1.lt
        have hqk := Nat.le_trans c.st.size hq1
        obtain ⟨o1, c, fk, s⟩ := c.seen X hb1 hq1
        have fl := free_blk fl.1 fl.2 s
        have hne : ql ≠ qk := by omega
        refine ⟨c.cn, c.ch, c.cp, c.cd, c.cp, ?_⟩
        intro w1 L X P
        obtain ⟨o1, c, M, hL, s⟩ := c.priv X P
        have fl := free_blk fl.1 fl.2 s
        have fk := free_blk fk.1 fk.2 s
        have hLt := fun k (hk : k ∈ _) => M.lt hk
        refine (Create_spec c.dg c.st.ok hd (by omega) _ _ (S.number + 1)).mono fun u w1 ⟨o1, jp, he, s, jr⟩ => ⟨_, _, he, M.keep s (fun _ _ h => h), ?_⟩
        have jr : JR S d _ g jp w1 o1 := jr
        have hwc := c.st.size
        have c := c.move s (fun _ h => h.elim)
        have M := M.step s
        have fl := free_blk fl.1 fl.2 s
        have fk := free_blk fk.1 fk.2 s
        intro w1 X
        obtain ⟨o1, c, s⟩ := c.joins M hL X
        have fl := free_blk fl.1 fl.2 s
        have fk := free_blk fk.1 fk.2 s
        have jr := jr.move s fun k hk => .inl (hLt k hk)
        exact compact_tail (R := fun v w' => v = Value.int .i64 (compactS d S b).2.2 ∧ Left w o p g lg S (compactS d S b) w') c fl fk hql hqk hne jr hwc hpg hd hm rfl (by omega) hc hbl hb hR'
    · intro w1 X
      obtain ⟨o1, c, s⟩ := c.joins M hL X
      intro w1 qk X hb1 hq1 hq1'
      have hqk := Nat.le_trans c.st.size hq1
      obtain ⟨o1, c, fk, s⟩ := c.seen X hb1 hq1
      refine ⟨c.cn, c.ch, c.cp, c.cd, c.cp, ?_⟩
      refine ⟨?_, ?_⟩
      · intro w1 L X P
        obtain ⟨o1, c, M, hL, s⟩ := c.priv X P
        have fk := free_blk fk.1 fk.2 s
        have hLt := fun k (hk : k ∈ _) => M.lt hk
        refine (Create_spec c.dg c.st.ok hd (by omega) _ _ (S.number + 1)).mono fun u w1 ⟨o1, jp, he, s, jr⟩ => ⟨_, _, he, M.keep s (fun _ _ h => h), ?_⟩
        have jr : JR S d _ g jp w1 o1 := jr
        have hwc := c.st.size
        have c := c.move s (fun _ h => h.elim)
        have M := M.step s
        have fk := free_blk fk.1 fk.2 s
        intro w1 X
        obtain ⟨o1, c, s⟩ := c.joins M hL X
        have fk := free_blk fk.1 fk.2 s
        have jr := jr.move s fun k hk => .inl (hLt k hk)
        intro w1 ql X hb1 hq1 hq1'
        have hfk := fk.1.lt
        have hql := Nat.le_trans c.st.size hq1
        obtain ⟨o1, c, fl, s⟩ := c.seen X hb1 hq1
        have fk := free_blk fk.1 fk.2 s
        have jr := jr.still s
        have hne : ql ≠ qk := by omega
        exact compact_tail (R := fun v w' => v = Value.int .i64 (compactS d S b).2.2 ∧ Left w o p g lg S (compactS d S b) w') c fl fk hql hqk hne jr hwc hpg hd hm rfl (by omega) hc hbl hb hR'
      · intro w1 ql X hb1 hq1 hq1'
        have hfk := fk.1.lt
        have hql := Nat.le_trans c.st.size hq1
        obtain ⟨o1, c, fl, s⟩ := c.seen X hb1 hq1
        have fk := free_blk fk.1 fk.2 s
        have hne : ql ≠ qk := by omega
        refine ⟨c.cn, c.ch, c.cp, c.cd, c.cp, ?_⟩
        intro w1 L X P
        obtain ⟨o1, c, M, hL, s⟩ := c.priv X P
        have fl := free_blk fl.1 fl.2 s
        have fk := free_blk fk.1 fk.2 s
        have hLt := fun k (hk : k ∈ _) => M.lt hk
        refine (Create_spec c.dg c.st.ok hd (by omega) _ _ (S.number + 1)).mono fun u w1 ⟨o1, jp, he, s, jr⟩ => ⟨_, _, he, M.keep s (fun _ _ h => h), ?_⟩
        have jr : JR S d _ g jp w1 o1 := jr
        have hwc := c.st.size
        have c := c.move s (fun _ h => h.elim)
        have M := M.step s
        have fl := free_blk fl.1 fl.2 s
        have fk := free_blk fk.1 fk.2 s
        intro w1 X
        obtain ⟨o1, c, s⟩ := c.joins M hL X
        have fl := free_blk fl.1 fl.2 s
        have fk := free_blk fk.1 fk.2 s
        have jr := jr.move s fun k hk => .inl (hLt k hk)
        exact compact_tail (R := fun v w' => v = Value.int .i64 (compactS d S b).2.2 ∧ Left w o p g lg S (compactS d S b) w') c fl fk hql hqk hne jr hwc hpg hd hm rfl (by omega) hc hbl hb hR'
  · intro w1 ql X hb1 hq1 hq1'
    have hql := Nat.le_trans c.st.size hq1
    obtain ⟨o1, c, fl, s⟩ := c.seen X hb1 hq1
    refine ⟨c.cn, c.ch, c.cp, c.cn, c.cp, c.cd, c.cp, ?_⟩
    refine ⟨?_, ?_⟩
    · intro w1 L X P
      obtain ⟨o1, c, M, hL, s⟩ := c.priv X P
      have fl := free_blk fl.1 fl.2 s
      refine (base_spec c.sg hh (S.number + 1) (by omega)).mono fun u w1 ⟨he, X⟩ => ⟨_, he, ?_⟩
      obtain ⟨o1, c, s⟩ := c.still X
      refine ⟨M.keep s (fun _ _ h => h), c.cn, c.ch, c.cp, c.cd, c.cp, ?_⟩
      have M := M.step s
      have fl := free_blk fl.1 fl.2 s
      refine ⟨?_, ?_⟩
      · intro w1 L X P
        obtain ⟨o1, c, M, hL, s⟩ := c.join M hL X P
        have fl := free_blk fl.1 fl.2 s
        have hLt := fun k (hk : k ∈ _) => M.lt hk
        refine (Create_spec c.dg c.st.ok hd (by omega) _ _ (S.number + 1)).mono fun u w1 ⟨o1, jp, he, s, jr⟩ => ⟨_, _, he, M.keep s (fun _ _ h => h), ?_⟩
        have jr : JR S d _ g jp w1 o1 := jr
        have hwc := c.st.size
        have c := c.move s (fun _ h => h.elim)
        have M := M.step s
        have fl := free_blk fl.1 fl.2 s
        intro w1 X
        obtain ⟨o1, c, s⟩ := c.joins M hL X
        have fl := free_blk fl.1 fl.2 s
        have jr := jr.move s fun k hk => .inl (hLt k hk)
        intro w1 qk X hb1 hq1 hq1'
        have hfl := fl.1.lt
        have hqk := Nat.le_trans c.st.size hq1
        obtain ⟨o1, c, fk, s⟩ := c.seen X hb1 hq1
        have fl := free_blk fl.1 fl.2 s
        have jr := jr.still s
        have hne : ql ≠ qk := by omega
        exact compact_tail (R := fun v w' => v = Value.int .i64 (compactS d S b).2.2 ∧ Left w o p g lg S (compactS d S b) w') c fl fk hql hqk hne jr hwc hpg hd hm rfl (by omega) hc hbl hb hR'
      · intro w1 X
        obtain ⟨o1, c, s⟩ := c.joins M hL X
        have fl := free_blk fl.1 fl.2 s
        intro w1 qk X hb1 hq1 hq1'
        have hfl := fl.1.lt
        have hqk := Nat.le_trans c.st.size hq1
        obtain ⟨o1, c, fk, s⟩ := c.seen X hb1 hq1
        have fl := free_blk fl.1 fl.2 s
        have hne : ql ≠ qk := by omega
        refine ⟨c.cn, c.ch, c.cp, c.cd, c.cp, ?_⟩
        intro w1 L X P
        obtain ⟨o1, c, M, hL, s⟩ := c.priv X P
        have fl := free_blk fl.1 fl.2 s
        have fk := free_blk fk.1 fk.2 s
        have hLt := fun k (hk : k ∈ _) => M.lt hk
        refine (Create_spec c.dg c.st.ok hd (by omega) _ _ (S.number + 1)).mono fun u w1 ⟨o1, jp, he, s, jr⟩ => ⟨_, _, he, M.keep s (fun _ _ h => h), ?_⟩
        have jr : JR S d _ g jp w1 o1 := jr
        have hwc := c.st.size
        have c := c.move s (fun _ h => h.elim)
        have M := M.step s
        have fl := free_blk fl.1 fl.2 s
        have fk := free_blk fk.1 fk.2 s
        intro w1 X
        obtain ⟨o1, c, s⟩ := c.joins M hL X
        have fl := free_blk fl.1 fl.2 s
        have fk := free_blk fk.1 fk.2 s
        have jr := jr.move s fun k hk => .inl (hLt k hk)
        exact compact_tail (R := fun v w' => v = Value.int .i64 (compactS d S b).2.2 ∧ Left w o p g lg S (compactS d S b) w') c fl fk hql hqk hne jr hwc hpg hd hm rfl (by omega) hc hbl hb hR'
    · intro w1 qk X hb1 hq1 hq1'
      have hfl := fl.1.lt
      have hqk := Nat.le_trans c.st.size hq1
      obtain ⟨o1, c, fk, s⟩ := c.seen X hb1 hq1
      have fl := free_blk fl.1 fl.2 s
      have hne : ql ≠ qk := by omega
      refine ⟨c.cn, c.ch, c.cp, c.cn, c.cp, c.cd, c.cp, ?_⟩
      intro w1 L X P
      obtain ⟨o1, c, M, hL, s⟩ := c.priv X P
      have fl := free_blk fl.1 fl.2 s
      have fk := free_blk fk.1 fk.2 s
      refine (base_spec c.sg hh (S.number + 1) (by omega)).mono fun u w1 ⟨he, X⟩ => ⟨_, he, ?_⟩
      obtain ⟨o1, c, s⟩ := c.still X
      refine ⟨M.keep s (fun _ _ h => h), c.cn, c.ch, c.cp, c.cd, c.cp, ?_⟩
      have M := M.step s
      have fl := free_blk fl.1 fl.2 s
      have fk := free_blk fk.1 fk.2 s
      intro w1 L X P
      obtain ⟨o1, c, M, hL, s⟩ := c.join M hL X P
      have fl := free_blk fl.1 fl.2 s
      have fk := free_blk fk.1 fk.2 s
      have hLt := fun k (hk : k ∈ _) => M.lt hk
      refine (Create_spec c.dg c.st.ok hd (by omega) _ _ (S.number + 1)).mono fun u w1 ⟨o1, jp, he, s, jr⟩ => ⟨_, _, he, M.keep s (fun _ _ h => h), ?_⟩
      have jr : JR S d _ g jp w1 o1 := jr
      have hwc := c.st.size
      have c := c.move s (fun _ h => h.elim)
      have M := M.step s
      have fl := free_blk fl.1 fl.2 s
      have fk := free_blk fk.1 fk.2 s
      intro w1 X
      obtain ⟨o1, c, s⟩ := c.joins M hL X
      have fl := free_blk fl.1 fl.2 s
      have fk := free_blk fk.1 fk.2 s
      have jr := jr.move s fun k hk => .inl (hLt k hk)
      exact compact_tail (R := fun v w' => v = Value.int .i64 (compactS d S b).2.2 ∧ Left w o p g lg S (compactS d S b) w') c fl fk hql hqk hne jr hwc hpg hd hm rfl (by omega) hc hbl hb hR'
  · intro w1 qk X hb1 hq1 hq1'
    have hqk := Nat.le_trans c.st.size hq1
    obtain ⟨o1, c, fk, s⟩ := c.seen X hb1 hq1
    refine ⟨c.cn, c.ch, c.cp, c.cn, c.cp, c.cd, c.cp, ?_⟩
    refine ⟨?_, ?_⟩
    · intro w1 L X P
      obtain ⟨o1, c, M, hL, s⟩ := c.priv X P
      have fk := free_blk fk.1 fk.2 s
      refine (base_spec c.sg hh (S.number + 1) (by omega)).mono fun u w1 ⟨he, X⟩ => ⟨_, he, ?_⟩
      obtain ⟨o1, c, s⟩ := c.still X
      refine ⟨M.keep s (fun _ _ h => h), c.cn, c.ch, c.cp, c.cd, c.cp, ?_⟩
      have M := M.step s
      have fk := free_blk fk.1 fk.2 s
      refine ⟨?_, ?_⟩
      · intro w1 L X P
        obtain ⟨o1, c, M, hL, s⟩ := c.join M hL X P
        have fk := free_blk fk.1 fk.2 s
        have hLt := fun k (hk : k ∈ _) => M.lt hk
        refine (Create_spec c.dg c.st.ok hd (by omega) _ _ (S.number + 1)).mono fun u w1 ⟨o1, jp, he, s, jr⟩ => ⟨_, _, he, M.keep s (fun _ _ h => h), ?_⟩
        have jr : JR S d _ g jp w1 o1 := jr
        have hwc := c.st.size
        have c := c.move s (fun _ h => h.elim)
        have M := M.step s
        have fk := free_blk fk.1 fk.2 s
        intro w1 X
        obtain ⟨o1, c, s⟩ := c.joins M hL X
        have fk := free_blk fk.1 fk.2 s
        have jr := jr.move s fun k hk => .inl (hLt k hk)
        intro w1 ql X hb1 hq1 hq1'
        have hfk := fk.1.lt
        have hql := Nat.le_trans c.st.size hq1
        obtain ⟨o1, c, fl, s⟩ := c.seen X hb1 hq1
        have fk := free_blk fk.1 fk.2 s
        have jr := jr.still s
        have hne : ql ≠ qk := by omega
        exact compact_tail (R := fun v w' => v = Value.int .i64 (compactS d S b).2.2 ∧ Left w o p g lg S (compactS d S b) w') c fl fk hql hqk hne jr hwc hpg hd hm rfl (by omega) hc hbl hb hR'
      · intro w1 X
        obtain ⟨o1, c, s⟩ := c.joins M hL X
        have fk := free_blk fk.1 fk.2 s
        intro w1 ql X hb1 hq1 hq1'
        have hfk := fk.1.lt
        have hql := Nat.le_trans c.st.size hq1
        obtain ⟨o1, c, fl, s⟩ := c.seen X hb1 hq1
        have fk := free_blk fk.1 fk.2 s
        have hne : ql ≠ qk := by omega
        refine ⟨c.cn, c.ch, c.cp, c.cd, c.cp, ?_⟩
        intro w1 L X P
        obtain ⟨o1, c, M, hL, s⟩ := c.priv X P
        have fl := free_blk fl.1 fl.2 s
        have fk := free_blk fk.1 fk.2 s
        have hLt := fun k (hk : k ∈ _) => M.lt hk
        refine (Create_spec c.dg c.st.ok hd (by omega) _ _ (S.number + 1)).mono fun u w1 ⟨o1, jp, he, s, jr⟩ => ⟨_, _, he, M.keep s (fun _ _ h => h), ?_⟩
        have jr : JR S d _ g jp w1 o1 := jr
        have hwc := c.st.size
        have c := c.move s (fun _ h => h.elim)
        have M := M.step s
        have fl := free_blk fl.1 fl.2 s
        have fk := free_blk fk.1 fk.2 s
        intro w1 X
        obtain ⟨o1, c, s⟩ := c.joins M hL X
        have fl := free_blk fl.1 fl.2 s
        have fk := free_blk fk.1 fk.2 s
        have jr := jr.move s fun k hk => .inl (hLt k hk)
        exact compact_tail (R := fun v w' => v = Value.int .i64 (compactS d S b).2.2 ∧ Left w o p g lg S (compactS d S b) w') c fl fk hql hqk hne jr hwc hpg hd hm rfl (by omega) hc hbl hb hR'
    · intro w1 ql X hb1 hq1 hq1'
      have hfk := fk.1.lt
      have hql := Nat.le_trans c.st.size hq1
      obtain ⟨o1, c, fl, s⟩ := c.seen X hb1 hq1
      have fk := free_blk fk.1 fk.2 s
      have hne : ql ≠ qk := by omega
      refine ⟨c.cn, c.ch, c.cp, c.cn, c.cp, c.cd, c.cp, ?_⟩
      intro w1 L X P
      obtain ⟨o1, c, M, hL, s⟩ := c.priv X P
      have fl := free_blk fl.1 fl.2 s
      have fk := free_blk fk.1 fk.2 s
      refine (base_spec c.sg hh (S.number + 1) (by omega)).mono fun u w1 ⟨he, X⟩ => ⟨_, he, ?_⟩
      obtain ⟨o1, c, s⟩ := c.still X
      refine ⟨M.keep s (fun _ _ h => h), c.cn, c.ch, c.cp, c.cd, c.cp, ?_⟩
      have M := M.step s
      have fl := free_blk fl.1 fl.2 s
      have fk := free_blk fk.1 fk.2 s
      intro w1 L X P
      obtain ⟨o1, c, M, hL, s⟩ := c.join M hL X P
      have fl := free_blk fl.1 fl.2 s
      have fk := free_blk fk.1 fk.2 s
      have hLt := fun k (hk : k ∈ _) => M.lt hk
      refine (Create_spec c.dg c.st.ok hd (by omega) _ _ (S.number + 1)).mono fun u w1 ⟨o1, jp, he, s, jr⟩ => ⟨_, _, he, M.keep s (fun _ _ h => h), ?_⟩
      have jr : JR S d _ g jp w1 o1 := jr
      have hwc := c.st.size
      have c := c.move s (fun _ h => h.elim)
      have M := M.step s
      have fl := free_blk fl.1 fl.2 s
      have fk := free_blk fk.1 fk.2 s
      intro w1 X
      obtain ⟨o1, c, s⟩ := c.joins M hL X
      have fl := free_blk fl.1 fl.2 s
      have fk := free_blk fk.1 fk.2 s
      have jr := jr.move s fun k hk => .inl (hLt k hk)
      exact compact_tail (R := fun v w' => v = Value.int .i64 (compactS d S b).2.2 ∧ Left w o p g lg S (compactS d S b) w') c fl fk hql hqk hne jr hwc hpg hd hm rfl (by omega) hc hbl hb hR'
end
end Go.Proofs.Ytidijnfkcpbkiaa

/- Snapshot: Open of a store. -/
set_option linter.unusedVariables false
set_option linter.unusedSimpArgs false
set_option maxRecDepth 20000
set_option maxHeartbeats 4000000
namespace Go.Proofs.Ytidijnfkcpbkiaa
open Go Go.Mx Go.Proofs
open W (OwnB GivesW)
theorem compactS_kind (d : DS) (S : SS) (b : List UInt8) : ((compactS d S b).2.2 = 0 → ∃ J, (compactS d S b).2.1 = some J) ∧ ((compactS d S b).2.2 ≠ 0 → (compactS d S b).2.1 = none) := by
  have hK := openK_kind d (2 + whichN (S.number + 1) * S.half) S.half (S.number + 1)
  unfold compactS
  split
  · exact ⟨fun h => (by cases h), fun _ => rfl⟩
  · split
    · exact ⟨fun h => (by cases h), fun _ => rfl⟩
    · split
      · exact ⟨fun h => (by cases h), fun _ => rfl⟩
      · split
        · exact ⟨fun h => (by cases h), fun _ => rfl⟩
        · unfold compactK
          obtain ⟨O, hO⟩ : ∃ O, openK d (2 + whichN (S.number + 1) * S.half) S.half (S.number + 1) = O := ⟨_, rfl⟩
          rw [hO] at hK ⊢
          obtain ⟨jo, jl, jk⟩ := O
          cases jo with
          | none => exact ⟨fun h => (by obtain ⟨J, hJ⟩ := hK.1 h; cases hJ), fun _ => rfl⟩
          | some J =>
            dsimp only
            split
            · rename_i h; exact ⟨fun h2 => absurd h2 h, fun _ => rfl⟩
            · split
              · rename_i h; exact ⟨fun h2 => absurd h2 h, fun _ => rfl⟩
              · split
                · rename_i h; exact ⟨fun h2 => absurd h2 h, fun _ => rfl⟩
                · exact ⟨fun _ => ⟨_, rfl⟩, fun h => absurd rfl h⟩
section
variable {w w' w1 : World} {o o' o1 : Own} {q g p N m : Nat} {K : Nat → Prop} {b : List UInt8} {a : Option Addr} {c : Nat} {d : DS} {J : JS} {S : SS} {l : List BS}
theorem BsRow.cut1 (h : BsRow w o a c l) : BsRow w o (cutA a c 1 1) (c - 1) (l.drop 1) := by
  refine ⟨⟨?_, fun h0 ad ha => ?_⟩, fun x hx => h.oks x (List.mem_of_mem_drop hx), by rw [List.length_drop]; have := h.le; omega⟩
  · rw [List.map_drop]; exact h.row.1.cut 1 c (by rw [List.length_map]; exact h.le)
  · obtain ⟨b, hb, e⟩ := cutA_block ha
    rw [← e]
    refine h.row.2 (fun e2 => h0 ?_) b hb
    rw [List.map_drop, e2]; rfl
/-- what Open hands back. -/
structure OG (w : World) (o : Own) (g : Nat) (O : OS) (sp : Option Addr) (sa : Option Addr) (sn sc : Nat) (la : Option Addr) (lc : Nat) (l : List BS) (w' : World) (o' : Own) : Prop where
  st : Step (fun i => i = g) w o w' o'
  dg : DG w' o' g O.d
  sn_ : sn = (O.l.headD []).length
  sr : Row w' o' sa (bytesV (O.l.headD []))
  sc_ : sn ≤ sc
  ll : l.map BS.bs = O.l.tail
  lr : BsRow w' o' la lc l
  s0 : O.s = none → sp = none
  s1 : ∀ S J, O.s = some (S, J) → ∃ p q, sp = some (blk p) ∧ w.heap.size ≤ p ∧ w.heap.size ≤ q ∧ p ≠ q ∧ SG w' o' p g (some (blk q)) S ∧ JG w' o' q g J
theorem OG.bad (s : Step (fun i => i = g) w o w' o') (D : DG w' o' g d) (k : Int) : OG w o g ⟨d, none, [], k⟩ none none 0 0 none 0 [] w' o' :=
  ⟨s, D, rfl, Row.nil _ _ _, Nat.le_refl _, rfl, BsRow.nil _ _, fun _ => rfl, fun S J h => by cases h⟩
theorem sOpen_spec (h : DG w o g d) (ok : Tags w o) (hd : d.ok m) (hm : m + 300 < 100000) :
    Calls Try.prog 8 #[.pointer (some (blk g))] w (fun z w' => ∃ o' sp sa sn sc la lc, ∃ l : List BS, z = .returned (.tuple #[.pointer sp, .slice sa sn sc, .slice la l.length lc, .int .i64 (openS d).k]) ∧ OG w o g (openS d) sp sa sn sc la lc l w' o') := by
  refine (snapshot_Open.go _ (R := fun z w' => ∃ o' sp sa sn sc la lc, ∃ l : List BS, z = (.tuple #[.pointer sp, .slice sa sn sc, .slice la l.length lc, .int .i64 (openS d).k]) ∧ OG w o g (openS d) sp sa sn sc la lc l w' o') ?_).mono fun z w' ⟨u, he, o', sp, sa, sn, sc, la, lc, l, hu, hw⟩ => ⟨o', sp, sa, sn, sc, la, lc, l, by rw [he, hu], hw⟩
  unfold snapshot_Open.N
  have bad : ∀ {w' : World} {o' : Own} {d2 : DS} {k : Int}, openS d = ⟨d2, none, [], k⟩ → Step (fun i => i = g) w o w' o' → DG w' o' g d2 → ∃ o' sp sa sn sc la lc, ∃ l : List BS, Value.tuple #[.pointer none, .slice none 0 0, .slice none 0 0, .int .i64 k] = (.tuple #[.pointer sp, .slice sa sn sc, .slice la l.length lc, .int .i64 (openS d).k]) ∧ OG w o g (openS d) sp sa sn sc la lc l w' o' := fun {w' o' d2 k} hO s D => by
    rw [hO]
    exact ⟨o', none, none, 0, 0, none, 0, [], rfl, OG.bad s D k⟩
  have hdg := hd.n2
  have hdg1 := hd.n1
  refine ⟨fun e => (by cases e), fun _ => (Sectors_spec h).mono fun u w4 ⟨he, hw⟩ => ⟨_, he, fun hs => ?_, fun hs => ?_⟩⟩
  · subst hw
    exact bad (by unfold openS; rw [if_pos hs]) (Step.refl _ ok) h
  subst hw
  refine (Down_spec h).mono fun u w8 ⟨he, hw⟩ => ⟨_, he, fun hdn => ?_, fun hdn => ?_⟩
  · subst hw
    exact bad (by unfold openS; rw [if_neg (by omega), if_pos hdn]) (Step.refl _ ok) h
  subst hw
  refine (Sectors_spec h).mono fun u w12 ⟨he, hw⟩ => ⟨_, he, by omega, by omega, ?_⟩
  subst hw
  intro w14 q X14 hb hq hq'
  rw [show IntKind.i64.wrap (Int.tdiv ((d.good.length : Int) - 2) 2) = halfD d by rw [w64 (by rw [Int.tdiv_eq_ediv_of_nonneg (by omega)]; omega) (by rw [Int.tdiv_eq_ediv_of_nonneg (by omega)]; omega)]; rfl] at hb
  have s14 := (Step.of_no X14 ok).tag hq hq'
  have hgl := h.lt
  have D14 := h.step s14 id
  have hpl : d.pend.length < 1000000 := by have := hd.pl; omega
  refine (snumber_spec D14 s14.ok 0 hpl).mono fun u w18 ⟨he, X18⟩ => ⟨_, he, ?_⟩
  have s18 := s14.trans (Step.of_no X18 s14.ok)
  have D18 := h.step s18 id
  refine (snumber_spec D18 s18.ok 1 hpl).mono fun u w21 ⟨he, X21⟩ => ⟨_, he, ?_⟩
  have s21 := s18.trans (Step.of_no X21 s18.ok)
  have hb21 := (hb.ext X18 id).ext X21 id
  have tg21 : (grow w18 (grow w14 (tag (grow w12 o) q q))) q = some q := by
    rw [grow_lt (by have := X18.size; omega), grow_lt hq']; exact tag_self
  have a20 : ((blk q).add 2).add 0 = (blk q).add 2 := by rw [add_add]
  rw [a20]
  refine ⟨hb21.cana (i := 2) rfl, thenW_in fun w22 e22 => ?_⟩
  rw [max_int, show max (numH (readD d 0).1 0) (numH (readD d 1).1 1) = bigN d from rfl] at e22
  have hb22 := hb21.seti 2 rfl e22
  have X22 : Ext (fun b => b = q) w21 w22 := (Ext.refl (fun b => b = q) w21).x_set (q := q) (i := 2) rfl (.inl rfl) e22
  obtain ⟨o22, t22⟩ := Step.store1 X22 s21.ok tg21
  have tg22 : o22 q = some q := by rw [t22.own hb21.lt]; exact tg21
  have s22 : Step no w12 o w22 o22 := s21.trans' t22 fun i hi => .inr (by rw [hi]; exact hq)
  have S22 : SG w22 o22 q g none ⟨halfD d, bigN d, false⟩ := ⟨hb22, tg22⟩
  have D22 := h.step s22 id
  have hqg : q ≠ g := by omega
  have hlt : bigN d < 4294967296 := by
    have hn : ∀ (b : List UInt8) (i : Int), numH b i < 4294967296 := fun b i => by
      have := numB_lt b 1
      unfold numH
      split
      · decide
      · split
        · decide
        · split
          · exact this
          · decide
    have := hn (readD d 0).1 0
    have := hn (readD d 1).1 1
    unfold bigN; omega
  have hh : 0 ≤ halfD d ∧ halfD d ≤ 1000 := by unfold halfD; rw [Int.tdiv_eq_ediv_of_nonneg (by omega)]; omega
  refine ⟨_, hb22.cella (i := 2) rfl, fun h0 => ?_, fun h0 => ?_⟩
  · have hz : bigN d = 0 := by omega
    have hk := compactS_kind d ⟨halfD d, 0, false⟩ []
    rw [hz] at S22
    have hO : openS d = match compactS d ⟨halfD d, 0, false⟩ [] with
      | (d2, some J, _) => ⟨d2, some (⟨halfD d, 1, false⟩, J), [], 0⟩
      | (d2, none, k) => ⟨d2, none, [], k⟩ := by unfold openS; rw [if_neg (by omega), if_neg (by rw [hdn]; decide), if_pos hz]; try rfl
    refine (sCompact_spec (b := []) S22 D22 s22.ok hqg hd hm hh (by show 0 < _; decide) (Row.nil _ _ _) (Nat.le_refl _) (by decide)).mono fun u w28 ⟨he, o28, s28, D28, hN, hS⟩ => ⟨_, he, fun hne => ?_, fun hze => ?_⟩
    · have hn := hk.2 hne
      refine bad (k := (compactS d ⟨halfD d, 0, false⟩ []).2.2) (d2 := (compactS d ⟨halfD d, 0, false⟩ []).1) ?_ ((s22.none).trans' s28 fun i hi => hi.elim (fun h => .inr (by omega)) fun h => .inl h) D28
      rw [hO]
      obtain ⟨C, hC⟩ : ∃ C, compactS d ⟨halfD d, 0, false⟩ [] = C := ⟨_, rfl⟩
      rw [hC] at hn ⊢
      obtain ⟨c1, c2, c3⟩ := C
      subst hn; rfl
    · obtain ⟨J, hJ⟩ := hk.1 hze
      obtain ⟨q2, hq2, SG2, JG2⟩ := hS J hJ
      have hO2 : openS d = ⟨(compactS d ⟨halfD d, 0, false⟩ []).1, some (⟨halfD d, 1, false⟩, J), [], 0⟩ := by
        rw [hO]
        obtain ⟨C, hC⟩ : ∃ C, compactS d ⟨halfD d, 0, false⟩ [] = C := ⟨_, rfl⟩
        rw [hC] at hJ ⊢
        obtain ⟨c1, c2, c3⟩ := C
        subst hJ; rfl
      rw [hO2]
      have l22 := s22.size
      have lq := hb22.lt
      refine ⟨o28, some (blk q), none, 0, 0, none, 0, [], rfl, ⟨(s22.none).trans' s28 fun i hi => hi.elim (fun h => .inr (by omega)) fun h => .inl h, D28, rfl, Row.nil _ _ _, Nat.le_refl _, rfl, BsRow.nil _ _, fun h => (by cases h), fun S J2 hS2 => ?_⟩⟩
      cases hS2
      exact ⟨q, q2, rfl, hq, by omega, by omega, SG2, JG2⟩
  · have hz : ¬ bigN d = 0 := by omega
    refine ⟨_, hb22.cella (i := 2) rfl, _, hb22.cella (i := 1) rfl, _, hb22.cella (i := 2) rfl, fun w30 X30 => ?_⟩
    have s30 := s22.trans (Step.of_no X30 s22.ok)
    refine (base_spec (S22.step (Step.of_no X30 s22.ok) id) hh (bigN d) hlt).mono fun u w39 ⟨he, X39⟩ => ⟨_, he, ?_⟩
    have s39 := s30.trans (Step.of_no X39 s30.ok)
    have hb39 := (hb22.ext X30 id).ext X39 id
    refine ⟨hb39.cella (i := 2) rfl, hb39.cella (i := 1) rfl, ?_⟩
    have D39 := h.step s39 id
    refine (Open_spec D39 s39.ok hd (by omega) (2 + whichN (bigN d) * halfD d) (halfD d) (bigN d)).mono fun u w46 ⟨o46, jp, la, lc, l, he, s46, hlm, hlr, hn, hj⟩ => ⟨_, _, _, _, _, he, fun hne => ?_, fun hze => ?_⟩
    · have hK := (openK_kind d (2 + whichN (bigN d) * halfD d) (halfD d) (bigN d)).2 hne
      have s := s39.trans s46
      refine bad (k := (openK d (2 + whichN (bigN d) * halfD d) (halfD d) (bigN d)).2.2) (d2 := d) ?_ s.none (h.step s id)
      unfold openS
      rw [if_neg (by omega), if_neg (by rw [hdn]; decide), if_neg hz]
      obtain ⟨C, hC⟩ : ∃ C, openK d (2 + whichN (bigN d) * halfD d) (halfD d) (bigN d) = C := ⟨_, rfl⟩
      rw [hC] at hK ⊢
      obtain ⟨c1, c2, c3⟩ := C
      obtain ⟨rfl, rfl⟩ := hK
      rfl
    · obtain ⟨J, hJ⟩ := (openK_kind d (2 + whichN (bigN d) * halfD d) (halfD d) (bigN d)).1 hze
      obtain ⟨q2, rfl, hq2, jg⟩ := hj J hJ
      have hOp : openS d = if (openK d (2 + whichN (bigN d) * halfD d) (halfD d) (bigN d)).2.1 = [] then ⟨d, none, [], 4⟩ else ⟨d, some (⟨halfD d, bigN d, false⟩, J), (openK d (2 + whichN (bigN d) * halfD d) (halfD d) (bigN d)).2.1, 0⟩ := by
        unfold openS
        rw [if_neg (by omega), if_neg (by rw [hdn]; decide), if_neg hz]
        obtain ⟨C, hC⟩ : ∃ C, openK d (2 + whichN (bigN d) * halfD d) (halfD d) (bigN d) = C := ⟨_, rfl⟩
        rw [hC] at hJ ⊢
        obtain ⟨c1, c2, c3⟩ := C
        subst hJ
        rfl
      have s46' := s39.trans s46
      refine ⟨fun hl0 => ?_, fun hl0 => ?_⟩
      · have hll : l = [] := List.length_eq_zero_iff.1 (by omega)
        rw [hll] at hlm
        refine bad (k := 4) (d2 := d) (by rw [hOp, if_pos (show (openK d (2 + whichN (bigN d) * halfD d) (halfD d) (bigN d)).2.1 = [] from hlm.symm)]) s46'.none (h.step s46' id)
      · have hne : ¬ (openK d (2 + whichN (bigN d) * halfD d) (halfD d) (bigN d)).2.1 = [] := fun e => by
          rw [e] at hlm
          have := congrArg List.length hlm
          simp at this; rw [this] at hl0; exact hl0 rfl
        rw [if_neg hne] at hOp
        have hb46 := hb39
        have lq := hb39.lt
        have S46 : SG w46 o46 q g none ⟨halfD d, bigN d, false⟩ := by
          have t := ((Step.of_no X30 s22.ok).trans (Step.of_no X39 s30.ok)).trans s46
          exact S22.step t id
        have a30 : ((blk q).add 3).add 0 = (blk q).add 3 := by rw [add_add]
        rw [a30]
        refine ⟨S46.mem.cana (i := 3) rfl, thenW_in fun w49 e49 => ?_⟩
        have hb49 := S46.mem.seti 3 rfl e49
        have X49 : Ext (fun b => b = q) w46 w49 := (Ext.refl (fun b => b = q) w46).x_set (q := q) (i := 3) rfl (.inl rfl) e49
        obtain ⟨o49, t49⟩ := Step.store1 X49 s46.ok S46.tg
        have hl49 := hlr.step t49
        obtain ⟨x, xs, rfl⟩ : ∃ x xs, l = x :: xs := by
          cases l with
          | nil => exact absurd rfl hl0
          | cons x xs => exact ⟨x, xs, rfl⟩
        obtain ⟨ad, rfl, cx⟩ := hl49.at.cell (i := 0) (x := x) rfl
        refine ⟨ad, rfl, by omega, x.a, x.bs.length, x.c, cx, by omega, fun w50 X50 => ?_⟩
        have u50 := Step.of_no X50 t49.ok
        have t50 := t49.trans u50.none
        have hl50 := hlr.step t50
        have s50 : Step no w12 o w50 (grow w49 o49) := s46'.trans' t50 fun i hi => .inr (by rw [hi]; exact hq)
        have hq2l := jg.mem.lt
        have hqq : q ≠ q2 := by omega
        have hlx := hl50.oks x (by simp)
        rw [hOp]
        have hd1 : (openK d (2 + whichN (bigN d) * halfD d) (halfD d) (bigN d)).2.1 = x.bs :: xs.map BS.bs := hlm.symm
        rw [hd1]
        have hlc : (x :: xs).length - 1 = xs.length := rfl
        refine ⟨grow w49 o49, some (blk q), x.a, x.bs.length, x.c, _, _, xs, rfl, ⟨s50.none, h.step s50 id, rfl, hlx.1, hlx.2, rfl, hl50.cut1, fun h => (by cases h), fun S J2 hS2 => ?_⟩⟩
        cases hS2
        have l39 := s39.size
        refine ⟨q, q2, rfl, hq, by omega, hqq, ⟨hb49.ext X50 id, ?_⟩, jg.step t50 (fun e => hqq e.symm)⟩
        rw [u50.own hb49.lt, t49.own S46.mem.lt]
        exact S46.tg
end
end Go.Proofs.Ytidijnfkcpbkiaa

/- Snapshot: what the reference says of sectors. -/
set_option linter.unusedVariables false
set_option linter.unusedSimpArgs false
set_option maxRecDepth 20000
set_option maxHeartbeats 4000000
namespace Go.Proofs.Ytidijnfkcpbkiaa
open Go Go.Mx Go.Proofs
open W (OwnB GivesW)
section
variable {w w' w1 : World} {o o' o1 : Own} {q g p N m k half T r c : Nat} {a : Option Addr} {l : List BS} {snap : List UInt8} {all : List (List UInt8)}
theorem BsAt.cut1 (h : BsAt w a c l) (k : Nat) (half : Nat) : BsAt w (cutA a c k 1) (c - k) ((l.drop k).take half) := (h.cut k).take half
theorem of_scan {R : Value → World → Prop} {A B : World → Prop} (hb : BsAt w a c l) (hl : l.length ≤ 1000) (ok : Tags w o) (hp : o p = some p) (hpl : p < w.heap.size) (hk : k + half ≤ l.length) (hsc : scanK (((l.map BS.bs).drop k).take half) N = ((snap :: all, T), r)) (hr : r ≠ 4294967295) (hN : N < 4294967296)
    (hR : ∀ w' o' xa xn xc la lc, ∀ l' : List BS, Step (fun j => j = p) w o w' o' → Row w' o' xa (bytesV snap) → xn = snap.length → BsRow w' o' la lc l' → l'.map BS.bs = all → R (.agg #[.int .u32 N, .slice xa xn xc, .slice la l'.length lc, .int .i64 ((half : Int) - T), .int .i64 0]) w') :
    Calls Try.prog 40 #[.slice (cutA a c k 1) half (c - k), .int .u32 N] w fun ee ww => ∃ (sa : Option Addr) (sn : Nat) (sc : Nat) (i : Int) (j : Int), ee = .returned (.tuple #[.slice sa sn sc, .int .i64 i, .int .u32 j]) ∧
      Keep [p] w ww ∧ (j = 4294967295 → A ww) ∧ (j ≠ 4294967295 → ((sn : Int) = 0 → B ww) ∧ ((sn : Int) ≠ 0 → ∃ a61 : Addr, sa = some a61 ∧ (0 : Int) < (sn : Int) ∧
        ∃ (xa : Option Addr) (xn xc : Nat), ww.cell? (a61.add (Int.toNat 0 * 1)) = some (.slice xa xn xc) ∧ (1 : Int) ≤ (sn : Int) ∧ (-9223372036854775808 : Int) ≤ ((half : Int) - i) ∧ ((half : Int) - i) < 9223372036854775808 ∧
        ∀ (ww68 : World), Ext (fun b => b = p) ww ww68 → R (.agg #[.int .u32 N, .slice xa xn xc, .slice (cutA sa sc 1 1) (sn - 1) (sc - 1), .int .i64 ((half : Int) - i), .int .i64 0]) ww68)) := by
  have hb2 := hb.cut1 k half
  have hlen : ((l.drop k).take half).length = half := by rw [List.length_take, List.length_drop]; omega
  have hs := rScan_spec ok hb2 (by omega) hN
  rw [hlen] at hs
  have hm : ((l.drop k).take half).map BS.bs = ((l.map BS.bs).drop k).take half := by rw [List.map_take, List.map_drop]
  rw [hm, hsc] at hs
  have hle := scanG_le N ((((l.map BS.bs).drop k).take half).length + 1) (((l.map BS.bs).drop k).take half) 0
  have hG : scanG N ((((l.map BS.bs).drop k).take half).length + 1) (((l.map BS.bs).drop k).take half) 0 = (snap :: all, T) := congrArg Prod.fst hsc
  rw [hG, ← hm, List.length_map, hlen] at hle
  refine Calls.mono hs fun u w9 ⟨o9, ra, rc, l9, he, s9, hlm, hlr⟩ => ⟨_, _, _, _, _, he, s9.keep1 hp id, fun e => absurd (by omega) hr, fun _ => ⟨fun h0 => ?_, fun h0 => ?_⟩⟩
  · have hll : l9 = [] := List.length_eq_zero_iff.1 (by omega)
    rw [hll] at hlm
    cases hlm
  · obtain ⟨x, xs, rfl⟩ : ∃ x xs, l9 = x :: xs := by
      cases l9 with
      | nil => exact absurd rfl h0
      | cons x xs => exact ⟨x, xs, rfl⟩
    simp only [List.map_cons, List.cons.injEq] at hlm
    obtain ⟨hx, hxs⟩ := hlm
    obtain ⟨ad, rfl, cx⟩ := hlr.at.cell (i := 0) (x := x) rfl
    have hTle : T ≤ half := hle.1
    refine ⟨ad, rfl, by omega, x.a, x.bs.length, x.c, cx, by omega, by show (-9223372036854775808 : Int) ≤ (half : Int) - (T : Int); omega, by show (half : Int) - (T : Int) < _; omega, fun w10 X10 => ?_⟩
    have tg9 : o9 p = some p := by rw [s9.own hpl]; exact hp
    obtain ⟨o10, s10⟩ := Step.store1 X10 s9.ok tg9
    have hlr10 := hlr.step s10
    have hx10 := hlr10.oks x (by simp)
    exact hR w10 o10 x.a _ x.c _ _ xs (s9.none.trans s10) (by rw [← hx]; exact hx10.1) (by rw [hx]) hlr10.cut1 hxs
theorem refOf_spec {R : Value → World → Prop} (hb : BsAt w a c l) (hn1 : 6 ≤ l.length) (hn2 : l.length ≤ 400) (ok : Tags w o) (hS : ∀ x ∈ l, x.bs.length = 64 ∨ x.bs = []) (hof : ofK (l.map BS.bs) = (N, snap :: all, (half : Int) - T, 0)) (hN0 : N ≠ 0) (hN : N < 4294967296)
    (hR : ∀ w' o' xa xn xc la lc, ∀ l' : List BS, Step no w o w' o' → Row w' o' xa (bytesV snap) → xn = snap.length → BsRow w' o' la lc l' → l'.map BS.bs = all → R (.agg #[.int .u32 N, .slice xa xn xc, .slice la l'.length lc, .int .i64 ((half : Int) - T), .int .i64 0]) w') :
    cachetteref11_Of.N a l.length c R w := by
  unfold cachetteref11_Of.N
  have hll : (l.map BS.bs).length = l.length := List.length_map _
  have hH : IntKind.i64.wrap (Int.tdiv ((l.length : Int) - 2) 2) = (((l.length - 2) / 2 : Nat) : Int) := by
    rw [w64 (by rw [Int.tdiv_eq_ediv_of_nonneg (by omega)]; omega) (by rw [Int.tdiv_eq_ediv_of_nonneg (by omega)]; omega), Int.tdiv_eq_ediv_of_nonneg (by omega)]; omega
  obtain ⟨hf, hhf⟩ : ∃ hf, (l.length - 2) / 2 = hf := ⟨_, rfl⟩
  rw [hhf] at hH
  have e1 : Int.toNat ((2 : Int) + (hf : Int)) = 2 + hf := by omega
  have e2 : Int.toNat ((2 : Int) + (hf : Int) + (hf : Int)) = 2 + hf + hf := by omega
  have e3 : 2 + hf + hf - (2 + hf) = hf := by omega
  have e4 : 2 + hf - 2 = hf := by omega
  simp only [hH, e1, e2, e3, e4]
  have g0 : l[0]? = some (l[0]'(by omega)) := List.getElem?_eq_getElem (by omega)
  have g1 : l[1]? = some (l[1]'(by omega)) := List.getElem?_eq_getElem (by omega)
  have m0 := List.getElem_mem (show 0 < l.length by omega)
  have m1 := List.getElem_mem (show 1 < l.length by omega)
  have q0 : (l.map BS.bs)[0]?.getD [] = (l[0]'(by omega)).bs := by rw [get_map_bs g0]; rfl
  have q1 : (l.map BS.bs)[1]?.getD [] = (l[1]'(by omega)).bs := by rw [get_map_bs g1]; rfl
  generalize l[0]'(by omega) = x0 at *
  generalize l[1]'(by omega) = x1 at *
  obtain ⟨ad, rfl, c0⟩ := hb.cell g0
  obtain ⟨ad', e, c1⟩ := hb.cell g1
  cases e
  refine ⟨fun h => absurd h (by omega), fun _ => ⟨ad, rfl, by omega, _, _, _, c0, by omega, _, _, _, c1, fun w10 p X10 P10 => ?_⟩⟩
  obtain ⟨o10, s10, tg10⟩ := Step.priv1 X10 P10 ok
  have pl := P10.one
  have hb10 := hb.no X10
  refine (refHead_spec (b := x0.bs) (hb10.oks x0 m0).1 (hS x0 m0) (by decide) (by decide)).mono fun u w19 ⟨he, X19⟩ => ⟨_, he, (Step.of_no X19 s10.ok).keep1 tg10 id, (hb10.no X19).cell g1 |>.elim fun z hz => by cases hz.1; exact hz.2, ?_⟩
  have s19 := s10.trans (Step.of_no X19 s10.ok)
  have tg19 : grow w10 o10 p = some p := by rw [grow_lt pl.2]; exact tg10
  have hb19 := hb10.no X19
  refine (refHead_spec (b := x1.bs) (hb19.oks x1 m1).1 (hS x1 m1) (by decide) (by decide)).mono fun u w23 ⟨he, X23⟩ => ⟨_, he, (Step.of_no X23 s19.ok).keep1 tg19 id, by omega, by omega, ?_⟩
  have s23 := s19.trans (Step.of_no X23 s19.ok)
  have l19 := X19.size
  have l23 := X23.size
  have tg23 : grow w19 (grow w10 o10) p = some p := by rw [grow_lt (by omega)]; exact tg19
  have hb23 := hb19.no X23
  unfold ofK at hof
  rw [if_neg (by omega)] at hof
  simp only [q0, q1, hll, hhf] at hof
  generalize hA : numH x0.bs 0 = A at *
  generalize hB : numH x1.bs 1 = B at *
  have hR2 : ∀ w' o' xa xn xc la lc, ∀ l' : List BS, Step (fun j => j = p) w23 (grow w19 (grow w10 o10)) w' o' → Row w' o' xa (bytesV snap) → xn = snap.length → BsRow w' o' la lc l' → l'.map BS.bs = all → R (.agg #[.int .u32 N, .slice xa xn xc, .slice la l'.length lc, .int .i64 ((half : Int) - T), .int .i64 0]) w' := fun w' o' xa xn xc la lc l' s hr he hl hm =>
    hR w' o' xa xn xc la lc l' (s23.trans' s fun i hi => .inr (by rw [hi]; exact pl.1)) hr he hl hm
  by_cases h00 : A = 0 ∧ B = 0
  · rw [if_pos h00] at hof
    split at hof <;> cases hof
    all_goals exact absurd rfl hN0
  rw [if_neg h00] at hof
  by_cases hBA : B > A
  · rw [if_pos hBA, if_pos hBA] at hof
    obtain ⟨s, hs⟩ : ∃ s, scanK (((l.map BS.bs).drop (2 + hf)).take hf) B = s := ⟨_, rfl⟩
    rw [hs] at hof
    split at hof
    · cases hof
    rename_i hr0
    split at hof
    · cases hof
    obtain ⟨⟨sl, sT⟩, sr⟩ := s
    simp only [Prod.mk.injEq, and_true] at hof
    obtain ⟨rfl, rfl, hT⟩ := hof
    rw [← hT] at hR2
    have fin := fun {A' B' : World → Prop} => of_scan (R := R) (A := A') (B := B') hb23 (by omega) s23.ok tg23 (by omega) (k := 2 + hf) (half := hf) (by omega) hs hr0 hN hR2
    refine ⟨fun h0 => ⟨fun h1 => absurd ⟨by omega, by omega⟩ h00, fun h1 => ⟨fun _ => ⟨by omega, by omega, by omega, by omega, by omega, by have := hb.le; omega, by omega, by omega, fin⟩, fun h => absurd h (by omega)⟩⟩, fun h0 => ⟨fun _ => ⟨by omega, by omega, by omega, by omega, by omega, by have := hb.le; omega, by omega, by omega, fin⟩, fun h => absurd h (by omega)⟩⟩
  · rw [if_neg hBA, if_neg hBA] at hof
    obtain ⟨s, hs⟩ : ∃ s, scanK (((l.map BS.bs).drop 2).take hf) A = s := ⟨_, rfl⟩
    rw [hs] at hof
    split at hof
    · cases hof
    rename_i hr0
    split at hof
    · cases hof
    obtain ⟨⟨sl, sT⟩, sr⟩ := s
    simp only [Prod.mk.injEq, and_true] at hof
    obtain ⟨rfl, rfl, hT⟩ := hof
    rw [← hT] at hR2
    have fin := fun {A' B' : World → Prop} => of_scan (R := R) (A := A') (B := B') hb23 (by omega) s23.ok tg23 (by omega) (k := 2) (half := hf) (by omega) hs hr0 hN hR2
    refine ⟨fun h0 => absurd (by omega) hN0, fun h0 => ⟨fun h => absurd h (by omega), fun _ => ⟨by omega, by omega, by omega, by have := hb.le; omega, by omega, fin⟩⟩⟩
end
end Go.Proofs.Ytidijnfkcpbkiaa

/- Snapshot: predicates of the laws. -/
set_option linter.unusedVariables false
set_option linter.unusedSimpArgs false
set_option maxRecDepth 100000
set_option maxHeartbeats 4000000
namespace Go.Proofs.Ytidijnfkcpbkiaa
open Go Go.Mx Go.Proofs
/-- cachettelaw11.light -/
def cachettelaw11_light.M (a5 : Option Addr) (a4 : Nat) (ac : Nat) (R : Value → World → Prop) (w : World) : Prop :=
 bif decide ((a4 : Int) > 30) then (
 R (.bool false) w) else (
 ∃ (I0 : Nat → List Value → World → Prop) (m3 : Nat), I0 m3 [.int .i64 0] w ∧ ∀ (m4 : Nat) (a2 : World) (i2 : Int), I0 m4 [.int .i64 i2] a2 →
 bif decide (i2 < (a4 : Int)) then (
 a5.elim False fun a6 =>
 0 ≤ (i2 : Int) ∧ (i2 : Int) < (a4 : Int) ∧
 ∃ (ab : Option Addr) (a9 : Nat) (aa : Nat), a2.cell? ((a6.add (Int.toNat i2 * 4)).add 1) = some (.slice ab a9 aa) ∧
 bif decide ((a9 : Int) > 600) then (
 R (.bool false) a2) else (
 a5.elim False fun a8 =>
 0 ≤ (i2 : Int) ∧ (i2 : Int) < (a4 : Int) ∧
 ∃ (a3 : Option Addr) (a0 : Nat) (a1 : Nat), a2.cell? ((a8.add (Int.toNat i2 * 4)).add 3) = some (.slice a3 a0 a1) ∧
 bif decide ((a0 : Int) > 60) then (
 R (.bool false) a2) else (
 ∃ a7, a7 < m4 ∧ I0 a7 [.int .i64 (IntKind.i64.wrap (i2 + 1))] a2))) else (
 R (.bool true) a2))

theorem cachettelaw11_light.eq (l1a : Option Addr) (l1n : Nat) (l1c : Nat) (R : Value → World → Prop) (w : World) : mfunc Try.prog [(0, [0], [(3, (.one (.int .i64)))])] 5 [.slice l1a l1n l1c] R w = cachettelaw11_light.M l1a l1n l1c R w := by kernel_rfl
theorem cachettelaw11_light.ok (a2 : Option Addr) (a1 : Nat) (a0 : Nat) {R : Value → World → Prop} {w : World} (h : cachettelaw11_light.M a2 a1 a0 R w) : Calls Try.prog 5 #[.slice a2 a1 a0] w fun e w' => ∃ v, e = .returned v ∧ R v w' :=
  mfunc_ok follows (H := [(0, [0], [(3, (.one (.int .i64)))])]) (args := [.slice a2 a1 a0]) (by rw [cachettelaw11_light.eq]; exact h)

def cachettelaw11_light.N (aa : Option Addr) (a5 : Nat) (ab : Nat) (R : Value → World → Prop) (w : World) : Prop :=
 ((a5 : Int) > 30 →
 R (.bool false) w) ∧
 ((a5 : Int) ≤ 30 →
 ∃ (I0 : Nat → List Value → World → Prop) (m4 : Nat), I0 m4 [.int .i64 0] w ∧ ∀ (m5 : Nat) (a3 : World) (i3 : Int), I0 m5 [.int .i64 i3] a3 →
 (i3 < (a5 : Int) →
 ∃ a8 : Addr, aa = some a8 ∧
 0 ≤ (i3 : Int) ∧ (i3 : Int) < (a5 : Int) ∧
 ∃ (a7 : Option Addr) (a4 : Nat) (a6 : Nat), a3.cell? ((a8.add (Int.toNat i3 * 4)).add 1) = some (.slice a7 a4 a6) ∧
 ((a4 : Int) > 600 →
 R (.bool false) a3) ∧
 ((a4 : Int) ≤ 600 →
 0 ≤ (i3 : Int) ∧ (i3 : Int) < (a5 : Int) ∧
 ∃ (a2 : Option Addr) (a0 : Nat) (a1 : Nat), a3.cell? ((a8.add (Int.toNat i3 * 4)).add 3) = some (.slice a2 a0 a1) ∧
 ((a0 : Int) > 60 →
 R (.bool false) a3) ∧
 ((a0 : Int) ≤ 60 →
 (-9223372036854775808 : Int) ≤ (i3 + 1) ∧ (i3 + 1) < 9223372036854775808 ∧
 ∃ a9, a9 < m5 ∧ I0 a9 [.int .i64 (i3 + 1)] a3))) ∧
 ((a5 : Int) ≤ i3 →
 R (.bool true) a3))

theorem cachettelaw11_light.up (ae : Option Addr) (ad : Nat) (ac : Nat) {R : Value → World → Prop} {w : World} (h : cachettelaw11_light.N ae ad ac R w) : cachettelaw11_light.M ae ad ac R w := by
  unfold cachettelaw11_light.M
  unfold cachettelaw11_light.N at h
  refine bif_of (fun c2 => ?_) (fun c2 => ?_)
  · have h := h.1 (of_decide_eq_true c2)
    exact h
  · have h := h.2 (Int.not_lt.1 (of_decide_eq_false c2))
    obtain ⟨I0, m4, h0, h⟩ := h
    refine ⟨I0, m4, h0, fun m5 ag i3 hI => ?_⟩
    have h := h m5 ag i3 hI
    refine bif_of (fun c7 => ?_) (fun c7 => ?_)
    · have h := h.1 (of_decide_eq_true c7)
      obtain ⟨a8, af, h⟩ := h
      refine elim_some af ?_
      obtain ⟨a6, a3, h⟩ := h
      refine ⟨a6, a3, ?_⟩
      obtain ⟨aa, ab, a5, ah, h⟩ := h
      refine ⟨aa, ab, a5, ah, ?_⟩
      refine bif_of (fun a9 => ?_) (fun a9 => ?_)
      · have h := h.1 (of_decide_eq_true a9)
        exact h
      · have h := h.2 (Int.not_lt.1 (of_decide_eq_false a9))
        refine elim_some af ?_
        obtain ⟨a6, a3, h⟩ := h
        refine ⟨a6, a3, ?_⟩
        obtain ⟨a1, a0, a2, a7, h⟩ := h
        refine ⟨a1, a0, a2, a7, ?_⟩
        refine bif_of (fun a4 => ?_) (fun a4 => ?_)
        · have h := h.1 (of_decide_eq_true a4)
          exact h
        · have h := h.2 (Int.not_lt.1 (of_decide_eq_false a4))
          obtain ⟨aj, ai, h⟩ := h
          try rw [w64 aj ai]
          obtain ⟨ak, hk, h⟩ := h
          exact ⟨ak, hk, h⟩
    · have h := h.2 (Int.not_lt.1 (of_decide_eq_false c7))
      exact h

theorem cachettelaw11_light.go (a2 : Option Addr) (a1 : Nat) (a0 : Nat) {R : Value → World → Prop} {w : World} (h : cachettelaw11_light.N a2 a1 a0 R w) : Calls Try.prog 5 #[.slice a2 a1 a0] w fun e w' => ∃ v, e = .returned v ∧ R v w' := cachettelaw11_light.ok a2 a1 a0 (cachettelaw11_light.up a2 a1 a0 h)
theorem cachettelaw11_light.run (a2 : Option Addr) (a1 : Nat) (a0 : Nat) {V : Value} {Q : World → Prop} {w : World} (h : cachettelaw11_light.N a2 a1 a0 (fun v w' => v = V ∧ Q w') w) : Calls Try.prog 5 #[.slice a2 a1 a0] w (Ret V Q) := (cachettelaw11_light.go a2 a1 a0 h).mono fun e w' ⟨v, he, hv, hq⟩ => ⟨by rw [he, hv], hq⟩

/-- cachettelaw11.sectors -/
def cachettelaw11_sectors.M (d1 : Option Addr) (R : Value → World → Prop) (w : World) : Prop :=
 ∃ (I0 : Nat → List Value → World → Prop) (m4 : Nat), I0 m4 [.slice none 0 0, .int .i64 0] w ∧ ∀ (m5 : Nat) (ak : World) (a0 : Option Addr) (a1 : Nat) (a2 : Nat) (i3 : Int), I0 m5 [.slice a0 a1 a2, .int .i64 i3] ak →
 Calls Try.prog 22 #[.pointer d1] ak fun ao am => ∃ (a3 : Int), ao = .returned (.int .i64 a3) ∧
 bif decide (i3 < a3) then (
 Calls Try.prog 25 #[.pointer d1, .int .i64 i3] am fun ah a8 => ∃ (a6 : Option Addr) (a4 : Nat) (a5 : Nat) (a7 : Int), ah = .returned (.tuple #[.slice a6 a4 a5, .int .i64 a7]) ∧
 bif a7 != 0 then (
 thenW (a8.alloc (.cells #[.slice none 0 0] 30)) fun ai =>
 ∃ (aa : Option Addr) (a9 : Nat) (af : Nat) (ad : World), (Builtin.append_ #[31, 31] 31 #[.slice a0 a1 a2, .slice (some (blk a8.heap.size)) 1 1]).run Try.prog ai = .ok (.slice aa a9 af) ad ∧
 ∃ al, al < m5 ∧ I0 al [.slice aa a9 af, .int .i64 (IntKind.i64.wrap (i3 + 1))] ad) else (
 thenW (a8.alloc (.cells #[.slice a6 a4 a5] 30)) fun aj =>
 ∃ (ag : Option Addr) (ae : Nat) (ab : Nat) (ac : World), (Builtin.append_ #[31, 31] 31 #[.slice a0 a1 a2, .slice (some (blk a8.heap.size)) 1 1]).run Try.prog aj = .ok (.slice ag ae ab) ac ∧
 ∃ an, an < m5 ∧ I0 an [.slice ag ae ab, .int .i64 (IntKind.i64.wrap (i3 + 1))] ac)) else (
 R (.slice a0 a1 a2) am)

theorem cachettelaw11_sectors.eq (d1 : Option Addr) (R : Value → World → Prop) (w : World) : mfunc Try.prog [(0, [0], [(3, (.one .slice)), (4, (.one (.int .i64)))])] 13 [.pointer d1] R w = cachettelaw11_sectors.M d1 R w := by kernel_rfl
theorem cachettelaw11_sectors.ok (d1 : Option Addr) {R : Value → World → Prop} {w : World} (h : cachettelaw11_sectors.M d1 R w) : Calls Try.prog 13 #[.pointer d1] w fun e w' => ∃ v, e = .returned v ∧ R v w' :=
  mfunc_ok follows (H := [(0, [0], [(3, (.one .slice)), (4, (.one (.int .i64)))])]) (args := [.pointer d1]) (by rw [cachettelaw11_sectors.eq]; exact h)

def cachettelaw11_sectors.N (d1 : Option Addr) (R : Value → World → Prop) (w : World) : Prop :=
 ∃ (I0 : Nat → List Value → World → Prop) (m4 : Nat), I0 m4 [.slice none 0 0, .int .i64 0] w ∧ ∀ (m5 : Nat) (am : World) (a1 : Option Addr) (a2 : Nat) (a3 : Nat) (i3 : Int), I0 m5 [.slice a1 a2 a3, .int .i64 i3] am →
 Calls Try.prog 22 #[.pointer d1] am fun aq ap => ∃ (a0 : Int), aq = .returned (.int .i64 a0) ∧
 (i3 < a0 →
 Calls Try.prog 25 #[.pointer d1, .int .i64 i3] ap fun al aa => ∃ (a5 : Option Addr) (a7 : Nat) (a6 : Nat) (a4 : Int), al = .returned (.tuple #[.slice a5 a7 a6, .int .i64 a4]) ∧
 (a4 ≠ 0 →
 ∀ (a9 : World) (aj : Nat), Ext no aa a9 → Blk a9 aj 30 [.slice none 0 0] → aa.heap.size ≤ aj → aj < a9.heap.size →
 ∃ (ad : Option Addr) (af : Nat) (ah : Nat) (ac : World), (Builtin.append_ #[31, 31] 31 #[.slice a1 a2 a3, .slice (some (blk aj)) 1 1]).run Try.prog a9 = .ok (.slice ad af ah) ac ∧
 (-9223372036854775808 : Int) ≤ (i3 + 1) ∧ (i3 + 1) < 9223372036854775808 ∧
 ∃ an, an < m5 ∧ I0 an [.slice ad af ah, .int .i64 (i3 + 1)] ac) ∧
 (a4 = 0 →
 ∀ (a8 : World) (ak : Nat), Ext no aa a8 → Blk a8 ak 30 [.slice a5 a7 a6] → aa.heap.size ≤ ak → ak < a8.heap.size →
 ∃ (ai : Option Addr) (ag : Nat) (ae : Nat) (ab : World), (Builtin.append_ #[31, 31] 31 #[.slice a1 a2 a3, .slice (some (blk ak)) 1 1]).run Try.prog a8 = .ok (.slice ai ag ae) ab ∧
 (-9223372036854775808 : Int) ≤ (i3 + 1) ∧ (i3 + 1) < 9223372036854775808 ∧
 ∃ ao, ao < m5 ∧ I0 ao [.slice ai ag ae, .int .i64 (i3 + 1)] ab)) ∧
 (a0 ≤ i3 →
 R (.slice a1 a2 a3) ap)

theorem cachettelaw11_sectors.up (d1 : Option Addr) {R : Value → World → Prop} {w : World} (h : cachettelaw11_sectors.N d1 R w) : cachettelaw11_sectors.M d1 R w := by
  unfold cachettelaw11_sectors.M
  unfold cachettelaw11_sectors.N at h
  obtain ⟨I0, m4, h0, h⟩ := h
  refine ⟨I0, m4, h0, fun m5 ap a5 a6 a7 i3 hI => ?_⟩
  have h := h m5 ap a5 a6 a7 i3 hI
  refine h.mono fun av aw h => ?_
  obtain ⟨a1, he, h⟩ := h
  refine ⟨a1, he, ?_⟩
  refine bif_of (fun ag => ?_) (fun ag => ?_)
  · have h := h.1 (of_decide_eq_true ag)
    refine h.mono fun ar a0 h => ?_
    obtain ⟨a2, a4, a3, a8, he, h⟩ := h
    refine ⟨a2, a4, a3, a8, he, ?_⟩
    refine bif_of (fun af => ?_) (fun af => ?_)
    · have h := h.1 (bne_t af)
      refine thenW_in fun aj ao => ?_
      have h := h aj a0.heap.size ((Ext.refl no a0).x_alloc ao) (Blk.of_new ao) ((Ext.refl no a0)).size (size_lt_alloc ao)
      obtain ⟨ac, ai, am, ab, hr, h⟩ := h
      refine ⟨ac, ai, am, ab, hr, ?_⟩
      obtain ⟨ak, ae, h⟩ := h
      try rw [w64 ak ae]
      obtain ⟨aq, hk, h⟩ := h
      exact ⟨aq, hk, h⟩
    · have h := h.2 (bne_f af)
      refine thenW_in fun a9 ah => ?_
      have h := h a9 a0.heap.size ((Ext.refl no a0).x_alloc ah) (Blk.of_new ah) ((Ext.refl no a0)).size (size_lt_alloc ah)
      obtain ⟨an, al, ad, aa, hr, h⟩ := h
      refine ⟨an, al, ad, aa, hr, ?_⟩
      obtain ⟨ak, ae, h⟩ := h
      try rw [w64 ak ae]
      obtain ⟨au, hk, h⟩ := h
      exact ⟨au, hk, h⟩
  · have h := h.2 (Int.not_lt.1 (of_decide_eq_false ag))
    exact h

theorem cachettelaw11_sectors.go (d1 : Option Addr) {R : Value → World → Prop} {w : World} (h : cachettelaw11_sectors.N d1 R w) : Calls Try.prog 13 #[.pointer d1] w fun e w' => ∃ v, e = .returned v ∧ R v w' := cachettelaw11_sectors.ok d1 (cachettelaw11_sectors.up d1 h)
/-- cachettelaw11.same -/
def cachettelaw11_same.M (a7 : Option Addr) (a6 : Nat) (a9 : Nat) (a0 : Option Addr) (a1 : Nat) (a2 : Nat) (a5 : Option Addr) (a8 : Nat) (aa : Nat) (ac : Option Addr) (ad : Nat) (ab : Nat) (R : Value → World → Prop) (w : World) : Prop :=
 Calls Try.prog 21 #[.slice a7 a6 a9, .slice a5 a8 aa] w fun ag af => ∃ (a4 : Bool), ag = .returned (.bool a4) ∧
 bif a4 then (
 Calls Try.prog 45 #[.slice a0 a1 a2, .slice ac ad ab] af fun ah ae => ∃ (a3 : Bool), ah = .returned (.bool a3) ∧
 R (.bool a3) ae) else (
 R (.bool false) af)

theorem cachettelaw11_same.eq (snap1a : Option Addr) (snap1n : Nat) (snap1c : Nat) (records2a : Option Addr) (records2n : Nat) (records2c : Nat) (want3a : Option Addr) (want3n : Nat) (want3c : Nat) (all4a : Option Addr) (all4n : Nat) (all4c : Nat) (R : Value → World → Prop) (w : World) : mfunc Try.prog [] 18 [.slice snap1a snap1n snap1c, .slice records2a records2n records2c, .slice want3a want3n want3c, .slice all4a all4n all4c] R w = cachettelaw11_same.M snap1a snap1n snap1c records2a records2n records2c want3a want3n want3c all4a all4n all4c R w := by kernel_rfl
theorem cachettelaw11_same.ok (a5 : Option Addr) (a4 : Nat) (a7 : Nat) (a0 : Option Addr) (a1 : Nat) (a2 : Nat) (a3 : Option Addr) (a6 : Nat) (a8 : Nat) (aa : Option Addr) (ab : Nat) (a9 : Nat) {R : Value → World → Prop} {w : World} (h : cachettelaw11_same.M a5 a4 a7 a0 a1 a2 a3 a6 a8 aa ab a9 R w) : Calls Try.prog 18 #[.slice a5 a4 a7, .slice a0 a1 a2, .slice a3 a6 a8, .slice aa ab a9] w fun e w' => ∃ v, e = .returned v ∧ R v w' :=
  mfunc_ok follows (H := []) (args := [.slice a5 a4 a7, .slice a0 a1 a2, .slice a3 a6 a8, .slice aa ab a9]) (by rw [cachettelaw11_same.eq]; exact h)

def cachettelaw11_same.N (a7 : Option Addr) (a6 : Nat) (a9 : Nat) (a0 : Option Addr) (a1 : Nat) (a2 : Nat) (a5 : Option Addr) (a8 : Nat) (aa : Nat) (ac : Option Addr) (ad : Nat) (ab : Nat) (R : Value → World → Prop) (w : World) : Prop :=
 Calls Try.prog 21 #[.slice a7 a6 a9, .slice a5 a8 aa] w fun ah ag => ∃ (a4 : Bool), ah = .returned (.bool a4) ∧
 (a4 = true →
 Calls Try.prog 45 #[.slice a0 a1 a2, .slice ac ad ab] ag fun af ae => ∃ (a3 : Bool), af = .returned (.bool a3) ∧
 R (.bool a3) ae) ∧
 (a4 = false →
 R (.bool false) ag)

theorem cachettelaw11_same.up (a5 : Option Addr) (a4 : Nat) (a7 : Nat) (a0 : Option Addr) (a1 : Nat) (a2 : Nat) (a3 : Option Addr) (a6 : Nat) (a8 : Nat) (aa : Option Addr) (ab : Nat) (a9 : Nat) {R : Value → World → Prop} {w : World} (h : cachettelaw11_same.N a5 a4 a7 a0 a1 a2 a3 a6 a8 aa ab a9 R w) : cachettelaw11_same.M a5 a4 a7 a0 a1 a2 a3 a6 a8 aa ab a9 R w := by
  unfold cachettelaw11_same.M
  unfold cachettelaw11_same.N at h
  refine h.mono fun ag ah h => ?_
  obtain ⟨ad, he, h⟩ := h
  refine ⟨ad, he, ?_⟩
  refine bif_of (fun c8 => ?_) (fun c8 => ?_)
  · have h := h.1 c8
    refine h.mono fun ae af h => ?_
    obtain ⟨ac, he, h⟩ := h
    refine ⟨ac, he, ?_⟩
    exact h
  · have h := h.2 c8
    exact h

theorem cachettelaw11_same.go (a5 : Option Addr) (a4 : Nat) (a7 : Nat) (a0 : Option Addr) (a1 : Nat) (a2 : Nat) (a3 : Option Addr) (a6 : Nat) (a8 : Nat) (aa : Option Addr) (ab : Nat) (a9 : Nat) {R : Value → World → Prop} {w : World} (h : cachettelaw11_same.N a5 a4 a7 a0 a1 a2 a3 a6 a8 aa ab a9 R w) : Calls Try.prog 18 #[.slice a5 a4 a7, .slice a0 a1 a2, .slice a3 a6 a8, .slice aa ab a9] w fun e w' => ∃ v, e = .returned v ∧ R v w' := cachettelaw11_same.ok a5 a4 a7 a0 a1 a2 a3 a6 a8 aa ab a9 (cachettelaw11_same.up a5 a4 a7 a0 a1 a2 a3 a6 a8 aa ab a9 h)
theorem cachettelaw11_same.run (a5 : Option Addr) (a4 : Nat) (a7 : Nat) (a0 : Option Addr) (a1 : Nat) (a2 : Nat) (a3 : Option Addr) (a6 : Nat) (a8 : Nat) (aa : Option Addr) (ab : Nat) (a9 : Nat) {V : Value} {Q : World → Prop} {w : World} (h : cachettelaw11_same.N a5 a4 a7 a0 a1 a2 a3 a6 a8 aa ab a9 (fun v w' => v = V ∧ Q w') w) : Calls Try.prog 18 #[.slice a5 a4 a7, .slice a0 a1 a2, .slice a3 a6 a8, .slice aa ab a9] w (Ret V Q) := (cachettelaw11_same.go a5 a4 a7 a0 a1 a2 a3 a6 a8 aa ab a9 h).mono fun e w' ⟨v, he, hv, hq⟩ => ⟨by rw [he, hv], hq⟩

/-- cachettelaw11.alive -/
def cachettelaw11_alive.M  (R : Value → World → Prop) (w : World) : Prop :=
 Calls Try.prog 7 #[.int .i64 20] w fun bg bj => ∃ (ak : Option Addr) (b6 : Int), bg = .returned (.tuple #[.pointer ak, .int .i64 b6]) ∧
 Calls Try.prog 8 #[.pointer ak] bj fun bi aw => ∃ (a3 : Option Addr) (af : Option Addr) (ad : Nat) (ag : Nat) (ai : Option Addr) (ah : Nat) (aj : Nat) (ab : Int), bi = .returned (.tuple #[.pointer a3, .slice af ad ag, .slice ai ah aj, .int .i64 ab]) ∧
 thenW (aw.alloc (.cells #[.int .u8 97] 5)) fun b8 =>
 ∃ (az : Option Addr) (b0 : Nat) (b1 : Nat) (b3 : World), (convert 30 30 (.slice (some (blk aw.heap.size)) 1 1)).run Try.prog b8 = .ok (.slice az b0 b1) b3 ∧
 Calls Try.prog 11 #[.pointer a3, .slice az b0 b1] b3 fun bd ax => ∃ (a5 : Int), bd = .returned (.int .i64 a5) ∧
 thenW (ax.alloc (.cells #[.int .u8 120] 5)) fun b5 =>
 ∃ (b4 : Option Addr) (aq : Nat) (ay : Nat) (an : World), (convert 30 30 (.slice (some (blk ax.heap.size)) 1 1)).run Try.prog b5 = .ok (.slice b4 aq ay) an ∧
 Calls Try.prog 10 #[.pointer a3, .slice b4 aq ay] an fun b9 ar => ∃ (a2 : Int), b9 = .returned (.int .i64 a2) ∧
 thenW (ar.alloc (.cells #[.int .u8 98] 5)) fun b7 =>
 ∃ (au : Option Addr) (am : Nat) (b2 : Nat) (av : World), (convert 30 30 (.slice (some (blk ar.heap.size)) 1 1)).run Try.prog b7 = .ok (.slice au am b2) av ∧
 Calls Try.prog 11 #[.pointer a3, .slice au am b2] av fun ba bc => ∃ (a7 : Int), ba = .returned (.int .i64 a7) ∧
 Calls Try.prog 8 #[.pointer ak] bc fun bb a0 => ∃ (ae : Option Addr) (a4 : Option Addr) (a9 : Nat) (a6 : Nat) (a8 : Option Addr) (a1 : Nat) (ac : Nat) (aa : Int), bb = .returned (.tuple #[.pointer ae, .slice a4 a9 a6, .slice a8 a1 ac, .int .i64 aa]) ∧
 bif ab == 0 then (
 bif a5 == 0 then (
 bif a2 == 0 then (
 bif a7 == 0 then (
 bif aa == 0 then (
 ∃ (bf : ByteArray), (convert 30 9 (.slice a4 a9 a6)).run Try.prog a0 = .ok (.string bf) a0 ∧
 bif bf.toList == (ByteArray.mk #[120]).toList then (
 bif (a1 : Int) == 1 then (
 a8.elim False fun bh =>
 0 ≤ (0 : Int) ∧ (0 : Int) < (a1 : Int) ∧
 ∃ (ap : Option Addr) (ao : Nat) (al : Nat), a0.cell? (bh.add (Int.toNat 0 * 1)) = some (.slice ap ao al) ∧
 ∃ (be : ByteArray), (convert 30 9 (.slice ap ao al)).run Try.prog a0 = .ok (.string be) a0 ∧
 R (.bool (be.toList == (ByteArray.mk #[98]).toList)) a0) else (
 R (.bool false) a0)) else (
 R (.bool false) a0)) else (
 R (.bool false) a0)) else (
 R (.bool false) a0)) else (
 R (.bool false) a0)) else (
 R (.bool false) a0)) else (
 R (.bool false) a0)

theorem cachettelaw11_alive.eq  (R : Value → World → Prop) (w : World) : mfunc Try.prog [] 6 [] R w = cachettelaw11_alive.M  R w := by kernel_rfl
theorem cachettelaw11_alive.ok  {R : Value → World → Prop} {w : World} (h : cachettelaw11_alive.M  R w) : Calls Try.prog 6 #[] w fun e w' => ∃ v, e = .returned v ∧ R v w' :=
  mfunc_ok follows (H := []) (args := []) (by rw [cachettelaw11_alive.eq]; exact h)

def cachettelaw11_alive.N  (R : Value → World → Prop) (w : World) : Prop :=
 Calls Try.prog 7 #[.int .i64 20] w fun bk bm => ∃ (an : Option Addr) (bb : Int), bk = .returned (.tuple #[.pointer an, .int .i64 bb]) ∧
 Calls Try.prog 8 #[.pointer an] bm fun bl ay => ∃ (a6 : Option Addr) (af : Option Addr) (ad : Nat) (ag : Nat) (aj : Option Addr) (ah : Nat) (al : Nat) (ab : Int), bl = .returned (.tuple #[.pointer a6, .slice af ad ag, .slice aj ah al, .int .i64 ab]) ∧
 ∀ (ae : World) (b8 : Nat), Ext no ay ae → Blk ae b8 5 [.int .u8 97] → ay.heap.size ≤ b8 → b8 < ae.heap.size →
 ∃ (au : Option Addr) (b5 : Nat) (av : Nat) (b3 : World), (convert 30 30 (.slice (some (blk b8)) 1 1)).run Try.prog ae = .ok (.slice au b5 av) b3 ∧
 Calls Try.prog 11 #[.pointer a6, .slice au b5 av] b3 fun bd ao => ∃ (a3 : Int), bd = .returned (.int .i64 a3) ∧
 ∀ (ak : World) (b9 : Nat), Ext no ao ak → Blk ak b9 5 [.int .u8 120] → ao.heap.size ≤ b9 → b9 < ak.heap.size →
 ∃ (b2 : Option Addr) (b6 : Nat) (b1 : Nat) (ap : World), (convert 30 30 (.slice (some (blk b9)) 1 1)).run Try.prog ak = .ok (.slice b2 b6 b1) ap ∧
 Calls Try.prog 10 #[.pointer a6, .slice b2 b6 b1] ap fun bf aq => ∃ (a1 : Int), bf = .returned (.int .i64 a1) ∧
 ∀ (ai : World) (ba : Nat), Ext no aq ai → Blk ai ba 5 [.int .u8 98] → aq.heap.size ≤ ba → ba < ai.heap.size →
 ∃ (aw : Option Addr) (b7 : Nat) (ar : Nat) (az : World), (convert 30 30 (.slice (some (blk ba)) 1 1)).run Try.prog ai = .ok (.slice aw b7 ar) az ∧
 Calls Try.prog 11 #[.pointer a6, .slice aw b7 ar] az fun bh be => ∃ (a4 : Int), bh = .returned (.int .i64 a4) ∧
 Calls Try.prog 8 #[.pointer an] be fun bg a2 => ∃ (am : Option Addr) (aa : Option Addr) (a9 : Nat) (a8 : Nat) (a7 : Option Addr) (a0 : Nat) (ac : Nat) (a5 : Int), bg = .returned (.tuple #[.pointer am, .slice aa a9 a8, .slice a7 a0 ac, .int .i64 a5]) ∧
 (ab = 0 →
 (a3 = 0 →
 (a1 = 0 →
 (a4 = 0 →
 (a5 = 0 →
 ∃ (bc : ByteArray), (convert 30 9 (.slice aa a9 a8)).run Try.prog a2 = .ok (.string bc) a2 ∧
 (bc.toList = (ByteArray.mk #[120]).toList →
 ((a0 : Int) = 1 →
 ∃ bi : Addr, a7 = some bi ∧
 (0 : Int) < (a0 : Int) ∧
 ∃ (ax : Option Addr) (b0 : Nat) (b4 : Nat), a2.cell? (bi.add (Int.toNat 0 * 1)) = some (.slice ax b0 b4) ∧
 ∃ (bj : ByteArray), (convert 30 9 (.slice ax b0 b4)).run Try.prog a2 = .ok (.string bj) a2 ∧
 R (.bool (bj.toList == (ByteArray.mk #[98]).toList)) a2) ∧
 ((a0 : Int) ≠ 1 →
 R (.bool false) a2)) ∧
 (bc.toList ≠ (ByteArray.mk #[120]).toList →
 R (.bool false) a2)) ∧
 (a5 ≠ 0 →
 R (.bool false) a2)) ∧
 (a4 ≠ 0 →
 R (.bool false) a2)) ∧
 (a1 ≠ 0 →
 R (.bool false) a2)) ∧
 (a3 ≠ 0 →
 R (.bool false) a2)) ∧
 (ab ≠ 0 →
 R (.bool false) a2)

theorem cachettelaw11_alive.up  {R : Value → World → Prop} {w : World} (h : cachettelaw11_alive.N  R w) : cachettelaw11_alive.M  R w := by
  unfold cachettelaw11_alive.M
  unfold cachettelaw11_alive.N at h
  refine h.mono fun bv bz h => ?_
  obtain ⟨az, am, he, h⟩ := h
  refine ⟨az, am, he, ?_⟩
  refine h.mono fun bx al h => ?_
  obtain ⟨ak, ab, a9, ac, ae, ad, af, aj, he, h⟩ := h
  refine ⟨ak, ab, a9, ac, ae, ad, af, aj, he, ?_⟩
  refine thenW_in fun au bc => ?_
  have h := h au al.heap.size ((Ext.refl no al).x_alloc bc) (Blk.of_new bc) ((Ext.refl no al)).size (size_lt_alloc bc)
  obtain ⟨ap, bg, ar, b7, hr, h⟩ := h
  refine ⟨ap, bg, ar, b7, hr, ?_⟩
  refine h.mono fun bo ah h => ?_
  obtain ⟨a5, he, h⟩ := h
  refine ⟨a5, he, ?_⟩
  refine thenW_in fun b8 b5 => ?_
  have h := h b8 ah.heap.size ((Ext.refl no ah).x_alloc b5) (Blk.of_new b5) ((Ext.refl no ah)).size (size_lt_alloc b5)
  obtain ⟨b6, bh, b4, an, hr, h⟩ := h
  refine ⟨b6, bh, b4, an, hr, ?_⟩
  refine h.mono fun bq ai h => ?_
  obtain ⟨a0, he, h⟩ := h
  refine ⟨a0, he, ?_⟩
  refine thenW_in fun b0 ay => ?_
  have h := h b0 ai.heap.size ((Ext.refl no ai).x_alloc ay) (Blk.of_new ay) ((Ext.refl no ai)).size (size_lt_alloc ay)
  obtain ⟨av, bk, ao, b2, hr, h⟩ := h
  refine ⟨av, bk, ao, b2, hr, ?_⟩
  refine h.mono fun bt bp h => ?_
  obtain ⟨a6, he, h⟩ := h
  refine ⟨a6, he, ?_⟩
  refine h.mono fun br bs h => ?_
  obtain ⟨ag, a8, a7, a4, a3, a2, a1, aa, he, h⟩ := h
  refine ⟨ag, a8, a7, a4, a3, a2, a1, aa, he, ?_⟩
  refine bif_of (fun bl => ?_) (fun bl => ?_)
  · have h := h.1 (beq_t bl)
    refine bif_of (fun bj => ?_) (fun bj => ?_)
    · have h := h.1 (beq_t bj)
      refine bif_of (fun aq => ?_) (fun aq => ?_)
      · have h := h.1 (beq_t aq)
        refine bif_of (fun b1 => ?_) (fun b1 => ?_)
        · have h := h.1 (beq_t b1)
          refine bif_of (fun b9 => ?_) (fun b9 => ?_)
          · have h := h.1 (beq_t b9)
            obtain ⟨bm, ba, h⟩ := h
            refine ⟨bm, ba, ?_⟩
            refine bif_of (fun aw => ?_) (fun aw => ?_)
            · have h := h.1 (lbeq_t aw)
              refine bif_of (fun be => ?_) (fun be => ?_)
              · have h := h.1 (beq_t be)
                obtain ⟨bw, bb, h⟩ := h
                refine elim_some bb ?_
                obtain ⟨bn, h⟩ := h
                refine ⟨by decide, bn, ?_⟩
                obtain ⟨ax, b3, bd, bi, h⟩ := h
                refine ⟨ax, b3, bd, bi, ?_⟩
                obtain ⟨bu, bf, h⟩ := h
                refine ⟨bu, bf, ?_⟩
                exact h
              · have h := h.2 (beq_f be)
                exact h
            · have h := h.2 (lbeq_f aw)
              exact h
          · have h := h.2 (beq_f b9)
            exact h
        · have h := h.2 (beq_f b1)
          exact h
      · have h := h.2 (beq_f aq)
        exact h
    · have h := h.2 (beq_f bj)
      exact h
  · have h := h.2 (beq_f bl)
    exact h

theorem cachettelaw11_alive.go  {R : Value → World → Prop} {w : World} (h : cachettelaw11_alive.N  R w) : Calls Try.prog 6 #[] w fun e w' => ∃ v, e = .returned v ∧ R v w' := cachettelaw11_alive.ok  (cachettelaw11_alive.up  h)
theorem cachettelaw11_alive.run  {V : Value} {Q : World → Prop} {w : World} (h : cachettelaw11_alive.N  (fun v w' => v = V ∧ Q w') w) : Calls Try.prog 6 #[] w (Ret V Q) := (cachettelaw11_alive.go  h).mono fun e w' ⟨v, he, hv, hq⟩ => ⟨by rw [he, hv], hq⟩

/-- cachettelaw11.SnapshotPlays -/
def cachettelaw11_SnapshotPlays.M (n1 : Int) (k0 : Option Addr) (jw : Nat) (qy : Nat) (R : Value → World → Prop) (w : World) : Prop :=
 bif decide (n1 < 6) then (
 Calls Try.prog 6 #[] w fun s3 s2 => ∃ (ji : Bool), s3 = .returned (.bool ji) ∧
 R (.bool ji) s2) else (
 bif decide (n1 > 60) then (
 Calls Try.prog 6 #[] w fun qz s0 => ∃ (jj : Bool), qz = .returned (.bool jj) ∧
 R (.bool jj) s0) else (
 Calls Try.prog 5 #[.slice k0 jw qy] w fun q4 nm => ∃ (js : Bool), q4 = .returned (.bool js) ∧
 bif !js then (
 Calls Try.prog 6 #[] nm fun qt qs => ∃ (gn : Bool), qt = .returned (.bool gn) ∧
 R (.bool gn) qs) else (
 Calls Try.prog 7 #[.int .i64 n1] nm fun q6 qh => ∃ (aa : Option Addr) (oj : Int), q6 = .returned (.tuple #[.pointer aa, .int .i64 oj]) ∧
 Calls Try.prog 8 #[.pointer aa] qh fun q2 mq => ∃ (a1 : Option Addr) (jc : Option Addr) (jm : Nat) (ju : Nat) (jk : Option Addr) (jf : Nat) (jn : Nat) (ih : Int), q2 = .returned (.tuple #[.pointer a1, .slice jc jm ju, .slice jk jf jn, .int .i64 ih]) ∧
 bif ih != 0 then (
 R (.bool false) mq) else (
 2 ≠ (0 : Int) ∧ ∃ (I0 : Nat → List Value → World → Prop) (qv : Nat), I0 qv [.slice none 0 0, .slice none 0 0, .int .u32 1, .int .i64 (IntKind.i64.wrap ((IntKind.i64.wrap (Int.tdiv (IntKind.i64.wrap (n1 - 2)) 2)) - 1)), .int .i64 0] mq ∧ ∀ (jx : Nat) (k3 : World) (a4 : Option Addr) (a3 : Nat) (a2 : Nat) (a6 : Option Addr) (a5 : Nat) (a7 : Nat) (a0 : Int) (a8 : Int) (ak : Int), I0 jx [.slice a4 a3 a2, .slice a6 a5 a7, .int .u32 a0, .int .i64 a8, .int .i64 ak] k3 →
 bif decide (ak < (jw : Int)) then (
 k0.elim False fun qx =>
 0 ≤ (ak : Int) ∧ (ak : Int) < (jw : Int) ∧
 ∃ (qm : Option Addr) (p5 : Nat) (qa : Nat), k3.cell? ((qx.add (Int.toNat ak * 4)).add 1) = some (.slice qm p5 qa) ∧
 Calls Try.prog 9 #[.int .i64 (p5 : Int)] k3 fun qb jv => ∃ (a9 : Int), qb = .returned (.int .i64 a9) ∧
 k0.elim False fun s1 =>
 0 ≤ (ak : Int) ∧ (ak : Int) < (jw : Int) ∧
 ∃ (jl : Int), jv.cell? ((s1.add (Int.toNat ak * 4)).add 0) = some (.int .i64 jl) ∧
 bif jl == 1 then (
 k0.elim False fun qw =>
 0 ≤ (ak : Int) ∧ (ak : Int) < (jw : Int) ∧
 ∃ (n3 : Option Addr) (p2 : Nat) (ng : Nat), jv.cell? ((qw.add (Int.toNat ak * 4)).add 1) = some (.slice n3 p2 ng) ∧
 Calls Try.prog 10 #[.pointer a1, .slice n3 p2 ng] jv fun qo g8 => ∃ (ab : Int), qo = .returned (.int .i64 ab) ∧
 bif !((ab == 0) == (decide (a9 ≤ (IntKind.i64.wrap (Int.tdiv (IntKind.i64.wrap (n1 - 2)) 2))))) then (
 R (.bool false) g8) else (
 bif ab != 0 then (
 bif ab != 18 then (
 R (.bool false) g8) else (
 bif ab == 0 then (
 k0.elim False fun s4 =>
 0 ≤ (ak : Int) ∧ (ak : Int) < (jw : Int) ∧
 ∃ (k2 : Option Addr) (jz : Nat) (k1 : Nat), g8.cell? ((s4.add (Int.toNat ak * 4)).add 1) = some (.slice k2 jz k1) ∧
 Calls Try.prog 13 #[.pointer aa] g8 fun qn qp => ∃ (ck : Option Addr) (cu : Nat) (cp : Nat), qn = .returned (.slice ck cu cp) ∧
 Calls Try.prog 12 #[.slice ck cu cp] qp fun ql am => ∃ (ft : Int) (ia : Option Addr) (it : Nat) (ii : Nat) (cv : Option Addr) (cq : Nat) (cr : Nat) (ja : Int) (oh : Int), ql = .returned (.agg #[.int .u32 ft, .slice ia it ii, .slice cv cq cr, .int .i64 ja, .int .i64 oh]) ∧
 thenW (am.alloc (.cells #[.int .u32 0, .slice none 0 0, .slice none 0 0, .int .i64 0, .int .i64 0] 41)) fun ox =>
 canStore ox ((blk am.heap.size).add 0) ∧
 thenW (ox.setCell ((blk am.heap.size).add 0) (.int .u32 ft)) fun o4 =>
 canStore o4 ((blk am.heap.size).add 1) ∧
 thenW (o4.setCell ((blk am.heap.size).add 1) (.slice ia it ii)) fun my =>
 canStore my ((blk am.heap.size).add 2) ∧
 thenW (my.setCell ((blk am.heap.size).add 2) (.slice cv cq cr)) fun pl =>
 canStore pl ((blk am.heap.size).add 3) ∧
 thenW (pl.setCell ((blk am.heap.size).add 3) (.int .i64 ja)) fun ns =>
 canStore ns ((blk am.heap.size).add 4) ∧
 thenW (ns.setCell ((blk am.heap.size).add 4) (.int .i64 oh)) fun qi =>
 Calls Try.prog 14 #[.pointer aa] qi fun q7 q1 => ∃ (jr : Option Addr), q7 = .returned (.pointer jr) ∧
 Calls Try.prog 8 #[.pointer jr] q1 fun q3 qj => ∃ (jy : Option Addr) (f6 : Option Addr) (g0 : Nat) (gh : Nat) (eu : Option Addr) (fu : Nat) (ez : Nat) (j3 : Int), q3 = .returned (.tuple #[.pointer jy, .slice f6 g0 gh, .slice eu fu ez, .int .i64 j3]) ∧
 Calls Try.prog 15 #[.pointer a1] qj fun qq ph => ∃ (gr : Int), qq = .returned (.int .i64 gr) ∧
 bif gr != (0 : Int) then (
 R (.bool false) ph) else (
 Calls Try.prog 16 #[.pointer a1] ph fun q9 nh => ∃ (jh : Int), q9 = .returned (.int .i64 jh) ∧
 bif jh != (IntKind.i64.wrap ((IntKind.i64.wrap (Int.tdiv (IntKind.i64.wrap (n1 - 2)) 2)) - a9)) then (
 R (.bool false) nh) else (
 Calls Try.prog 17 #[.pointer a1] nh fun qd eo => ∃ (g3 : Int), qd = .returned (.int .u32 g3) ∧
 bif g3 != (IntKind.u32.wrap (a0 + 1)) then (
 R (.bool false) eo) else (
 ∃ (na : Int), eo.cell? ((blk am.heap.size).add 4) = some (.int .i64 na) ∧
 bif na != 0 then (
 R (.bool false) eo) else (
 bif j3 != 0 then (
 R (.bool false) eo) else (
 ∃ (fo : Int), eo.cell? ((blk am.heap.size).add 0) = some (.int .u32 fo) ∧
 bif fo != (IntKind.u32.wrap (a0 + 1)) then (
 R (.bool false) eo) else (
 ∃ (gv : Option Addr) (im : Nat) (i5 : Nat), eo.cell? ((blk am.heap.size).add 1) = some (.slice gv im i5) ∧
 ∃ (cw : Option Addr) (cm : Nat) (ci : Nat), eo.cell? ((blk am.heap.size).add 2) = some (.slice cw cm ci) ∧
 Calls Try.prog 18 #[.slice gv im i5, .slice cw cm ci, .slice k2 jz k1, .slice none 0 0] eo fun qe pb => ∃ (jq : Bool), qe = .returned (.bool jq) ∧
 bif !jq then (
 R (.bool false) pb) else (
 Calls Try.prog 18 #[.slice f6 g0 gh, .slice eu fu ez, .slice k2 jz k1, .slice none 0 0] pb fun qk pd => ∃ (jt : Bool), qk = .returned (.bool jt) ∧
 bif !jt then (
 R (.bool false) pd) else (
 ∃ qu, qu < jx ∧ I0 qu [.slice k2 jz k1, .slice none 0 0, .int .u32 (IntKind.u32.wrap (a0 + 1)), .int .i64 (IntKind.i64.wrap ((IntKind.i64.wrap (Int.tdiv (IntKind.i64.wrap (n1 - 2)) 2)) - a9)), .int .i64 (IntKind.i64.wrap (ak + 1))] pd))))))))) else (
 Calls Try.prog 13 #[.pointer aa] g8 fun qg qf => ∃ (co : Option Addr) (cj : Nat) (ct : Nat), qg = .returned (.slice co cj ct) ∧
 Calls Try.prog 12 #[.slice co cj ct] qf fun mr ai => ∃ (g9 : Int) (gz : Option Addr) (i1 : Nat) (iz : Nat) (cl : Option Addr) (cn : Nat) (cs : Nat) (jp : Int) (pc : Int), mr = .returned (.agg #[.int .u32 g9, .slice gz i1 iz, .slice cl cn cs, .int .i64 jp, .int .i64 pc]) ∧
 thenW (ai.alloc (.cells #[.int .u32 0, .slice none 0 0, .slice none 0 0, .int .i64 0, .int .i64 0] 41)) fun k6 =>
 canStore k6 ((blk ai.heap.size).add 0) ∧
 thenW (k6.setCell ((blk ai.heap.size).add 0) (.int .u32 g9)) fun ky =>
 canStore ky ((blk ai.heap.size).add 1) ∧
 thenW (ky.setCell ((blk ai.heap.size).add 1) (.slice gz i1 iz)) fun lx =>
 canStore lx ((blk ai.heap.size).add 2) ∧
 thenW (lx.setCell ((blk ai.heap.size).add 2) (.slice cl cn cs)) fun kw =>
 canStore kw ((blk ai.heap.size).add 3) ∧
 thenW (kw.setCell ((blk ai.heap.size).add 3) (.int .i64 jp)) fun l6 =>
 canStore l6 ((blk ai.heap.size).add 4) ∧
 thenW (l6.setCell ((blk ai.heap.size).add 4) (.int .i64 pc)) fun mp =>
 Calls Try.prog 14 #[.pointer aa] mp fun pq pt => ∃ (j5 : Option Addr), pq = .returned (.pointer j5) ∧
 Calls Try.prog 8 #[.pointer j5] pt fun mn n5 => ∃ (jb : Option Addr) (d4 : Option Addr) (em : Nat) (e0 : Nat) (cx : Option Addr) (d0 : Nat) (dw : Nat) (fa : Int), mn = .returned (.tuple #[.pointer jb, .slice d4 em e0, .slice cx d0 dw, .int .i64 fa]) ∧
 Calls Try.prog 15 #[.pointer a1] n5 fun p4 l8 => ∃ (gc : Int), p4 = .returned (.int .i64 gc) ∧
 bif gc != (a5 : Int) then (
 R (.bool false) l8) else (
 Calls Try.prog 16 #[.pointer a1] l8 fun o3 k5 => ∃ (gu : Int), o3 = .returned (.int .i64 gu) ∧
 bif gu != a8 then (
 R (.bool false) k5) else (
 Calls Try.prog 17 #[.pointer a1] k5 fun mm av => ∃ (d5 : Int), mm = .returned (.int .u32 d5) ∧
 bif d5 != a0 then (
 R (.bool false) av) else (
 ∃ (ki : Int), av.cell? ((blk ai.heap.size).add 4) = some (.int .i64 ki) ∧
 bif ki != 0 then (
 R (.bool false) av) else (
 bif fa != 0 then (
 R (.bool false) av) else (
 ∃ (dq : Int), av.cell? ((blk ai.heap.size).add 0) = some (.int .u32 dq) ∧
 bif dq != a0 then (
 R (.bool false) av) else (
 ∃ (fj : Option Addr) (ge : Nat) (es : Nat), av.cell? ((blk ai.heap.size).add 1) = some (.slice fj ge es) ∧
 ∃ (c0 : Option Addr) (bw : Nat) (b2 : Nat), av.cell? ((blk ai.heap.size).add 2) = some (.slice c0 bw b2) ∧
 Calls Try.prog 18 #[.slice fj ge es, .slice c0 bw b2, .slice a4 a3 a2, .slice a6 a5 a7] av fun np m3 => ∃ (ie : Bool), np = .returned (.bool ie) ∧
 bif !ie then (
 R (.bool false) m3) else (
 Calls Try.prog 18 #[.slice d4 em e0, .slice cx d0 dw, .slice a4 a3 a2, .slice a6 a5 a7] m3 fun p8 ll => ∃ (ig : Bool), p8 = .returned (.bool ig) ∧
 bif !ig then (
 R (.bool false) ll) else (
 ∃ mt, mt < jx ∧ I0 mt [.slice a4 a3 a2, .slice a6 a5 a7, .int .u32 a0, .int .i64 a8, .int .i64 (IntKind.i64.wrap (ak + 1))] ll))))))))))) else (
 bif ab == 0 then (
 k0.elim False fun q8 =>
 0 ≤ (ak : Int) ∧ (ak : Int) < (jw : Int) ∧
 ∃ (i3 : Option Addr) (i7 : Nat) (j4 : Nat), g8.cell? ((q8.add (Int.toNat ak * 4)).add 1) = some (.slice i3 i7 j4) ∧
 Calls Try.prog 13 #[.pointer aa] g8 fun ob nl => ∃ (c6 : Option Addr) (ce : Nat) (bc : Nat), ob = .returned (.slice c6 ce bc) ∧
 Calls Try.prog 12 #[.slice c6 ce bc] nl fun n2 ah => ∃ (e5 : Int) (fy : Option Addr) (f2 : Nat) (fp : Nat) (az : Option Addr) (b4 : Nat) (c3 : Nat) (ik : Int) (lw : Int), n2 = .returned (.agg #[.int .u32 e5, .slice fy f2 fp, .slice az b4 c3, .int .i64 ik, .int .i64 lw]) ∧
 thenW (ah.alloc (.cells #[.int .u32 0, .slice none 0 0, .slice none 0 0, .int .i64 0, .int .i64 0] 41)) fun ma =>
 canStore ma ((blk ah.heap.size).add 0) ∧
 thenW (ma.setCell ((blk ah.heap.size).add 0) (.int .u32 e5)) fun lh =>
 canStore lh ((blk ah.heap.size).add 1) ∧
 thenW (lh.setCell ((blk ah.heap.size).add 1) (.slice fy f2 fp)) fun m4 =>
 canStore m4 ((blk ah.heap.size).add 2) ∧
 thenW (m4.setCell ((blk ah.heap.size).add 2) (.slice az b4 c3)) fun m7 =>
 canStore m7 ((blk ah.heap.size).add 3) ∧
 thenW (m7.setCell ((blk ah.heap.size).add 3) (.int .i64 ik)) fun kc =>
 canStore kc ((blk ah.heap.size).add 4) ∧
 thenW (kc.setCell ((blk ah.heap.size).add 4) (.int .i64 lw)) fun p6 =>
 Calls Try.prog 14 #[.pointer aa] p6 fun nw ni => ∃ (ij : Option Addr), nw = .returned (.pointer ij) ∧
 Calls Try.prog 8 #[.pointer ij] ni fun pu nv => ∃ (jo : Option Addr) (ei : Option Addr) (dt : Nat) (df : Nat) (dk : Option Addr) (e6 : Nat) (e1 : Nat) (fv : Int), pu = .returned (.tuple #[.pointer jo, .slice ei dt df, .slice dk e6 e1, .int .i64 fv]) ∧
 Calls Try.prog 15 #[.pointer a1] nv fun nf k4 => ∃ (g5 : Int), nf = .returned (.int .i64 g5) ∧
 bif g5 != (0 : Int) then (
 R (.bool false) k4) else (
 Calls Try.prog 16 #[.pointer a1] k4 fun pn m1 => ∃ (i2 : Int), pn = .returned (.int .i64 i2) ∧
 bif i2 != (IntKind.i64.wrap ((IntKind.i64.wrap (Int.tdiv (IntKind.i64.wrap (n1 - 2)) 2)) - a9)) then (
 R (.bool false) m1) else (
 Calls Try.prog 17 #[.pointer a1] m1 fun ov ar => ∃ (e3 : Int), ov = .returned (.int .u32 e3) ∧
 bif e3 != (IntKind.u32.wrap (a0 + 1)) then (
 R (.bool false) ar) else (
 ∃ (lo : Int), ar.cell? ((blk ah.heap.size).add 4) = some (.int .i64 lo) ∧
 bif lo != 0 then (
 R (.bool false) ar) else (
 bif fv != 0 then (
 R (.bool false) ar) else (
 ∃ (cz : Int), ar.cell? ((blk ah.heap.size).add 0) = some (.int .u32 cz) ∧
 bif cz != (IntKind.u32.wrap (a0 + 1)) then (
 R (.bool false) ar) else (
 ∃ (er : Option Addr) (f7 : Nat) (gk : Nat), ar.cell? ((blk ah.heap.size).add 1) = some (.slice er f7 gk) ∧
 ∃ (ay : Option Addr) (bv : Nat) (b3 : Nat), ar.cell? ((blk ah.heap.size).add 2) = some (.slice ay bv b3) ∧
 Calls Try.prog 18 #[.slice er f7 gk, .slice ay bv b3, .slice i3 i7 j4, .slice none 0 0] ar fun ps kh => ∃ (i4 : Bool), ps = .returned (.bool i4) ∧
 bif !i4 then (
 R (.bool false) kh) else (
 Calls Try.prog 18 #[.slice ei dt df, .slice dk e6 e1, .slice i3 i7 j4, .slice none 0 0] kh fun n8 l9 => ∃ (ip : Bool), n8 = .returned (.bool ip) ∧
 bif !ip then (
 R (.bool false) l9) else (
 ∃ p7, p7 < jx ∧ I0 p7 [.slice i3 i7 j4, .slice none 0 0, .int .u32 (IntKind.u32.wrap (a0 + 1)), .int .i64 (IntKind.i64.wrap ((IntKind.i64.wrap (Int.tdiv (IntKind.i64.wrap (n1 - 2)) 2)) - a9)), .int .i64 (IntKind.i64.wrap (ak + 1))] l9))))))))) else (
 Calls Try.prog 13 #[.pointer aa] g8 fun oe p3 => ∃ (c9 : Option Addr) (b0 : Nat) (cg : Nat), oe = .returned (.slice c9 b0 cg) ∧
 Calls Try.prog 12 #[.slice c9 b0 cg] p3 fun pa ae => ∃ (dg : Int) (fi : Option Addr) (fd : Nat) (fl : Nat) (b9 : Option Addr) (bd : Nat) (b1 : Nat) (gs : Int) (lp : Int), pa = .returned (.agg #[.int .u32 dg, .slice fi fd fl, .slice b9 bd b1, .int .i64 gs, .int .i64 lp]) ∧
 thenW (ae.alloc (.cells #[.int .u32 0, .slice none 0 0, .slice none 0 0, .int .i64 0, .int .i64 0] 41)) fun k7 =>
 canStore k7 ((blk ae.heap.size).add 0) ∧
 thenW (k7.setCell ((blk ae.heap.size).add 0) (.int .u32 dg)) fun li =>
 canStore li ((blk ae.heap.size).add 1) ∧
 thenW (li.setCell ((blk ae.heap.size).add 1) (.slice fi fd fl)) fun kt =>
 canStore kt ((blk ae.heap.size).add 2) ∧
 thenW (kt.setCell ((blk ae.heap.size).add 2) (.slice b9 bd b1)) fun kl =>
 canStore kl ((blk ae.heap.size).add 3) ∧
 thenW (kl.setCell ((blk ae.heap.size).add 3) (.int .i64 gs)) fun kd =>
 canStore kd ((blk ae.heap.size).add 4) ∧
 thenW (kd.setCell ((blk ae.heap.size).add 4) (.int .i64 lp)) fun oy =>
 Calls Try.prog 14 #[.pointer aa] oy fun oa px => ∃ (gp : Option Addr), oa = .returned (.pointer gp) ∧
 Calls Try.prog 8 #[.pointer gp] px fun q0 o0 => ∃ (j9 : Option Addr) (ea : Option Addr) (ds : Nat) (dp : Nat) (dx : Option Addr) (d6 : Nat) (ed : Nat) (ev : Int), q0 = .returned (.tuple #[.pointer j9, .slice ea ds dp, .slice dx d6 ed, .int .i64 ev]) ∧
 Calls Try.prog 15 #[.pointer a1] o0 fun ny lf => ∃ (g2 : Int), ny = .returned (.int .i64 g2) ∧
 bif g2 != (a5 : Int) then (
 R (.bool false) lf) else (
 Calls Try.prog 16 #[.pointer a1] lf fun o7 lv => ∃ (iy : Int), o7 = .returned (.int .i64 iy) ∧
 bif iy != a8 then (
 R (.bool false) lv) else (
 Calls Try.prog 17 #[.pointer a1] lv fun oq au => ∃ (d3 : Int), oq = .returned (.int .u32 d3) ∧
 bif d3 != a0 then (
 R (.bool false) au) else (
 ∃ (ly : Int), au.cell? ((blk ae.heap.size).add 4) = some (.int .i64 ly) ∧
 bif ly != 0 then (
 R (.bool false) au) else (
 bif ev != 0 then (
 R (.bool false) au) else (
 ∃ (dh : Int), au.cell? ((blk ae.heap.size).add 0) = some (.int .u32 dh) ∧
 bif dh != a0 then (
 R (.bool false) au) else (
 ∃ (gi : Option Addr) (gb : Nat) (f9 : Nat), au.cell? ((blk ae.heap.size).add 1) = some (.slice gi gb f9) ∧
 ∃ (b6 : Option Addr) (c1 : Nat) (c2 : Nat), au.cell? ((blk ae.heap.size).add 2) = some (.slice b6 c1 c2) ∧
 Calls Try.prog 18 #[.slice gi gb f9, .slice b6 c1 c2, .slice a4 a3 a2, .slice a6 a5 a7] au fun mk km => ∃ (gx : Bool), mk = .returned (.bool gx) ∧
 bif !gx then (
 R (.bool false) km) else (
 Calls Try.prog 18 #[.slice ea ds dp, .slice dx d6 ed, .slice a4 a3 a2, .slice a6 a5 a7] km fun pi md => ∃ (ir : Bool), pi = .returned (.bool ir) ∧
 bif !ir then (
 R (.bool false) md) else (
 ∃ n4, n4 < jx ∧ I0 n4 [.slice a4 a3 a2, .slice a6 a5 a7, .int .u32 a0, .int .i64 a8, .int .i64 (IntKind.i64.wrap (ak + 1))] md)))))))))))) else (
 k0.elim False fun qr =>
 0 ≤ (ak : Int) ∧ (ak : Int) < (jw : Int) ∧
 ∃ (kq : Option Addr) (kz : Nat) (lq : Nat), jv.cell? ((qr.add (Int.toNat ak * 4)).add 1) = some (.slice kq kz lq) ∧
 Calls Try.prog 11 #[.pointer a1, .slice kq kz lq] jv fun pm al => ∃ (ac : Int), pm = .returned (.int .i64 ac) ∧
 bif !((ac == 0) == (decide (a9 ≤ a8))) then (
 R (.bool false) al) else (
 bif ac != 0 then (
 bif ac != 18 then (
 R (.bool false) al) else (
 bif ac == 0 then (
 k0.elim False fun q5 =>
 0 ≤ (ak : Int) ∧ (ak : Int) < (jw : Int) ∧
 ∃ (mi : Option Addr) (me : Nat) (ku : Nat), al.cell? ((q5.add (Int.toNat ak * 4)).add 1) = some (.slice mi me ku) ∧
 thenW (al.alloc (.cells #[.slice mi me ku] 30)) fun nz =>
 ∃ (iv : Option Addr) (ey : Nat) (j1 : Nat) (m6 : World), (Builtin.append_ #[31, 31] 31 #[.slice a6 a5 a7, .slice (some (blk al.heap.size)) 1 1]).run Try.prog nz = .ok (.slice iv ey j1) m6 ∧
 Calls Try.prog 13 #[.pointer aa] m6 fun nq n7 => ∃ (be : Option Addr) (ca : Nat) (bl : Nat), nq = .returned (.slice be ca bl) ∧
 Calls Try.prog 12 #[.slice be ca bl] n7 fun mu aj => ∃ (d2 : Int) (g6 : Option Addr) (f0 : Nat) (fh : Nat) (b7 : Option Addr) (bt : Nat) (bf : Nat) (gq : Int) (lk : Int), mu = .returned (.agg #[.int .u32 d2, .slice g6 f0 fh, .slice b7 bt bf, .int .i64 gq, .int .i64 lk]) ∧
 thenW (aj.alloc (.cells #[.int .u32 0, .slice none 0 0, .slice none 0 0, .int .i64 0, .int .i64 0] 41)) fun l3 =>
 canStore l3 ((blk aj.heap.size).add 0) ∧
 thenW (l3.setCell ((blk aj.heap.size).add 0) (.int .u32 d2)) fun lc =>
 canStore lc ((blk aj.heap.size).add 1) ∧
 thenW (lc.setCell ((blk aj.heap.size).add 1) (.slice g6 f0 fh)) fun mb =>
 canStore mb ((blk aj.heap.size).add 2) ∧
 thenW (mb.setCell ((blk aj.heap.size).add 2) (.slice b7 bt bf)) fun kg =>
 canStore kg ((blk aj.heap.size).add 3) ∧
 thenW (kg.setCell ((blk aj.heap.size).add 3) (.int .i64 gq)) fun ke =>
 canStore ke ((blk aj.heap.size).add 4) ∧
 thenW (ke.setCell ((blk aj.heap.size).add 4) (.int .i64 lk)) fun n9 =>
 Calls Try.prog 14 #[.pointer aa] n9 fun p9 o1 => ∃ (gm : Option Addr), p9 = .returned (.pointer gm) ∧
 Calls Try.prog 8 #[.pointer gm] o1 fun ol nb => ∃ (jg : Option Addr) (d8 : Option Addr) (e7 : Nat) (d7 : Nat) (ec : Option Addr) (dr : Nat) (e4 : Nat) (f4 : Int), ol = .returned (.tuple #[.pointer jg, .slice d8 e7 d7, .slice ec dr e4, .int .i64 f4]) ∧
 Calls Try.prog 15 #[.pointer a1] nb fun pj mh => ∃ (fz : Int), pj = .returned (.int .i64 fz) ∧
 bif fz != (ey : Int) then (
 R (.bool false) mh) else (
 Calls Try.prog 16 #[.pointer a1] mh fun nj ls => ∃ (il : Int), nj = .returned (.int .i64 il) ∧
 bif il != (IntKind.i64.wrap (a8 - a9)) then (
 R (.bool false) ls) else (
 Calls Try.prog 17 #[.pointer a1] ls fun n6 aq => ∃ (du : Int), n6 = .returned (.int .u32 du) ∧
 bif du != a0 then (
 R (.bool false) aq) else (
 ∃ (kp : Int), aq.cell? ((blk aj.heap.size).add 4) = some (.int .i64 kp) ∧
 bif kp != 0 then (
 R (.bool false) aq) else (
 bif f4 != 0 then (
 R (.bool false) aq) else (
 ∃ (dy : Int), aq.cell? ((blk aj.heap.size).add 0) = some (.int .u32 dy) ∧
 bif dy != a0 then (
 R (.bool false) aq) else (
 ∃ (fe : Option Addr) (ew : Nat) (fc : Nat), aq.cell? ((blk aj.heap.size).add 1) = some (.slice fe ew fc) ∧
 ∃ (bn : Option Addr) (bo : Nat) (ba : Nat), aq.cell? ((blk aj.heap.size).add 2) = some (.slice bn bo ba) ∧
 Calls Try.prog 18 #[.slice fe ew fc, .slice bn bo ba, .slice a4 a3 a2, .slice iv ey j1] aq fun oo l2 => ∃ (j2 : Bool), oo = .returned (.bool j2) ∧
 bif !j2 then (
 R (.bool false) l2) else (
 Calls Try.prog 18 #[.slice d8 e7 d7, .slice ec dr e4, .slice a4 a3 a2, .slice iv ey j1] l2 fun pp kf => ∃ (iw : Bool), pp = .returned (.bool iw) ∧
 bif !iw then (
 R (.bool false) kf) else (
 ∃ pg, pg < jx ∧ I0 pg [.slice a4 a3 a2, .slice iv ey j1, .int .u32 a0, .int .i64 (IntKind.i64.wrap (a8 - a9)), .int .i64 (IntKind.i64.wrap (ak + 1))] kf))))))))) else (
 Calls Try.prog 13 #[.pointer aa] al fun nk oi => ∃ (aw : Option Addr) (bx : Nat) (bm : Nat), nk = .returned (.slice aw bx bm) ∧
 Calls Try.prog 12 #[.slice aw bx bm] oi fun p0 ad => ∃ (eh : Int) (ff : Option Addr) (g4 : Nat) (fw : Nat) (bb : Option Addr) (bq : Nat) (bh : Nat) (iu : Int) (l0 : Int), p0 = .returned (.agg #[.int .u32 eh, .slice ff g4 fw, .slice bb bq bh, .int .i64 iu, .int .i64 l0]) ∧
 thenW (ad.alloc (.cells #[.int .u32 0, .slice none 0 0, .slice none 0 0, .int .i64 0, .int .i64 0] 41)) fun kj =>
 canStore kj ((blk ad.heap.size).add 0) ∧
 thenW (kj.setCell ((blk ad.heap.size).add 0) (.int .u32 eh)) fun m2 =>
 canStore m2 ((blk ad.heap.size).add 1) ∧
 thenW (m2.setCell ((blk ad.heap.size).add 1) (.slice ff g4 fw)) fun ln =>
 canStore ln ((blk ad.heap.size).add 2) ∧
 thenW (ln.setCell ((blk ad.heap.size).add 2) (.slice bb bq bh)) fun kk =>
 canStore kk ((blk ad.heap.size).add 3) ∧
 thenW (kk.setCell ((blk ad.heap.size).add 3) (.int .i64 iu)) fun lj =>
 canStore lj ((blk ad.heap.size).add 4) ∧
 thenW (lj.setCell ((blk ad.heap.size).add 4) (.int .i64 l0)) fun ou =>
 Calls Try.prog 14 #[.pointer aa] ou fun nu ne => ∃ (ix : Option Addr), nu = .returned (.pointer ix) ∧
 Calls Try.prog 8 #[.pointer ix] ne fun nx oz => ∃ (jd : Option Addr) (dv : Option Addr) (dj : Nat) (e9 : Nat) (dm : Option Addr) (de : Nat) (dc : Nat) (gj : Int), nx = .returned (.tuple #[.pointer jd, .slice dv dj e9, .slice dm de dc, .int .i64 gj]) ∧
 Calls Try.prog 15 #[.pointer a1] oz fun o6 lr => ∃ (g1 : Int), o6 = .returned (.int .i64 g1) ∧
 bif g1 != (a5 : Int) then (
 R (.bool false) lr) else (
 Calls Try.prog 16 #[.pointer a1] lr fun nd la => ∃ (i6 : Int), nd = .returned (.int .i64 i6) ∧
 bif i6 != a8 then (
 R (.bool false) la) else (
 Calls Try.prog 17 #[.pointer a1] la fun nr an => ∃ (db : Int), nr = .returned (.int .u32 db) ∧
 bif db != a0 then (
 R (.bool false) an) else (
 ∃ (m8 : Int), an.cell? ((blk ad.heap.size).add 4) = some (.int .i64 m8) ∧
 bif m8 != 0 then (
 R (.bool false) an) else (
 bif gj != 0 then (
 R (.bool false) an) else (
 ∃ (dd : Int), an.cell? ((blk ad.heap.size).add 0) = some (.int .u32 dd) ∧
 bif dd != a0 then (
 R (.bool false) an) else (
 ∃ (fq : Option Addr) (f5 : Nat) (gg : Nat), an.cell? ((blk ad.heap.size).add 1) = some (.slice fq f5 gg) ∧
 ∃ (c4 : Option Addr) (b5 : Nat) (bu : Nat), an.cell? ((blk ad.heap.size).add 2) = some (.slice c4 b5 bu) ∧
 Calls Try.prog 18 #[.slice fq f5 gg, .slice c4 b5 bu, .slice a4 a3 a2, .slice a6 a5 a7] an fun o9 kr => ∃ (i8 : Bool), o9 = .returned (.bool i8) ∧
 bif !i8 then (
 R (.bool false) kr) else (
 Calls Try.prog 18 #[.slice dv dj e9, .slice dm de dc, .slice a4 a3 a2, .slice a6 a5 a7] kr fun mj lt => ∃ (j7 : Bool), mj = .returned (.bool j7) ∧
 bif !j7 then (
 R (.bool false) lt) else (
 ∃ o8, o8 < jx ∧ I0 o8 [.slice a4 a3 a2, .slice a6 a5 a7, .int .u32 a0, .int .i64 a8, .int .i64 (IntKind.i64.wrap (ak + 1))] lt))))))))))) else (
 bif ac == 0 then (
 k0.elim False fun qc =>
 0 ≤ (ak : Int) ∧ (ak : Int) < (jw : Int) ∧
 ∃ (l1 : Option Addr) (mc : Nat) (ks : Nat), al.cell? ((qc.add (Int.toNat ak * 4)).add 1) = some (.slice l1 mc ks) ∧
 thenW (al.alloc (.cells #[.slice l1 mc ks] 30)) fun pv =>
 ∃ (io : Option Addr) (fs : Nat) (ic : Nat) (l4 : World), (Builtin.append_ #[31, 31] 31 #[.slice a6 a5 a7, .slice (some (blk al.heap.size)) 1 1]).run Try.prog pv = .ok (.slice io fs ic) l4 ∧
 Calls Try.prog 13 #[.pointer aa] l4 fun pw nc => ∃ (bg : Option Addr) (bs : Nat) (br : Nat), pw = .returned (.slice bg bs br) ∧
 Calls Try.prog 12 #[.slice bg bs br] nc fun pe af => ∃ (dz : Int) (et : Option Addr) (gd : Nat) (fx : Nat) (cb : Option Addr) (bk : Nat) (ax : Nat) (gy : Int) (k8 : Int), pe = .returned (.agg #[.int .u32 dz, .slice et gd fx, .slice cb bk ax, .int .i64 gy, .int .i64 k8]) ∧
 thenW (af.alloc (.cells #[.int .u32 0, .slice none 0 0, .slice none 0 0, .int .i64 0, .int .i64 0] 41)) fun m5 =>
 canStore m5 ((blk af.heap.size).add 0) ∧
 thenW (m5.setCell ((blk af.heap.size).add 0) (.int .u32 dz)) fun m0 =>
 canStore m0 ((blk af.heap.size).add 1) ∧
 thenW (m0.setCell ((blk af.heap.size).add 1) (.slice et gd fx)) fun le =>
 canStore le ((blk af.heap.size).add 2) ∧
 thenW (le.setCell ((blk af.heap.size).add 2) (.slice cb bk ax)) fun kb =>
 canStore kb ((blk af.heap.size).add 3) ∧
 thenW (kb.setCell ((blk af.heap.size).add 3) (.int .i64 gy)) fun l7 =>
 canStore l7 ((blk af.heap.size).add 4) ∧
 thenW (l7.setCell ((blk af.heap.size).add 4) (.int .i64 k8)) fun ot =>
 Calls Try.prog 14 #[.pointer aa] ot fun ml oc => ∃ (iq : Option Addr), ml = .returned (.pointer iq) ∧
 Calls Try.prog 8 #[.pointer iq] oc fun o2 ow => ∃ (je : Option Addr) (dl : Option Addr) (di : Nat) (ej : Nat) (d9 : Option Addr) (eg : Nat) (e8 : Nat) (fk : Int), o2 = .returned (.tuple #[.pointer je, .slice dl di ej, .slice d9 eg e8, .int .i64 fk]) ∧
 Calls Try.prog 15 #[.pointer a1] ow fun p1 lu => ∃ (ep : Int), p1 = .returned (.int .i64 ep) ∧
 bif ep != (fs : Int) then (
 R (.bool false) lu) else (
 Calls Try.prog 16 #[.pointer a1] lu fun pk ld => ∃ (j0 : Int), pk = .returned (.int .i64 j0) ∧
 bif j0 != (IntKind.i64.wrap (a8 - a9)) then (
 R (.bool false) ld) else (
 Calls Try.prog 17 #[.pointer a1] ld fun pf ao => ∃ (dn : Int), pf = .returned (.int .u32 dn) ∧
 bif dn != a0 then (
 R (.bool false) ao) else (
 ∃ (kx : Int), ao.cell? ((blk af.heap.size).add 4) = some (.int .i64 kx) ∧
 bif kx != 0 then (
 R (.bool false) ao) else (
 bif fk != 0 then (
 R (.bool false) ao) else (
 ∃ (en : Int), ao.cell? ((blk af.heap.size).add 0) = some (.int .u32 en) ∧
 bif en != a0 then (
 R (.bool false) ao) else (
 ∃ (g7 : Option Addr) (f1 : Nat) (ex : Nat), ao.cell? ((blk af.heap.size).add 1) = some (.slice g7 f1 ex) ∧
 ∃ (ch : Option Addr) (bp : Nat) (cf : Nat), ao.cell? ((blk af.heap.size).add 2) = some (.slice ch bp cf) ∧
 Calls Try.prog 18 #[.slice g7 f1 ex, .slice ch bp cf, .slice a4 a3 a2, .slice io fs ic] ao fun nt lz => ∃ (gw : Bool), nt = .returned (.bool gw) ∧
 bif !gw then (
 R (.bool false) lz) else (
 Calls Try.prog 18 #[.slice dl di ej, .slice d9 eg e8, .slice a4 a3 a2, .slice io fs ic] lz fun od k9 => ∃ (j6 : Bool), od = .returned (.bool j6) ∧
 bif !j6 then (
 R (.bool false) k9) else (
 ∃ mv, mv < jx ∧ I0 mv [.slice a4 a3 a2, .slice io fs ic, .int .u32 a0, .int .i64 (IntKind.i64.wrap (a8 - a9)), .int .i64 (IntKind.i64.wrap (ak + 1))] k9))))))))) else (
 Calls Try.prog 13 #[.pointer aa] al fun op pr => ∃ (cc : Option Addr) (bz : Nat) (c5 : Nat), op = .returned (.slice cc bz c5) ∧
 Calls Try.prog 12 #[.slice cc bz c5] pr fun py ag => ∃ (da : Int) (gf : Option Addr) (f8 : Nat) (ga : Nat) (cd : Option Addr) (c8 : Nat) (bj : Nat) (gt : Int) (m9 : Int), py = .returned (.agg #[.int .u32 da, .slice gf f8 ga, .slice cd c8 bj, .int .i64 gt, .int .i64 m9]) ∧
 thenW (ag.alloc (.cells #[.int .u32 0, .slice none 0 0, .slice none 0 0, .int .i64 0, .int .i64 0] 41)) fun ka =>
 canStore ka ((blk ag.heap.size).add 0) ∧
 thenW (ka.setCell ((blk ag.heap.size).add 0) (.int .u32 da)) fun lm =>
 canStore lm ((blk ag.heap.size).add 1) ∧
 thenW (lm.setCell ((blk ag.heap.size).add 1) (.slice gf f8 ga)) fun kn =>
 canStore kn ((blk ag.heap.size).add 2) ∧
 thenW (kn.setCell ((blk ag.heap.size).add 2) (.slice cd c8 bj)) fun lb =>
 canStore lb ((blk ag.heap.size).add 3) ∧
 thenW (lb.setCell ((blk ag.heap.size).add 3) (.int .i64 gt)) fun l5 =>
 canStore l5 ((blk ag.heap.size).add 4) ∧
 thenW (l5.setCell ((blk ag.heap.size).add 4) (.int .i64 m9)) fun mx =>
 Calls Try.prog 14 #[.pointer aa] mx fun og pz => ∃ (ib : Option Addr), og = .returned (.pointer ib) ∧
 Calls Try.prog 8 #[.pointer ib] pz fun po n0 => ∃ (j8 : Option Addr) (eb : Option Addr) (el : Nat) (ek : Nat) (ee : Option Addr) (ef : Nat) (d1 : Nat) (fr : Int), po = .returned (.tuple #[.pointer j8, .slice eb el ek, .slice ee ef d1, .int .i64 fr]) ∧
 Calls Try.prog 15 #[.pointer a1] n0 fun mw kv => ∃ (f3 : Int), mw = .returned (.int .i64 f3) ∧
 bif f3 != (a5 : Int) then (
 R (.bool false) kv) else (
 Calls Try.prog 16 #[.pointer a1] kv fun nn mg => ∃ (gl : Int), nn = .returned (.int .i64 gl) ∧
 bif gl != a8 then (
 R (.bool false) mg) else (
 Calls Try.prog 17 #[.pointer a1] mg fun o5 ap => ∃ (e2 : Int), o5 = .returned (.int .u32 e2) ∧
 bif e2 != a0 then (
 R (.bool false) ap) else (
 ∃ (ko : Int), ap.cell? ((blk ag.heap.size).add 4) = some (.int .i64 ko) ∧
 bif ko != 0 then (
 R (.bool false) ap) else (
 bif fr != 0 then (
 R (.bool false) ap) else (
 ∃ (cy : Int), ap.cell? ((blk ag.heap.size).add 0) = some (.int .u32 cy) ∧
 bif cy != a0 then (
 R (.bool false) ap) else (
 ∃ (fg : Option Addr) (fm : Nat) (fb : Nat), ap.cell? ((blk ag.heap.size).add 1) = some (.slice fg fm fb) ∧
 ∃ (bi : Option Addr) (b8 : Nat) (c7 : Nat), ap.cell? ((blk ag.heap.size).add 2) = some (.slice bi b8 c7) ∧
 Calls Try.prog 18 #[.slice fg fm fb, .slice bi b8 c7, .slice a4 a3 a2, .slice a6 a5 a7] ap fun mz mf => ∃ (i0 : Bool), mz = .returned (.bool i0) ∧
 bif !i0 then (
 R (.bool false) mf) else (
 Calls Try.prog 18 #[.slice eb el ek, .slice ee ef d1, .slice a4 a3 a2, .slice a6 a5 a7] mf fun om lg => ∃ (i9 : Bool), om = .returned (.bool i9) ∧
 bif !i9 then (
 R (.bool false) lg) else (
 ∃ os, os < jx ∧ I0 os [.slice a4 a3 a2, .slice a6 a5 a7, .int .u32 a0, .int .i64 a8, .int .i64 (IntKind.i64.wrap (ak + 1))] lg))))))))))))) else (
 Calls Try.prog 6 #[] k3 fun ms mo => ∃ (eq : Bool), ms = .returned (.bool eq) ∧
 R (.bool eq) mo)))))

theorem cachettelaw11_SnapshotPlays.eq (n1 : Int) (l2a : Option Addr) (l2n : Nat) (l2c : Nat) (R : Value → World → Prop) (w : World) : mfunc Try.prog [(0, [1, 5, 7, 11], [(12, (.one .slice)), (13, (.one .slice)), (14, (.one (.int .u32))), (15, (.one (.int .i64))), (16, (.one (.int .i64)))])] 3 [.int .i64 n1, .slice l2a l2n l2c] R w = cachettelaw11_SnapshotPlays.M n1 l2a l2n l2c R w := by kernel_rfl
theorem cachettelaw11_SnapshotPlays.ok (n1 : Int) (a1 : Option Addr) (a2 : Nat) (a0 : Nat) {R : Value → World → Prop} {w : World} (h : cachettelaw11_SnapshotPlays.M n1 a1 a2 a0 R w) : Calls Try.prog 3 #[.int .i64 n1, .slice a1 a2 a0] w fun e w' => ∃ v, e = .returned v ∧ R v w' :=
  mfunc_ok follows (H := [(0, [1, 5, 7, 11], [(12, (.one .slice)), (13, (.one .slice)), (14, (.one (.int .u32))), (15, (.one (.int .i64))), (16, (.one (.int .i64)))])]) (args := [.int .i64 n1, .slice a1 a2 a0]) (by rw [cachettelaw11_SnapshotPlays.eq]; exact h)

def cachettelaw11_SnapshotPlays.N (n1 : Int) (ia : Option Addr) (el : Nat) (ih : Nat) (R : Value → World → Prop) (w : World) : Prop :=
 (n1 < 6 →
 Calls Try.prog 6 #[] w fun ig ie => ∃ (ef : Bool), ig = .returned (.bool ef) ∧
 R (.bool ef) ie) ∧
 ((6 : Int) ≤ n1 →
 (n1 > 60 →
 Calls Try.prog 6 #[] w fun ib i7 => ∃ (e9 : Bool), ib = .returned (.bool e9) ∧
 R (.bool e9) i7) ∧
 (n1 ≤ 60 →
 Calls Try.prog 5 #[.slice ia el ih] w fun i2 fz => ∃ (cb : Bool), i2 = .returned (.bool cb) ∧
 (cb = false →
 Calls Try.prog 6 #[] fz fun i5 gz => ∃ (dg : Bool), i5 = .returned (.bool dg) ∧
 R (.bool dg) gz) ∧
 (cb = true →
 Calls Try.prog 7 #[.int .i64 n1] fz fun i9 i6 => ∃ (ac : Option Addr) (ff : Int), i9 = .returned (.tuple #[.pointer ac, .int .i64 ff]) ∧
 Calls Try.prog 8 #[.pointer ac] i6 fun gw g4 => ∃ (a1 : Option Addr) (e3 : Option Addr) (e5 : Nat) (ee : Nat) (eh : Option Addr) (dw : Nat) (e6 : Nat) (c8 : Int), gw = .returned (.tuple #[.pointer a1, .slice e3 e5 ee, .slice eh dw e6, .int .i64 c8]) ∧
 (c8 ≠ 0 →
 R (.bool false) g4) ∧
 (c8 = 0 →
 (-9223372036854775808 : Int) ≤ (n1 - 2) ∧ (n1 - 2) < 9223372036854775808 ∧
 (-9223372036854775808 : Int) ≤ ((IntKind.i64.wrap (Int.tdiv (n1 - 2) 2)) - 1) ∧ ((IntKind.i64.wrap (Int.tdiv (n1 - 2) 2)) - 1) < 9223372036854775808 ∧
 ∃ (I0 : Nat → List Value → World → Prop) (ic : Nat), I0 ic [.slice none 0 0, .slice none 0 0, .int .u32 1, .int .i64 ((IntKind.i64.wrap (Int.tdiv (n1 - 2) 2)) - 1), .int .i64 0] g4 ∧ ∀ (gj : Nat) (cv : World) (a5 : Option Addr) (a6 : Nat) (a7 : Nat) (a9 : Option Addr) (a8 : Nat) (aa : Nat) (a0 : Int) (a2 : Int) (ab : Int), I0 gj [.slice a5 a6 a7, .slice a9 a8 aa, .int .u32 a0, .int .i64 a2, .int .i64 ab] cv →
 (ab < (el : Int) →
 ∃ fa : Addr, ia = some fa ∧
 0 ≤ (ab : Int) ∧ (ab : Int) < (el : Int) ∧
 ∃ (gv : Option Addr) (ad : Nat) (i3 : Nat), cv.cell? ((fa.add (Int.toNat ab * 4)).add 1) = some (.slice gv ad i3) ∧
 0 ≤ (ab : Int) ∧ (ab : Int) < (el : Int) ∧
 ∃ (d3 : Int), cv.cell? ((fa.add (Int.toNat ab * 4)).add 0) = some (.int .i64 d3) ∧
 (d3 = 1 →
 0 ≤ (ab : Int) ∧ (ab : Int) < (el : Int) ∧
 ∃ (g7 : Option Addr) (ge : Nat) (gn : Nat), cv.cell? ((fa.add (Int.toNat ab * 4)).add 1) = some (.slice g7 ge gn) ∧
 ∀ (e1 : World), Ext no cv e1 →
 Calls Try.prog 10 #[.pointer a1, .slice g7 ge gn] e1 fun gr ea => ∃ (a3 : Int), gr = .returned (.int .i64 a3) ∧
 ((a3 == 0) ≠ (decide ((cachetteref10_Parts.F (ad : Int)) ≤ (IntKind.i64.wrap (Int.tdiv (n1 - 2) 2)))) →
 R (.bool false) ea) ∧
 ((a3 == 0) = (decide ((cachetteref10_Parts.F (ad : Int)) ≤ (IntKind.i64.wrap (Int.tdiv (n1 - 2) 2)))) →
 (a3 ≠ 0 →
 (a3 ≠ 18 →
 R (.bool false) ea) ∧
 (a3 = 18 →
 Calls Try.prog 13 #[.pointer ac] ea fun gt i0 => ∃ (bg : Option Addr) (bd : Nat) (bf : Nat), gt = .returned (.slice bg bd bf) ∧
 Calls Try.prog 12 #[.slice bg bd bf] i0 fun gy gc => ∃ (be : Int) (di : Option Addr) (dd : Nat) (dm : Nat) (b6 : Option Addr) (b8 : Nat) (bb : Nat) (f9 : Int) (f8 : Int), gy = .returned (.agg #[.int .u32 be, .slice di dd dm, .slice b6 b8 bb, .int .i64 f9, .int .i64 f8]) ∧
 ∀ (ek : World) (fd : Nat), Ext no gc ek → Priv gc ek [fd] →
 Calls Try.prog 14 #[.pointer ac] ek fun gx fb => ∃ (dy : Option Addr), gx = .returned (.pointer dy) ∧
 Keep [fd] ek fb ∧
 Calls Try.prog 8 #[.pointer dy] fb fun gq fc => ∃ (ei : Option Addr) (cm : Option Addr) (cr : Nat) (co : Nat) (ct : Option Addr) (cp : Nat) (cs : Nat) (ca : Int), gq = .returned (.tuple #[.pointer ei, .slice cm cr co, .slice ct cp cs, .int .i64 ca]) ∧
 Keep [fd] fb fc ∧
 Calls Try.prog 15 #[.pointer a1] fc fun gu en => ∃ (ch : Int), gu = .returned (.int .i64 ch) ∧
 Keep [fd] fc en ∧
 (ch ≠ (a8 : Int) →
 R (.bool false) en) ∧
 (ch = (a8 : Int) →
 Calls Try.prog 16 #[.pointer a1] en fun i8 em => ∃ (d1 : Int), i8 = .returned (.int .i64 d1) ∧
 Keep [fd] en em ∧
 (d1 ≠ a2 →
 R (.bool false) em) ∧
 (d1 = a2 →
 Calls Try.prog 17 #[.pointer a1] em fun i4 dr => ∃ (bc : Int), i4 = .returned (.int .u32 bc) ∧
 Keep [fd] em dr ∧
 (bc ≠ a0 →
 R (.bool false) dr) ∧
 (bc = a0 →
 (f8 ≠ 0 →
 R (.bool false) dr) ∧
 (f8 = 0 →
 (ca ≠ 0 →
 R (.bool false) dr) ∧
 (ca = 0 →
 (be ≠ a0 →
 R (.bool false) dr) ∧
 (be = a0 →
 Calls Try.prog 18 #[.slice di dd dm, .slice b6 b8 bb, .slice a5 a6 a7, .slice a9 a8 aa] dr fun gs gk => ∃ (d2 : Bool), gs = .returned (.bool d2) ∧
 (d2 = false →
 R (.bool false) gk) ∧
 (d2 = true →
 Calls Try.prog 18 #[.slice cm cr co, .slice ct cp cs, .slice a5 a6 a7, .slice a9 a8 aa] gk fun i1 es => ∃ (d0 : Bool), i1 = .returned (.bool d0) ∧
 (d0 = false →
 R (.bool false) es) ∧
 (d0 = true →
 (-9223372036854775808 : Int) ≤ (ab + 1) ∧ (ab + 1) < 9223372036854775808 ∧
 ∃ gg, gg < gj ∧ I0 gg [.slice a5 a6 a7, .slice a9 a8 aa, .int .u32 a0, .int .i64 a2, .int .i64 (ab + 1)] es)))))))))) ∧
 (a3 = 0 →
 0 ≤ (ab : Int) ∧ (ab : Int) < (el : Int) ∧
 ∃ (da : Option Addr) (d9 : Nat) (d6 : Nat), ea.cell? ((fa.add (Int.toNat ab * 4)).add 1) = some (.slice da d9 d6) ∧
 (-9223372036854775808 : Int) ≤ ((IntKind.i64.wrap (Int.tdiv (n1 - 2) 2)) - (cachetteref10_Parts.F (ad : Int))) ∧ ((IntKind.i64.wrap (Int.tdiv (n1 - 2) 2)) - (cachetteref10_Parts.F (ad : Int))) < 9223372036854775808 ∧
 Calls Try.prog 13 #[.pointer ac] ea fun fk fq => ∃ (ap : Option Addr) (av : Nat) (au : Nat), fk = .returned (.slice ap av au) ∧
 Calls Try.prog 12 #[.slice ap av au] fq fun g2 ex => ∃ (af : Int) (cw : Option Addr) (cj : Nat) (cn : Nat) (ay : Option Addr) (ak : Nat) (az : Nat) (eo : Int) (dv : Int), g2 = .returned (.agg #[.int .u32 af, .slice cw cj cn, .slice ay ak az, .int .i64 eo, .int .i64 dv]) ∧
 ∀ (de : World) (du : Nat), Ext no ex de → Priv ex de [du] →
 Calls Try.prog 14 #[.pointer ac] de fun fy dz => ∃ (dq : Option Addr), fy = .returned (.pointer dq) ∧
 Keep [du] de dz ∧
 Calls Try.prog 8 #[.pointer dq] dz fun gi e2 => ∃ (eb : Option Addr) (bm : Option Addr) (bj : Nat) (bi : Nat) (bl : Option Addr) (c4 : Nat) (c0 : Nat) (b9 : Int), gi = .returned (.tuple #[.pointer eb, .slice bm bj bi, .slice bl c4 c0, .int .i64 b9]) ∧
 Keep [du] dz e2 ∧
 Calls Try.prog 15 #[.pointer a1] e2 fun fo d4 => ∃ (bh : Int), fo = .returned (.int .i64 bh) ∧
 Keep [du] e2 d4 ∧
 (bh ≠ (0 : Int) →
 R (.bool false) d4) ∧
 (bh = (0 : Int) →
 Calls Try.prog 16 #[.pointer a1] d4 fun fl dc => ∃ (c7 : Int), fl = .returned (.int .i64 c7) ∧
 Keep [du] d4 dc ∧
 (c7 ≠ ((IntKind.i64.wrap (Int.tdiv (n1 - 2) 2)) - (cachetteref10_Parts.F (ad : Int))) →
 R (.bool false) dc) ∧
 (c7 = ((IntKind.i64.wrap (Int.tdiv (n1 - 2) 2)) - (cachetteref10_Parts.F (ad : Int))) →
 Calls Try.prog 17 #[.pointer a1] dc fun gh c5 => ∃ (ah : Int), gh = .returned (.int .u32 ah) ∧
 Keep [du] dc c5 ∧
 (ah ≠ (IntKind.u32.wrap (a0 + 1)) →
 R (.bool false) c5) ∧
 (ah = (IntKind.u32.wrap (a0 + 1)) →
 (dv ≠ 0 →
 R (.bool false) c5) ∧
 (dv = 0 →
 (b9 ≠ 0 →
 R (.bool false) c5) ∧
 (b9 = 0 →
 (af ≠ (IntKind.u32.wrap (a0 + 1)) →
 R (.bool false) c5) ∧
 (af = (IntKind.u32.wrap (a0 + 1)) →
 Calls Try.prog 18 #[.slice cw cj cn, .slice ay ak az, .slice da d9 d6, .slice none 0 0] c5 fun g0 ez => ∃ (ce : Bool), g0 = .returned (.bool ce) ∧
 (ce = false →
 R (.bool false) ez) ∧
 (ce = true →
 Calls Try.prog 18 #[.slice bm bj bi, .slice bl c4 c0, .slice da d9 d6, .slice none 0 0] ez fun gp f1 => ∃ (c9 : Bool), gp = .returned (.bool c9) ∧
 (c9 = false →
 R (.bool false) f1) ∧
 (c9 = true →
 (-9223372036854775808 : Int) ≤ (ab + 1) ∧ (ab + 1) < 9223372036854775808 ∧
 ∃ g3, g3 < gj ∧ I0 g3 [.slice da d9 d6, .slice none 0 0, .int .u32 (IntKind.u32.wrap (a0 + 1)), .int .i64 ((IntKind.i64.wrap (Int.tdiv (n1 - 2) 2)) - (cachetteref10_Parts.F (ad : Int))), .int .i64 (ab + 1)] f1))))))))))) ∧
 (d3 ≠ 1 →
 0 ≤ (ab : Int) ∧ (ab : Int) < (el : Int) ∧
 ∃ (ew : Option Addr) (f5 : Nat) (ey : Nat), cv.cell? ((fa.add (Int.toNat ab * 4)).add 1) = some (.slice ew f5 ey) ∧
 ∀ (e1 : World), Ext no cv e1 →
 Calls Try.prog 11 #[.pointer a1, .slice ew f5 ey] e1 fun gl c1 => ∃ (a4 : Int), gl = .returned (.int .i64 a4) ∧
 ((a4 == 0) ≠ (decide ((cachetteref10_Parts.F (ad : Int)) ≤ a2)) →
 R (.bool false) c1) ∧
 ((a4 == 0) = (decide ((cachetteref10_Parts.F (ad : Int)) ≤ a2)) →
 (a4 ≠ 0 →
 (a4 ≠ 18 →
 R (.bool false) c1) ∧
 (a4 = 18 →
 Calls Try.prog 13 #[.pointer ac] c1 fun fh g6 => ∃ (ax : Option Addr) (b2 : Nat) (an : Nat), fh = .returned (.slice ax b2 an) ∧
 Calls Try.prog 12 #[.slice ax b2 an] g6 fun fu ev => ∃ (ai : Int) (cx : Option Addr) (cl : Nat) (cq : Nat) (b1 : Option Addr) (b0 : Nat) (aw : Nat) (ep : Int) (eg : Int), fu = .returned (.agg #[.int .u32 ai, .slice cx cl cq, .slice b1 b0 aw, .int .i64 ep, .int .i64 eg]) ∧
 ∀ (df : World) (dt : Nat), Ext no ev df → Priv ev df [dt] →
 Calls Try.prog 14 #[.pointer ac] df fun gb ed => ∃ (dl : Option Addr), gb = .returned (.pointer dl) ∧
 Keep [dt] df ed ∧
 Calls Try.prog 8 #[.pointer dl] ed fun gm e0 => ∃ (ec : Option Addr) (br : Option Addr) (bo : Nat) (bv : Nat) (bs : Option Addr) (bz : Nat) (bn : Nat) (b4 : Int), gm = .returned (.tuple #[.pointer ec, .slice br bo bv, .slice bs bz bn, .int .i64 b4]) ∧
 Keep [dt] ed e0 ∧
 Calls Try.prog 15 #[.pointer a1] e0 fun gd dk => ∃ (b7 : Int), gd = .returned (.int .i64 b7) ∧
 Keep [dt] e0 dk ∧
 (b7 ≠ (a8 : Int) →
 R (.bool false) dk) ∧
 (b7 = (a8 : Int) →
 Calls Try.prog 16 #[.pointer a1] dk fun fi d7 => ∃ (cf : Int), fi = .returned (.int .i64 cf) ∧
 Keep [dt] dk d7 ∧
 (cf ≠ a2 →
 R (.bool false) d7) ∧
 (cf = a2 →
 Calls Try.prog 17 #[.pointer a1] d7 fun g5 bw => ∃ (ae : Int), g5 = .returned (.int .u32 ae) ∧
 Keep [dt] d7 bw ∧
 (ae ≠ a0 →
 R (.bool false) bw) ∧
 (ae = a0 →
 (eg ≠ 0 →
 R (.bool false) bw) ∧
 (eg = 0 →
 (b4 ≠ 0 →
 R (.bool false) bw) ∧
 (b4 = 0 →
 (ai ≠ a0 →
 R (.bool false) bw) ∧
 (ai = a0 →
 Calls Try.prog 18 #[.slice cx cl cq, .slice b1 b0 aw, .slice a5 a6 a7, .slice a9 a8 aa] bw fun ft f4 => ∃ (cg : Bool), ft = .returned (.bool cg) ∧
 (cg = false →
 R (.bool false) f4) ∧
 (cg = true →
 Calls Try.prog 18 #[.slice br bo bv, .slice bs bz bn, .slice a5 a6 a7, .slice a9 a8 aa] f4 fun g9 et => ∃ (cd : Bool), g9 = .returned (.bool cd) ∧
 (cd = false →
 R (.bool false) et) ∧
 (cd = true →
 (-9223372036854775808 : Int) ≤ (ab + 1) ∧ (ab + 1) < 9223372036854775808 ∧
 ∃ fs, fs < gj ∧ I0 fs [.slice a5 a6 a7, .slice a9 a8 aa, .int .u32 a0, .int .i64 a2, .int .i64 (ab + 1)] et)))))))))) ∧
 (a4 = 0 →
 0 ≤ (ab : Int) ∧ (ab : Int) < (el : Int) ∧
 ∃ (f2 : Option Addr) (f3 : Nat) (f0 : Nat), c1.cell? ((fa.add (Int.toNat ab * 4)).add 1) = some (.slice f2 f3 f0) ∧
 ∀ (dp : World) (eq : Nat), Ext no c1 dp → Blk dp eq 30 [.slice f2 f3 f0] → c1.heap.size ≤ eq → eq < dp.heap.size →
 ∃ (db : Option Addr) (bk : Nat) (d5 : Nat) (f6 : World), (Builtin.append_ #[31, 31] 31 #[.slice a9 a8 aa, .slice (some (blk eq)) 1 1]).run Try.prog dp = .ok (.slice db bk d5) f6 ∧
 (-9223372036854775808 : Int) ≤ (a2 - (cachetteref10_Parts.F (ad : Int))) ∧ (a2 - (cachetteref10_Parts.F (ad : Int))) < 9223372036854775808 ∧
 Calls Try.prog 13 #[.pointer ac] f6 fun g1 fr => ∃ (b3 : Option Addr) (ao : Nat) (aq : Nat), g1 = .returned (.slice b3 ao aq) ∧
 Calls Try.prog 12 #[.slice b3 ao aq] fr fun fg eu => ∃ (ag : Int) (cu : Option Addr) (ck : Nat) (cz : Nat) (am : Option Addr) (al : Nat) (ar : Nat) (ej : Int) (dx : Int), fg = .returned (.agg #[.int .u32 ag, .slice cu ck cz, .slice am al ar, .int .i64 ej, .int .i64 dx]) ∧
 ∀ (d8 : World) (ds : Nat), Ext no eu d8 → Priv eu d8 [ds] →
 Calls Try.prog 14 #[.pointer ac] d8 fun fv e8 => ∃ (dn : Option Addr), fv = .returned (.pointer dn) ∧
 Keep [ds] d8 e8 ∧
 Calls Try.prog 8 #[.pointer dn] e8 fun gf e7 => ∃ (e4 : Option Addr) (c3 : Option Addr) (bu : Nat) (bq : Nat) (bp : Option Addr) (c2 : Nat) (bx : Nat) (ba : Int), gf = .returned (.tuple #[.pointer e4, .slice c3 bu bq, .slice bp c2 bx, .int .i64 ba]) ∧
 Keep [ds] e8 e7 ∧
 Calls Try.prog 15 #[.pointer a1] e7 fun fw dj => ∃ (b5 : Int), fw = .returned (.int .i64 b5) ∧
 Keep [ds] e7 dj ∧
 (b5 ≠ (bk : Int) →
 R (.bool false) dj) ∧
 (b5 = (bk : Int) →
 Calls Try.prog 16 #[.pointer a1] dj fun fp dh => ∃ (ci : Int), fp = .returned (.int .i64 ci) ∧
 Keep [ds] dj dh ∧
 (ci ≠ (a2 - (cachetteref10_Parts.F (ad : Int))) →
 R (.bool false) dh) ∧
 (ci = (a2 - (cachetteref10_Parts.F (ad : Int))) →
 Calls Try.prog 17 #[.pointer a1] dh fun fx bt => ∃ (aj : Int), fx = .returned (.int .u32 aj) ∧
 Keep [ds] dh bt ∧
 (aj ≠ a0 →
 R (.bool false) bt) ∧
 (aj = a0 →
 (dx ≠ 0 →
 R (.bool false) bt) ∧
 (dx = 0 →
 (ba ≠ 0 →
 R (.bool false) bt) ∧
 (ba = 0 →
 (ag ≠ a0 →
 R (.bool false) bt) ∧
 (ag = a0 →
 Calls Try.prog 18 #[.slice cu ck cz, .slice am al ar, .slice a5 a6 a7, .slice db bk d5] bt fun fm er => ∃ (c6 : Bool), fm = .returned (.bool c6) ∧
 (c6 = false →
 R (.bool false) er) ∧
 (c6 = true →
 Calls Try.prog 18 #[.slice c3 bu bq, .slice bp c2 bx, .slice a5 a6 a7, .slice db bk d5] er fun fj f7 => ∃ (cc : Bool), fj = .returned (.bool cc) ∧
 (cc = false →
 R (.bool false) f7) ∧
 (cc = true →
 (-9223372036854775808 : Int) ≤ (ab + 1) ∧ (ab + 1) < 9223372036854775808 ∧
 ∃ fe, fe < gj ∧ I0 fe [.slice a5 a6 a7, .slice db bk d5, .int .u32 a0, .int .i64 (a2 - (cachetteref10_Parts.F (ad : Int))), .int .i64 (ab + 1)] f7)))))))))))) ∧
 ((el : Int) ≤ ab →
 Calls Try.prog 6 #[] cv fun ga g8 => ∃ (cy : Bool), ga = .returned (.bool cy) ∧
 R (.bool cy) g8)))))

theorem cachettelaw11_SnapshotPlays.up (n1 : Int) (k5 : Option Addr) (kh : Nat) (k8 : Nat) {R : Value → World → Prop} {w : World} (h : cachettelaw11_SnapshotPlays.N n1 k5 kh k8 R w) : cachettelaw11_SnapshotPlays.M n1 k5 kh k8 R w := by
  unfold cachettelaw11_SnapshotPlays.M
  unfold cachettelaw11_SnapshotPlays.N at h
  refine bif_of (fun c3 => ?_) (fun c3 => ?_)
  · have h := h.1 (of_decide_eq_true c3)
    refine h.mono fun m3 m2 h => ?_
    obtain ⟨f0, he, h⟩ := h
    refine ⟨f0, he, ?_⟩
    exact h
  · have h := h.2 (Int.not_lt.1 (of_decide_eq_false c3))
    refine bif_of (fun c7 => ?_) (fun c7 => ?_)
    · have h := h.1 (of_decide_eq_true c7)
      refine h.mono fun m1 lc h => ?_
      obtain ⟨ea, he, h⟩ := h
      refine ⟨ea, he, ?_⟩
      exact h
    · have h := h.2 (Int.not_lt.1 (of_decide_eq_false c7))
      refine h.mono fun lv l8 h => ?_
      obtain ⟨dc, he, h⟩ := h
      refine ⟨dc, he, ?_⟩
      refine bif_of (fun ih => ?_) (fun ih => ?_)
      · have h := h.1 (not_t ih)
        refine h.mono fun lj l9 h => ?_
        obtain ⟨dr, he, h⟩ := h
        refine ⟨dr, he, ?_⟩
        exact h
      · have h := h.2 (not_f ih)
        refine h.mono fun m0 ly h => ?_
        obtain ⟨i2, gm, he, h⟩ := h
        refine ⟨i2, gm, he, ?_⟩
        refine h.mono fun ls ln h => ?_
        obtain ⟨dh, co, ci, d2, d4, cb, ck, dl, he, h⟩ := h
        refine ⟨dh, co, ci, d2, d4, cb, ck, dl, he, ?_⟩
        refine bif_of (fun iu => ?_) (fun iu => ?_)
        · have h := h.1 (bne_t iu)
          exact h
        · have h := h.2 (bne_f iu)
          obtain ⟨bf, bj, h⟩ := h
          try rw [w64 bf bj]
          refine ⟨by decide, ?_⟩
          obtain ⟨bf, bj, h⟩ := h
          try rw [w64 bf bj]
          obtain ⟨I0, lo, h0, h⟩ := h
          refine ⟨I0, lo, h0, fun lp gh dd ds dt ep f2 e6 cm dz lw hI => ?_⟩
          have h := h lp gh dd ds dt ep f2 e6 cm dz lw hI
          refine bif_of (fun ic => ?_) (fun ic => ?_)
          · have h := h.1 (of_decide_eq_true ic)
            obtain ⟨m4, bt, h⟩ := h
            refine elim_some bt ?_
            obtain ⟨cd, cj, h⟩ := h
            refine ⟨cd, cj, ?_⟩
            obtain ⟨ij, eo, j7, ie, h⟩ := h
            refine ⟨ij, eo, j7, ie, ?_⟩
            refine (cachetteref10_Parts.pure (eo : Int)).mono fun ee ww41 ⟨he, hxx⟩ => ⟨(cachetteref10_Parts.F (eo : Int)), he, ?_⟩
            have cc := (Ext.refl no gh).trans hxx
            refine elim_some bt ?_
            obtain ⟨cd, cj, h⟩ := h
            refine ⟨cd, cj, ?_⟩
            obtain ⟨er, iy, h⟩ := h
            refine ⟨er, (cc).cell iy id, ?_⟩
            refine bif_of (fun j3 => ?_) (fun j3 => ?_)
            · have h := h.1 (beq_t j3)
              refine elim_some bt ?_
              obtain ⟨cd, cj, h⟩ := h
              refine ⟨cd, cj, ?_⟩
              obtain ⟨ix, ip, ir, iw, h⟩ := h
              refine ⟨ix, ip, ir, (cc).cell iw id, ?_⟩
              have h := h ww41 cc
              refine h.mono fun lq lu h => ?_
              obtain ⟨bo, he, h⟩ := h
              refine ⟨bo, he, ?_⟩
              refine bif_of (fun j8 => ?_) (fun j8 => ?_)
              · have h := h.1 (bbeq_f (not_t j8))
                exact h
              · have h := h.2 (bbeq_t (not_f j8))
                refine bif_of (fun i7 => ?_) (fun i7 => ?_)
                · have h := h.1 (bne_t i7)
                  refine bif_of (fun i6 => ?_) (fun i6 => ?_)
                  · have h := h.1 (bne_t i6)
                    exact h
                  · have h := h.2 (bne_f i6)
                    refine bif_ff (cong1 (r := false) (fun z => z == 0) (bne_f i6) (by decide)) ?_
                    refine h.mono fun lm lf h => ?_
                    obtain ⟨bg, bi, bh, he, h⟩ := h
                    refine ⟨bg, bi, bh, he, ?_⟩
                    refine h.mono fun le b1 h => ?_
                    obtain ⟨ae, aw, av, au, ac, ad, af, be, el, he, h⟩ := h
                    refine ⟨ae, aw, av, au, ac, ad, af, be, el, he, ?_⟩
                    refine thenW_in fun lx kj => ?_
                    have ax := Blk.of_new kj
                    have f5 := ((Ext.refl no b1)).size
                    have iq := (Ext.refl no b1).x_alloc kj
                    refine ⟨ax.cani 0 rfl rfl, thenW_in fun ik jd => ?_⟩
                    have iz := iq.x_set (q := b1.heap.size) (i := 0) rfl (.inr f5) jd
                    have ax : Blk ik b1.heap.size 41 [.int .u32 ae, .slice none 0 0, .slice none 0 0, .int .i64 0, .int .i64 0] := ax.seti 0 rfl jd
                    refine ⟨ax.cani 1 rfl rfl, thenW_in fun i8 ki => ?_⟩
                    have j4 := iz.x_set (q := b1.heap.size) (i := 1) rfl (.inr f5) ki
                    have ax : Blk i8 b1.heap.size 41 [.int .u32 ae, .slice aw av au, .slice none 0 0, .int .i64 0, .int .i64 0] := ax.seti 1 rfl ki
                    refine ⟨ax.cani 2 rfl rfl, thenW_in fun io kc => ?_⟩
                    have il := j4.x_set (q := b1.heap.size) (i := 2) rfl (.inr f5) kc
                    have ax : Blk io b1.heap.size 41 [.int .u32 ae, .slice aw av au, .slice ac ad af, .int .i64 0, .int .i64 0] := ax.seti 2 rfl kc
                    refine ⟨ax.cani 3 rfl rfl, thenW_in fun i9 kk => ?_⟩
                    have j2 := il.x_set (q := b1.heap.size) (i := 3) rfl (.inr f5) kk
                    have ax : Blk i9 b1.heap.size 41 [.int .u32 ae, .slice aw av au, .slice ac ad af, .int .i64 be, .int .i64 0] := ax.seti 3 rfl kk
                    refine ⟨ax.cani 4 rfl rfl, thenW_in fun gc jf => ?_⟩
                    have im := j2.x_set (q := b1.heap.size) (i := 4) rfl (.inr f5) jf
                    have ax : Blk gc b1.heap.size 41 [.int .u32 ae, .slice aw av au, .slice ac ad af, .int .i64 be, .int .i64 el] := ax.seti 4 rfl jf
                    have h := h gc (b1.heap.size) im (Priv.cons f5 ax.lt Priv.nil)
                    refine h.mono fun l7 lb h => ?_
                    obtain ⟨ei, he, hk, h⟩ := h
                    refine ⟨ei, he, ?_⟩
                    have ax := hk.blk ax (by simp)
                    refine h.mono fun ll lz h => ?_
                    obtain ⟨di, ce, cq, cw, cg, cp, cr, db, he, hk, h⟩ := h
                    refine ⟨di, ce, cq, cw, cg, cp, cr, db, he, ?_⟩
                    have ax := hk.blk ax (by simp)
                    refine h.mono fun l6 li h => ?_
                    obtain ⟨d9, he, hk, h⟩ := h
                    refine ⟨d9, he, ?_⟩
                    have ax := hk.blk ax (by simp)
                    refine bif_of (fun j1 => ?_) (fun j1 => ?_)
                    · have h := h.1 (bne_t j1)
                      exact h
                    · have h := h.2 (bne_f j1)
                      refine h.mono fun lk la h => ?_
                      obtain ⟨e2, he, hk, h⟩ := h
                      refine ⟨e2, he, ?_⟩
                      have ax := hk.blk ax (by simp)
                      refine bif_of (fun ib => ?_) (fun ib => ?_)
                      · have h := h.1 (bne_t ib)
                        exact h
                      · have h := h.2 (bne_f ib)
                        refine h.mono fun lh lr h => ?_
                        obtain ⟨d1, he, hk, h⟩ := h
                        refine ⟨d1, he, ?_⟩
                        have ax := hk.blk ax (by simp)
                        refine bif_of (fun iv => ?_) (fun iv => ?_)
                        · have h := h.1 (bne_t iv)
                          exact h
                        · have h := h.2 (bne_f iv)
                          refine ⟨el, ax.celli 4 rfl rfl, ?_⟩
                          refine bif_of (fun ig => ?_) (fun ig => ?_)
                          · have h := h.1 (bne_t ig)
                            exact h
                          · have h := h.2 (bne_f ig)
                            refine bif_of (fun it => ?_) (fun it => ?_)
                            · have h := h.1 (bne_t it)
                              exact h
                            · have h := h.2 (bne_f it)
                              refine ⟨ae, ax.celli 0 rfl rfl, ?_⟩
                              refine bif_of (fun j5 => ?_) (fun j5 => ?_)
                              · have h := h.1 (bne_t j5)
                                exact h
                              · have h := h.2 (bne_f j5)
                                refine ⟨aw, av, au, ax.celli 1 rfl rfl, ?_⟩
                                refine ⟨ac, ad, af, ax.celli 2 rfl rfl, ?_⟩
                                refine h.mono fun l5 ld h => ?_
                                obtain ⟨e3, he, h⟩ := h
                                refine ⟨e3, he, ?_⟩
                                refine bif_of (fun j9 => ?_) (fun j9 => ?_)
                                · have h := h.1 (not_t j9)
                                  exact h
                                · have h := h.2 (not_f j9)
                                  refine h.mono fun lg kr h => ?_
                                  obtain ⟨ek, he, h⟩ := h
                                  refine ⟨ek, he, ?_⟩
                                  refine bif_of (fun ej => ?_) (fun ej => ?_)
                                  · have h := h.1 (not_t ej)
                                    exact h
                                  · have h := h.2 (not_f ej)
                                    obtain ⟨bf, bj, h⟩ := h
                                    try rw [w64 bf bj]
                                    obtain ⟨j0, hk, h⟩ := h
                                    exact ⟨j0, hk, h⟩
                · have h := h.2 (bne_f i7)
                  refine bif_tt (cong1 (r := true) (fun z => z == 0) (bne_f i7) (by decide)) ?_
                  refine elim_some bt ?_
                  obtain ⟨cd, cj, h⟩ := h
                  refine ⟨cd, cj, ?_⟩
                  obtain ⟨gx, ff, fc, fq, h⟩ := h
                  refine ⟨gx, ff, fc, fq, ?_⟩
                  obtain ⟨bf, bj, h⟩ := h
                  try rw [w64 bf bj]
                  refine h.mono fun kb jg h => ?_
                  obtain ⟨b5, b6, ba, he, h⟩ := h
                  refine ⟨b5, b6, ba, he, ?_⟩
                  refine h.mono fun jm ah h => ?_
                  obtain ⟨a0, am, aj, aq, a9, a7, aa, b3, cn, he, h⟩ := h
                  refine ⟨a0, am, aj, aq, a9, a7, aa, b3, cn, he, ?_⟩
                  refine thenW_in fun je fy => ?_
                  have b0 := Blk.of_new fy
                  have f3 := ((Ext.refl no ah)).size
                  have i4 := (Ext.refl no ah).x_alloc fy
                  refine ⟨b0.cani 0 rfl rfl, thenW_in fun fo gf => ?_⟩
                  have fg := i4.x_set (q := ah.heap.size) (i := 0) rfl (.inr f3) gf
                  have b0 : Blk fo ah.heap.size 41 [.int .u32 a0, .slice none 0 0, .slice none 0 0, .int .i64 0, .int .i64 0] := b0.seti 0 rfl gf
                  refine ⟨b0.cani 1 rfl rfl, thenW_in fun ft gq => ?_⟩
                  have g1 := fg.x_set (q := ah.heap.size) (i := 1) rfl (.inr f3) gq
                  have b0 : Blk ft ah.heap.size 41 [.int .u32 a0, .slice am aj aq, .slice none 0 0, .int .i64 0, .int .i64 0] := b0.seti 1 rfl gq
                  refine ⟨b0.cani 2 rfl rfl, thenW_in fun fi g3 => ?_⟩
                  have gd := g1.x_set (q := ah.heap.size) (i := 2) rfl (.inr f3) g3
                  have b0 : Blk fi ah.heap.size 41 [.int .u32 a0, .slice am aj aq, .slice a9 a7 aa, .int .i64 0, .int .i64 0] := b0.seti 2 rfl g3
                  refine ⟨b0.cani 3 rfl rfl, thenW_in fun g0 fl => ?_⟩
                  have fv := gd.x_set (q := ah.heap.size) (i := 3) rfl (.inr f3) fl
                  have b0 : Blk g0 ah.heap.size 41 [.int .u32 a0, .slice am aj aq, .slice a9 a7 aa, .int .i64 b3, .int .i64 0] := b0.seti 3 rfl fl
                  refine ⟨b0.cani 4 rfl rfl, thenW_in fun dv ga => ?_⟩
                  have gp := fv.x_set (q := ah.heap.size) (i := 4) rfl (.inr f3) ga
                  have b0 : Blk dv ah.heap.size 41 [.int .u32 a0, .slice am aj aq, .slice a9 a7 aa, .int .i64 b3, .int .i64 cn] := b0.seti 4 rfl ga
                  have h := h dv (ah.heap.size) gp (Priv.cons f3 b0.lt Priv.nil)
                  refine h.mono fun jk js h => ?_
                  obtain ⟨de, he, hk, h⟩ := h
                  refine ⟨de, he, ?_⟩
                  have b0 := hk.blk b0 (by simp)
                  refine h.mono fun ko jc h => ?_
                  obtain ⟨cf, br, bk, c4, bu, ca, c9, cz, he, hk, h⟩ := h
                  refine ⟨cf, br, bk, c4, bu, ca, c9, cz, he, ?_⟩
                  have b0 := hk.blk b0 (by simp)
                  refine h.mono fun jy ju h => ?_
                  obtain ⟨d5, he, hk, h⟩ := h
                  refine ⟨d5, he, ?_⟩
                  have b0 := hk.blk b0 (by simp)
                  refine bif_of (fun ey => ?_) (fun ey => ?_)
                  · have h := h.1 (bne_t ey)
                    exact h
                  · have h := h.2 (bne_f ey)
                    refine h.mono fun jw k2 h => ?_
                    obtain ⟨d6, he, hk, h⟩ := h
                    refine ⟨d6, he, ?_⟩
                    have b0 := hk.blk b0 (by simp)
                    refine bif_of (fun e5 => ?_) (fun e5 => ?_)
                    · have h := h.1 (bne_t e5)
                      exact h
                    · have h := h.2 (bne_f e5)
                      refine h.mono fun k7 jr h => ?_
                      obtain ⟨c0, he, hk, h⟩ := h
                      refine ⟨c0, he, ?_⟩
                      have b0 := hk.blk b0 (by simp)
                      refine bif_of (fun em => ?_) (fun em => ?_)
                      · have h := h.1 (bne_t em)
                        exact h
                      · have h := h.2 (bne_f em)
                        refine ⟨cn, b0.celli 4 rfl rfl, ?_⟩
                        refine bif_of (fun en => ?_) (fun en => ?_)
                        · have h := h.1 (bne_t en)
                          exact h
                        · have h := h.2 (bne_f en)
                          refine bif_of (fun ex => ?_) (fun ex => ?_)
                          · have h := h.1 (bne_t ex)
                            exact h
                          · have h := h.2 (bne_f ex)
                            refine ⟨a0, b0.celli 0 rfl rfl, ?_⟩
                            refine bif_of (fun eg => ?_) (fun eg => ?_)
                            · have h := h.1 (bne_t eg)
                              exact h
                            · have h := h.2 (bne_f eg)
                              refine ⟨am, aj, aq, b0.celli 1 rfl rfl, ?_⟩
                              refine ⟨a9, a7, aa, b0.celli 2 rfl rfl, ?_⟩
                              refine h.mono fun jl kv h => ?_
                              obtain ⟨dj, he, h⟩ := h
                              refine ⟨dj, he, ?_⟩
                              refine bif_of (fun eh => ?_) (fun eh => ?_)
                              · have h := h.1 (not_t eh)
                                exact h
                              · have h := h.2 (not_f eh)
                                refine h.mono fun kq kx h => ?_
                                obtain ⟨dg, he, h⟩ := h
                                refine ⟨dg, he, ?_⟩
                                refine bif_of (fun ef => ?_) (fun ef => ?_)
                                · have h := h.1 (not_t ef)
                                  exact h
                                · have h := h.2 (not_f ef)
                                  obtain ⟨bf, bj, h⟩ := h
                                  try rw [w64 bf bj]
                                  obtain ⟨j6, hk, h⟩ := h
                                  exact ⟨j6, hk, h⟩
            · have h := h.2 (beq_f j3)
              refine elim_some bt ?_
              obtain ⟨cd, cj, h⟩ := h
              refine ⟨cd, cj, ?_⟩
              obtain ⟨gt, gi, gv, fu, h⟩ := h
              refine ⟨gt, gi, gv, (cc).cell fu id, ?_⟩
              have h := h ww41 cc
              refine h.mono fun kp cs h => ?_
              obtain ⟨bq, he, h⟩ := h
              refine ⟨bq, he, ?_⟩
              refine bif_of (fun eb => ?_) (fun eb => ?_)
              · have h := h.1 (bbeq_f (not_t eb))
                exact h
              · have h := h.2 (bbeq_t (not_f eb))
                refine bif_of (fun dn => ?_) (fun dn => ?_)
                · have h := h.1 (bne_t dn)
                  refine bif_of (fun d8 => ?_) (fun d8 => ?_)
                  · have h := h.1 (bne_t d8)
                    exact h
                  · have h := h.2 (bne_f d8)
                    refine bif_ff (cong1 (r := false) (fun z => z == 0) (bne_f d8) (by decide)) ?_
                    refine h.mono fun jb l0 h => ?_
                    obtain ⟨b7, bb, b8, he, h⟩ := h
                    refine ⟨b7, bb, b8, he, ?_⟩
                    refine h.mono fun kd ap h => ?_
                    obtain ⟨a1, ao, an, al, ab, a6, a4, b4, cl, he, h⟩ := h
                    refine ⟨a1, ao, an, al, ab, a6, a4, b4, cl, he, ?_⟩
                    refine thenW_in fun jq gg => ?_
                    have ay := Blk.of_new gg
                    have f4 := ((Ext.refl no ap)).size
                    have gz := (Ext.refl no ap).x_alloc gg
                    refine ⟨ay.cani 0 rfl rfl, thenW_in fun g5 gs => ?_⟩
                    have fw := gz.x_set (q := ap.heap.size) (i := 0) rfl (.inr f4) gs
                    have ay : Blk g5 ap.heap.size 41 [.int .u32 a1, .slice none 0 0, .slice none 0 0, .int .i64 0, .int .i64 0] := ay.seti 0 rfl gs
                    refine ⟨ay.cani 1 rfl rfl, thenW_in fun i5 i1 => ?_⟩
                    have f9 := fw.x_set (q := ap.heap.size) (i := 1) rfl (.inr f4) i1
                    have ay : Blk i5 ap.heap.size 41 [.int .u32 a1, .slice ao an al, .slice none 0 0, .int .i64 0, .int .i64 0] := ay.seti 1 rfl i1
                    refine ⟨ay.cani 2 rfl rfl, thenW_in fun g9 fe => ?_⟩
                    have gb := f9.x_set (q := ap.heap.size) (i := 2) rfl (.inr f4) fe
                    have ay : Blk g9 ap.heap.size 41 [.int .u32 a1, .slice ao an al, .slice ab a6 a4, .int .i64 0, .int .i64 0] := ay.seti 2 rfl fe
                    refine ⟨ay.cani 3 rfl rfl, thenW_in fun gr fj => ?_⟩
                    have gn := gb.x_set (q := ap.heap.size) (i := 3) rfl (.inr f4) fj
                    have ay : Blk gr ap.heap.size 41 [.int .u32 a1, .slice ao an al, .slice ab a6 a4, .int .i64 b4, .int .i64 0] := ay.seti 3 rfl fj
                    refine ⟨ay.cani 4 rfl rfl, thenW_in fun dw gl => ?_⟩
                    have ge := gn.x_set (q := ap.heap.size) (i := 4) rfl (.inr f4) gl
                    have ay : Blk dw ap.heap.size 41 [.int .u32 a1, .slice ao an al, .slice ab a6 a4, .int .i64 b4, .int .i64 cl] := ay.seti 4 rfl gl
                    have h := h dw (ap.heap.size) ge (Priv.cons f4 ay.lt Priv.nil)
                    refine h.mono fun jo k3 h => ?_
                    obtain ⟨dk, he, hk, h⟩ := h
                    refine ⟨dk, he, ?_⟩
                    have ay := hk.blk ay (by simp)
                    refine h.mono fun l4 jt h => ?_
                    obtain ⟨cy, c5, bw, bs, c6, c1, bv, cu, he, hk, h⟩ := h
                    refine ⟨cy, c5, bw, bs, c6, c1, bv, cu, he, ?_⟩
                    have ay := hk.blk ay (by simp)
                    refine h.mono fun kn l2 h => ?_
                    obtain ⟨cx, he, hk, h⟩ := h
                    refine ⟨cx, he, ?_⟩
                    have ay := hk.blk ay (by simp)
                    refine bif_of (fun es => ?_) (fun es => ?_)
                    · have h := h.1 (bne_t es)
                      exact h
                    · have h := h.2 (bne_f es)
                      refine h.mono fun jv ka h => ?_
                      obtain ⟨dp, he, hk, h⟩ := h
                      refine ⟨dp, he, ?_⟩
                      have ay := hk.blk ay (by simp)
                      refine bif_of (fun e8 => ?_) (fun e8 => ?_)
                      · have h := h.1 (bne_t e8)
                        exact h
                      · have h := h.2 (bne_f e8)
                        refine h.mono fun kz kf h => ?_
                        obtain ⟨bl, he, hk, h⟩ := h
                        refine ⟨bl, he, ?_⟩
                        have ay := hk.blk ay (by simp)
                        refine bif_of (fun f1 => ?_) (fun f1 => ?_)
                        · have h := h.1 (bne_t f1)
                          exact h
                        · have h := h.2 (bne_f f1)
                          refine ⟨cl, ay.celli 4 rfl rfl, ?_⟩
                          refine bif_of (fun ew => ?_) (fun ew => ?_)
                          · have h := h.1 (bne_t ew)
                            exact h
                          · have h := h.2 (bne_f ew)
                            refine bif_of (fun e0 => ?_) (fun e0 => ?_)
                            · have h := h.1 (bne_t e0)
                              exact h
                            · have h := h.2 (bne_f e0)
                              refine ⟨a1, ay.celli 0 rfl rfl, ?_⟩
                              refine bif_of (fun ed => ?_) (fun ed => ?_)
                              · have h := h.1 (bne_t ed)
                                exact h
                              · have h := h.2 (bne_f ed)
                                refine ⟨ao, an, al, ay.celli 1 rfl rfl, ?_⟩
                                refine ⟨ab, a6, a4, ay.celli 2 rfl rfl, ?_⟩
                                refine h.mono fun ji km h => ?_
                                obtain ⟨dq, he, h⟩ := h
                                refine ⟨dq, he, ?_⟩
                                refine bif_of (fun ez => ?_) (fun ez => ?_)
                                · have h := h.1 (not_t ez)
                                  exact h
                                · have h := h.2 (not_f ez)
                                  refine h.mono fun k4 ks h => ?_
                                  obtain ⟨d7, he, h⟩ := h
                                  refine ⟨d7, he, ?_⟩
                                  refine bif_of (fun e9 => ?_) (fun e9 => ?_)
                                  · have h := h.1 (not_t e9)
                                    exact h
                                  · have h := h.2 (not_f e9)
                                    obtain ⟨bf, bj, h⟩ := h
                                    try rw [w64 bf bj]
                                    obtain ⟨ia, hk, h⟩ := h
                                    exact ⟨ia, hk, h⟩
                · have h := h.2 (bne_f dn)
                  refine bif_tt (cong1 (r := true) (fun z => z == 0) (bne_f dn) (by decide)) ?_
                  refine elim_some bt ?_
                  obtain ⟨cd, cj, h⟩ := h
                  refine ⟨cd, cj, ?_⟩
                  obtain ⟨fz, fm, fh, gw, h⟩ := h
                  refine ⟨fz, fm, fh, gw, ?_⟩
                  refine thenW_in fun fs et => ?_
                  have h := h fs cs.heap.size ((Ext.refl no cs).x_alloc et) (Blk.of_new et) ((Ext.refl no cs)).size (size_lt_alloc et)
                  obtain ⟨fk, f8, fb, gk, hr, h⟩ := h
                  refine ⟨fk, f8, fb, gk, hr, ?_⟩
                  obtain ⟨bf, bj, h⟩ := h
                  try rw [w64 bf bj]
                  refine h.mono fun ky jh h => ?_
                  obtain ⟨bc, b9, bd, he, h⟩ := h
                  refine ⟨bc, b9, bd, he, ?_⟩
                  refine h.mono fun k9 ag h => ?_
                  obtain ⟨a2, ar, ak, ai, a8, a3, a5, b2, ct, he, h⟩ := h
                  refine ⟨a2, ar, ak, ai, a8, a3, a5, b2, ct, he, ?_⟩
                  refine thenW_in fun kg gy => ?_
                  have az := Blk.of_new gy
                  have f6 := ((Ext.refl no ag)).size
                  have fd := (Ext.refl no ag).x_alloc gy
                  refine ⟨az.cani 0 rfl rfl, thenW_in fun g6 gj => ?_⟩
                  have i0 := fd.x_set (q := ag.heap.size) (i := 0) rfl (.inr f6) gj
                  have az : Blk g6 ag.heap.size 41 [.int .u32 a2, .slice none 0 0, .slice none 0 0, .int .i64 0, .int .i64 0] := az.seti 0 rfl gj
                  refine ⟨az.cani 1 rfl rfl, thenW_in fun fr fx => ?_⟩
                  have f7 := i0.x_set (q := ag.heap.size) (i := 1) rfl (.inr f6) fx
                  have az : Blk fr ag.heap.size 41 [.int .u32 a2, .slice ar ak ai, .slice none 0 0, .int .i64 0, .int .i64 0] := az.seti 1 rfl fx
                  refine ⟨az.cani 2 rfl rfl, thenW_in fun g8 g2 => ?_⟩
                  have g7 := f7.x_set (q := ag.heap.size) (i := 2) rfl (.inr f6) g2
                  have az : Blk g8 ag.heap.size 41 [.int .u32 a2, .slice ar ak ai, .slice a8 a3 a5, .int .i64 0, .int .i64 0] := az.seti 2 rfl g2
                  refine ⟨az.cani 3 rfl rfl, thenW_in fun fp gu => ?_⟩
                  have i3 := g7.x_set (q := ag.heap.size) (i := 3) rfl (.inr f6) gu
                  have az : Blk fp ag.heap.size 41 [.int .u32 a2, .slice ar ak ai, .slice a8 a3 a5, .int .i64 b2, .int .i64 0] := az.seti 3 rfl gu
                  refine ⟨az.cani 4 rfl rfl, thenW_in fun dx g4 => ?_⟩
                  have fa := i3.x_set (q := ag.heap.size) (i := 4) rfl (.inr f6) g4
                  have az : Blk dx ag.heap.size 41 [.int .u32 a2, .slice ar ak ai, .slice a8 a3 a5, .int .i64 b2, .int .i64 ct] := az.seti 4 rfl g4
                  have h := h dx (ag.heap.size) fa (Priv.cons f6 az.lt Priv.nil)
                  refine h.mono fun jj kw h => ?_
                  obtain ⟨du, he, hk, h⟩ := h
                  refine ⟨du, he, ?_⟩
                  have az := hk.blk az (by simp)
                  refine h.mono fun k6 jz h => ?_
                  obtain ⟨ch, c2, c8, bz, bx, bp, bm, d0, he, hk, h⟩ := h
                  refine ⟨ch, c2, c8, bz, bx, bp, bm, d0, he, ?_⟩
                  have az := hk.blk az (by simp)
                  refine h.mono fun k0 jp h => ?_
                  obtain ⟨cv, he, hk, h⟩ := h
                  refine ⟨cv, he, ?_⟩
                  have az := hk.blk az (by simp)
                  refine bif_of (fun dy => ?_) (fun dy => ?_)
                  · have h := h.1 (bne_t dy)
                    exact h
                  · have h := h.2 (bne_f dy)
                    refine h.mono fun ku l1 h => ?_
                    obtain ⟨da, he, hk, h⟩ := h
                    refine ⟨da, he, ?_⟩
                    have az := hk.blk az (by simp)
                    refine bif_of (fun eq => ?_) (fun eq => ?_)
                    · have h := h.1 (bne_t eq)
                      exact h
                    · have h := h.2 (bne_f eq)
                      refine h.mono fun k1 ke h => ?_
                      obtain ⟨bn, he, hk, h⟩ := h
                      refine ⟨bn, he, ?_⟩
                      have az := hk.blk az (by simp)
                      refine bif_of (fun ec => ?_) (fun ec => ?_)
                      · have h := h.1 (bne_t ec)
                        exact h
                      · have h := h.2 (bne_f ec)
                        refine ⟨ct, az.celli 4 rfl rfl, ?_⟩
                        refine bif_of (fun ev => ?_) (fun ev => ?_)
                        · have h := h.1 (bne_t ev)
                          exact h
                        · have h := h.2 (bne_f ev)
                          refine bif_of (fun e7 => ?_) (fun e7 => ?_)
                          · have h := h.1 (bne_t e7)
                            exact h
                          · have h := h.2 (bne_f e7)
                            refine ⟨a2, az.celli 0 rfl rfl, ?_⟩
                            refine bif_of (fun e4 => ?_) (fun e4 => ?_)
                            · have h := h.1 (bne_t e4)
                              exact h
                            · have h := h.2 (bne_f e4)
                              refine ⟨ar, ak, ai, az.celli 1 rfl rfl, ?_⟩
                              refine ⟨a8, a3, a5, az.celli 2 rfl rfl, ?_⟩
                              refine h.mono fun jx ja h => ?_
                              obtain ⟨df, he, h⟩ := h
                              refine ⟨df, he, ?_⟩
                              refine bif_of (fun e1 => ?_) (fun e1 => ?_)
                              · have h := h.1 (not_t e1)
                                exact h
                              · have h := h.2 (not_f e1)
                                refine h.mono fun kt l3 h => ?_
                                obtain ⟨dm, he, h⟩ := h
                                refine ⟨dm, he, ?_⟩
                                refine bif_of (fun eu => ?_) (fun eu => ?_)
                                · have h := h.1 (not_t eu)
                                  exact h
                                · have h := h.2 (not_f eu)
                                  obtain ⟨bf, bj, h⟩ := h
                                  try rw [w64 bf bj]
                                  obtain ⟨ii, hk, h⟩ := h
                                  exact ⟨ii, hk, h⟩
          · have h := h.2 (Int.not_lt.1 (of_decide_eq_false ic))
            refine h.mono fun jn kl h => ?_
            obtain ⟨d3, he, h⟩ := h
            refine ⟨d3, he, ?_⟩
            exact h

theorem cachettelaw11_SnapshotPlays.go (n1 : Int) (a1 : Option Addr) (a2 : Nat) (a0 : Nat) {R : Value → World → Prop} {w : World} (h : cachettelaw11_SnapshotPlays.N n1 a1 a2 a0 R w) : Calls Try.prog 3 #[.int .i64 n1, .slice a1 a2 a0] w fun e w' => ∃ v, e = .returned v ∧ R v w' := cachettelaw11_SnapshotPlays.ok n1 a1 a2 a0 (cachettelaw11_SnapshotPlays.up n1 a1 a2 a0 h)
theorem cachettelaw11_SnapshotPlays.run (n1 : Int) (a1 : Option Addr) (a2 : Nat) (a0 : Nat) {V : Value} {Q : World → Prop} {w : World} (h : cachettelaw11_SnapshotPlays.N n1 a1 a2 a0 (fun v w' => v = V ∧ Q w') w) : Calls Try.prog 3 #[.int .i64 n1, .slice a1 a2 a0] w (Ret V Q) := (cachettelaw11_SnapshotPlays.go n1 a1 a2 a0 h).mono fun e w' ⟨v, he, hv, hq⟩ => ⟨by rw [he, hv], hq⟩

end Go.Proofs.Ytidijnfkcpbkiaa

/- Journal: the predicates of what asks journals on disks. -/
set_option maxRecDepth 100000
set_option maxHeartbeats 4000000
namespace Go.Proofs.Ytidijnfkcpbkiaa
open Go Go.Mx Go.Proofs
end Go.Proofs.Ytidijnfkcpbkiaa

/- JournalOpens. -/
set_option linter.unusedVariables false
set_option linter.unusedSimpArgs false
set_option maxRecDepth 20000
set_option maxHeartbeats 4000000
namespace Go.Proofs.Ytidijnfkcpbkiaa
open Go Go.Mx Go.Proofs
open W (OwnB GivesW)
section
variable {w w' w1 : World} {o o' o1 : Own} {q g n N m : Nat} {K : Nat → Prop} {b s : List UInt8} {a : Option Addr} {c : Nat} {l : List BS} {d : DS} {J : JS}
end
end Go.Proofs.Ytidijnfkcpbkiaa

/- JournalCrash: acts; a list of records that grows. -/
set_option linter.unusedVariables false
set_option linter.unusedSimpArgs false
set_option maxRecDepth 20000
set_option maxHeartbeats 4000000
namespace Go.Proofs.Ytidijnfkcpbkiaa
open Go Go.Mx Go.Proofs
open W (OwnB GivesW)
/-- a list of records of one owner. -/
structure WL (w : World) (o : Own) (k : Nat) (a : Option Addr) (c : Nat) (l : List BS) : Prop where
  row : Grows 30 1 w o k a l.length c (l.map BS.v)
  oks : ∀ x ∈ l, BSok w o x
theorem topX {K : Nat → Prop} {W w : World} {o : Own} (s : Step K W (fun _ => none) w o) : Ext no W w := s.ext.mono fun b ⟨_, h, _⟩ _ => by cases h
section
variable {w w' w1 : World} {o o' o1 : Own} {q g n N k : Nat} {K : Nat → Prop} {b s : List UInt8} {a : Option Addr} {c : Nat} {l : List BS}
theorem WL.nil (w : World) (o : Own) (k : Nat) : WL w o k none 0 [] := ⟨Grows.nil _ _ _ _ _, fun x h => (by cases h)⟩
theorem WL.step (h : WL w o k a c l) (s : Step K w o w' o') (hk : ¬ K k) : WL w' o' k a c l := ⟨h.row.step s hk, fun x hx => (h.oks x hx).step s⟩
theorem WL.push (h : WL w o k a c l) (ok : Tags w o) (hk : k < w.heap.size) (hl : l.length < 1000000) {x : BS} (hx : BSok w o x) {ww : World} {qq : Nat} (X : Ext no w ww) (hb : Blk ww qq 30 [x.v]) :
    ∃ a' c' w' o', (Builtin.append_ #[31, 31] 31 #[.slice a l.length c, .slice (some (blk qq)) 1 1]).run Try.prog ww = .ok (.slice a' (l ++ [x]).length c') w' ∧ Step (fun j => j = k) w o w' o' ∧ WL w' o' k a' c' (l ++ [x]) := by
  have s1 := Step.of_no X ok
  have hr := h.row.step s1 id
  obtain ⟨i, hi, hz, hsz, hby⟩ := info_of inf30
  obtain ⟨a', c', w', o', hrun, s2, hrow, _, _⟩ := hr.push (ty := 31) Try.underlying31 hi hz hsz hby rfl (by decide) s1.ok (Nat.lt_of_lt_of_le hk X.size) (xa := some (blk qq)) (m := 1) (xc := 1) (news := [x.v]) rfl (RowAt.of_blk hb) (fun u hu => by simp at hu; subst hu; rfl) (by omega) (by omega)
  refine ⟨a', c', w', o', by rw [List.length_append]; exact hrun, s1.none.trans s2, ⟨?_, fun y hy => ?_⟩⟩
  · rw [List.length_append, List.map_append]; exact hrow
  · rcases List.mem_append.1 hy with hy | hy
    · exact ((h.oks y hy).step s1).step s2
    · simp at hy; subst hy; exact (hx.step s1).step s2
end
end Go.Proofs.Ytidijnfkcpbkiaa
