/- Classes of lengths, numbers in eight bytes; what sealing, opening, wrapping and unwrapping do. -/
import Derived.Test.YtgagmbmkpfjbbaaOraD
import Derived.Test.YtgagmbmkpfjbbaaMxP
set_option linter.unusedVariables false
set_option linter.unusedSimpArgs false
namespace Go.Proofs.Ytgagmbmkpfjbbaa
open Go Go.Mx Go.Proofs

def roomN (c : Nat) : Int := if (16 * 2 ^ c : Int) - 1 ≥ 128 then (16 * 2 ^ c : Int) - 2 else (16 * 2 ^ c : Int) - 1
def classF (n : Int) : Nat → Nat → Int
  | 0, t => -1
  | k + 1, t => if n ≤ roomN t then (t : Int) else classF n k (t + 1)
def classOf (n : Nat) : Int := classF n 7 0
def sizeN (c : Int) : Nat := if 0 ≤ c ∧ c < 7 then 16 * 2 ^ c.toNat else 0
theorem seven {P : Nat → Prop} {t : Nat} (h : t < 7) (h0 : P 0) (h1 : P 1) (h2 : P 2) (h3 : P 3) (h4 : P 4) (h5 : P 5) (h6 : P 6) : P t := by
  match t, h with
  | 0, _ => exact h0
  | 1, _ => exact h1
  | 2, _ => exact h2
  | 3, _ => exact h3
  | 4, _ => exact h4
  | 5, _ => exact h5
  | 6, _ => exact h6
theorem classF_range (n : Int) : ∀ (k t : Nat), k + t = 7 → -1 ≤ classF n k t ∧ classF n k t < 7
  | 0, t, h => ⟨Int.le_refl _, by show (-1 : Int) < 7; omega⟩
  | k + 1, t, h => by
    simp only [classF]
    split
    · omega
    · exact classF_range n k (t + 1) (by omega)
theorem classOf_range (n : Nat) : -1 ≤ classOf n ∧ classOf n < 7 := classF_range _ 7 0 rfl
theorem sizeN_le (c : Int) : sizeN c ≤ 1024 := by
  unfold sizeN
  split
  · rename_i h
    obtain ⟨t, rfl⟩ : ∃ t : Nat, c = t := ⟨c.toNat, by omega⟩
    have ht : t < 7 := by omega
    rw [Int.toNat_natCast]
    exact seven (P := fun t => 16 * 2 ^ t ≤ 1024) ht (by decide) (by decide) (by decide) (by decide) (by decide) (by decide) (by decide)
  · omega

section
variable {w w' : World} {g : OG} {S : OS}
theorem size_spec (c : Int) : Calls Try.prog 50 #[.int .i64 c] w (Gives (.int .i64 (sizeN c)) fun w' => w' = w) := by
  refine (bsize.ok _ (R := fun v w' => v = .int .i64 (sizeN c) ∧ w' = w) ?_).mono fun e w' ⟨v, he, hv, hw⟩ => ⟨by rw [he, hv], hw⟩
  unfold bsize.M
  by_cases h1 : c < 0
  · rw [decide_eq_true h1]
    have : sizeN c = 0 := by unfold sizeN; rw [if_neg (by omega)]
    rw [this]; exact ⟨rfl, rfl⟩
  rw [decide_eq_false h1, cond_false]
  by_cases h2 : c ≥ 7
  · rw [decide_eq_true h2]
    have : sizeN c = 0 := by unfold sizeN; rw [if_neg (by omega)]
    rw [this]; exact ⟨rfl, rfl⟩
  rw [decide_eq_false h2, cond_false]
  refine ⟨by omega, ?_, rfl⟩
  obtain ⟨t, rfl⟩ : ∃ t : Nat, c = t := ⟨c.toNat, by omega⟩
  have ht : t < 7 := by omega
  clear h1 h2
  exact seven (P := fun t => Value.int IntKind.i64 (IntKind.i64.wrap (16 * 2 ^ min (Int.toNat (t : Int)) (IntKind.bits .i64))) = Value.int IntKind.i64 (sizeN (t : Int))) ht rfl rfl rfl rfl rfl rfl rfl
theorem Size_spec (c : Int) : Calls Try.prog 41 #[.int .i64 c] w (Gives (.int .i64 (sizeN c)) fun w' => w' = w) := by
  refine (bSize.ok _ (R := fun v w' => v = .int .i64 (sizeN c) ∧ w' = w) ?_).mono fun e w' ⟨v, he, hv, hw⟩ => ⟨by rw [he, hv], hw⟩
  unfold bSize.M
  exact (size_spec c).mono fun e w4 ⟨he, hw⟩ => ⟨_, he, rfl, hw⟩
theorem room_spec {t : Nat} (ht : t < 7) : Calls Try.prog 49 #[.int .i64 t] w (Gives (.int .i64 (roomN t)) fun w' => w' = w) := by
  refine (broom.ok _ (R := fun v w' => v = .int .i64 (roomN t) ∧ w' = w) ?_).mono fun e w' ⟨v, he, hv, hw⟩ => ⟨by rw [he, hv], hw⟩
  unfold broom.M
  refine (size_spec t).mono fun e w4 ⟨he, hw⟩ => ⟨_, he, ?_⟩
  subst hw
  clear he
  exact seven (P := fun t => bif decide (IntKind.i64.wrap ((sizeN (t : Int) : Int) - 1) ≥ 128) then (Value.int IntKind.i64 (IntKind.i64.wrap (IntKind.i64.wrap ((sizeN (t : Int) : Int) - 1) - 1)) = Value.int IntKind.i64 (roomN t) ∧ w4 = w4) else
    (Value.int IntKind.i64 (IntKind.i64.wrap ((sizeN (t : Int) : Int) - 1)) = Value.int IntKind.i64 (roomN t) ∧ w4 = w4)) ht ⟨rfl, rfl⟩ ⟨rfl, rfl⟩ ⟨rfl, rfl⟩ ⟨rfl, rfl⟩ ⟨rfl, rfl⟩ ⟨rfl, rfl⟩ ⟨rfl, rfl⟩
theorem Class_spec (n : Nat) : Calls Try.prog 38 #[.int .i64 n] w (Gives (.int .i64 (classOf n)) fun w' => w' = w) := by
  refine (bClass.ok _ (R := fun v w' => v = .int .i64 (classOf n) ∧ w' = w) ?_).mono fun e w' ⟨v, he, hv, hw⟩ => ⟨by rw [he, hv], hw⟩
  unfold bClass.M
  refine ⟨fun k vs w1 => ∃ t : Nat, vs = [.int .i64 t] ∧ k + t = 7 ∧ classF n k t = classOf n ∧ w1 = w, 7, ⟨0, rfl, rfl, rfl, rfl⟩, ?_⟩
  rintro k w1 i ⟨t, hi, hk, hc, rfl⟩
  simp only [List.cons.injEq, Value.int.injEq, true_and, and_true] at hi
  subst hi
  cases k with
  | zero =>
    obtain rfl : t = 7 := by omega
    exact ⟨by rw [← hc]; rfl, rfl⟩
  | succ k =>
    have ht : t < 7 := by omega
    rw [show decide ((t : Int) < 7) = true by simp; omega, cond_true, show decide ((n : Int) ≥ 0) = true by simp, cond_true]
    refine (room_spec ht).mono fun e w8 ⟨he, hw⟩ => ⟨_, he, ?_⟩
    subst hw
    simp only [classF] at hc
    by_cases hr : (n : Int) ≤ roomN t
    · rw [if_pos hr] at hc
      rw [decide_eq_true hr, cond_true]
      exact ⟨by rw [hc], rfl⟩
    · rw [if_neg hr] at hc
      rw [decide_eq_false hr, cond_false]
      exact ⟨k, by omega, t + 1, by rw [w64 (by omega) (by omega)]; rfl, by omega, hc, rfl⟩
theorem box_spec {h : Nat} (hh : h < 18446744073709551616) {more : Nat} (hm : more ≤ 100000) :
    Calls Try.prog 40 #[.int .u64 h, .int .i64 more] w (fun e w' => ∃ a', e = .returned (.slice a' (boxL h more).length (boxL h more).length) ∧ RowAt w' a' (bytesV (boxL h more)) ∧ Ext no w w' ∧ Fresh w w' a') := by
  refine (oBox.ok _ _ (R := fun v w' => ∃ a', v = .slice a' (boxL h more).length (boxL h more).length ∧ RowAt w' a' (bytesV (boxL h more)) ∧ Ext no w w' ∧ Fresh w w' a') ?_).mono fun e w' ⟨v, he, a', hv, hw⟩ => ⟨a', by rw [he, hv], hw⟩
  unfold oBox.M
  obtain ⟨i, hi, hz, hs, hb⟩ := info_of inf5
  have hmk := run_makeSlice (P := Try.prog) (w := w) 23 5 i _ Try.underlying23 hi hz .i64 .i64 (8 + more) (8 + more) (by omega) (Int.le_refl _) (by rw [hs]; omega) (by rw [hb]; omega) (by omega)
  have e8 : IntKind.i64.wrap ((8 : Int) + more) = 8 + more := w64 (by omega) (by omega)
  rw [e8]
  rw [hs, show ((8 : Int) + more).toNat = 8 + more by omega] at hmk
  have hcells : (madeCells (Value.int .u8 0).cells ((8 + more) * 1)) = (bytesV (boxT h more 0)).toArray := by
    apply Array.ext'
    rw [show (Value.int .u8 0).cells = #[Value.int .u8 0] from rfl, toList_madeCells_one, Nat.mul_one]
    show _ = bytesV (boxT h more 0)
    rw [show boxT h more 0 = List.replicate 8 0 ++ List.replicate more 0 from rfl, List.replicate_append_replicate, bytesV, List.map_replicate]
    rfl
  rw [hcells] at hmk
  refine ⟨_, _, _, _, hmk, ?_⟩
  have hb0 := Blk.new w 5 (bytesV (boxT h more 0))
  refine ⟨fun k vs w1 => ∃ t : Nat, vs = [.int .i64 t] ∧ k + t = 8 ∧ Blk w1 w.heap.size 5 (bytesV (boxT h more t)) ∧ Ext no w w1, 8, ⟨0, rfl, rfl, hb0, (Ext.refl _ _).alloc _⟩, ?_⟩
  rintro k w1 i ⟨t, hi, hk, hbt, hx⟩
  simp only [List.cons.injEq, Value.int.injEq, true_and, and_true] at hi
  subst hi
  cases k with
  | zero =>
    obtain rfl : t = 8 := by omega
    refine ⟨some ⟨w.heap.size, 0, none⟩, ?_, RowAt.of_blk hbt, hx, fun ad ha => ?_⟩
    · rw [boxL_length]
    · cases ha; exact ⟨Nat.le_refl _, hbt.lt⟩
  | succ k =>
    have ht : t < 8 := by omega
    rw [show decide ((t : Int) < 8) = true by simp; omega, cond_true]
    have e1 : IntKind.i64.wrap ((56 : Int) - IntKind.i64.wrap (8 * (t : Int))) = ((56 - 8 * t : Nat) : Int) := by
      rw [w64 (n := 8 * (t : Int)) (by omega) (by omega), w64 (n := 56 - 8 * (t : Int)) (by omega) (by omega)]; omega
    rw [e1]
    refine ⟨by omega, by omega, by omega, ?_, ?_⟩
    · rw [show ((⟨w.heap.size, 0, none⟩ : Addr).add (Int.toNat (t : Int) * 1)).add 0 = (blk w.heap.size).add t by rw [add_zero, Int.toNat_natCast, Nat.mul_one]]
      exact hbt.cana (v := ((bytesV (boxT h more t))[t]?).getD .nilIface) (by
        rw [List.getElem?_eq_getElem (by rw [bytesV_length, boxT_length]; omega)]; rfl)
    · refine thenW_in fun w10 h10 => ⟨k, by omega, t + 1, ?_, by omega, ?_, ?_⟩
      · rw [w64 (by omega) (by omega)]; rfl
      · have hset := hbt.seta t (.int .u8 (IntKind.u8.wrap (Int.fdiv (h : Int) (2 ^ (min (Int.toNat ((56 - 8 * t : Nat) : Int)) (IntKind.bits .u64))))))
        rw [show ((⟨w.heap.size, 0, none⟩ : Addr).add (Int.toNat (t : Int) * 1)).add 0 = (blk w.heap.size).add t by rw [add_zero, Int.toNat_natCast, Nat.mul_one]] at h10
        rw [← h10] at hset
        have hv : IntKind.u8.wrap (Int.fdiv (h : Int) (2 ^ (min (Int.toNat ((56 - 8 * t : Nat) : Int)) (IntKind.bits .u64)))) = ((byteAt h t).toNat : Int) := by
          rw [byteAt_toNat, IntKind.wrap_u8, Int.toNat_natCast, show min (56 - 8 * t) (IntKind.bits .u64) = 56 - 8 * t by rw [show IntKind.bits .u64 = 64 from rfl]; omega,
            Int.fdiv_eq_ediv_of_nonneg _ (Int.le_of_lt (Int.pow_pos (by decide))), Int.natCast_emod, Int.natCast_ediv, Int.natCast_pow]
          rfl
        rw [hv] at hset
        have hl : (bytesV (boxT h more t)).set t (.int .u8 ((byteAt h t).toNat : Int)) = bytesV (boxT h more (t + 1)) := by
          clear hset hv h10 e1 hbt hk hmk hcells
          match t, ht with
          | 0, _ => rfl
          | 1, _ => rfl
          | 2, _ => rfl
          | 3, _ => rfl
          | 4, _ => rfl
          | 5, _ => rfl
          | 6, _ => rfl
          | 7, _ => rfl
        rw [hl] at hset
        exact hset
      · rw [h10]; exact hx.setCell (.inr (by rw [block_add, block_add]; exact Nat.le_refl _)) _

/-- no byte but 0? -/
theorem cf_spec {a : Option Addr} {c : Nat} {bs : List UInt8} (h : RowAt w a (bytesV bs)) (hl : bs.length < 1000000) :
    Calls Try.prog 52 #[.slice a bs.length c, .func (.func 53) #[] #[]] w (Gives (.bool (bs.any fun c => c != 0)) fun w' => w' = w) := by
  refine (bCF.ok _ _ _ _ _ _ (R := fun v w' => v = .bool (bs.any fun c => c != 0) ∧ w' = w) ?_).mono fun e w' ⟨v, he, hv, hw⟩ => ⟨by rw [he, hv], hw⟩
  unfold bCF.M
  refine (bIF.ok _ _ _ _ _ _ (R := fun v w' => (∃ n, v = .int .i64 n ∧ decide (n ≥ 0) = bs.any fun c => c != 0) ∧ w' = w) ?_).mono fun e w' ⟨v, he, ⟨n, hv, hn⟩, hw⟩ => ⟨n, by rw [he, hv], by rw [hn], hw⟩
  unfold bIF.M
  refine ⟨fun k vs w1 => ∃ t : Nat, vs = [.int .i64 t] ∧ k + t = bs.length ∧ (bs.take t).any (fun c => c != 0) = false ∧ w1 = w, bs.length, ⟨0, rfl, rfl, rfl, rfl⟩, ?_⟩
  rintro k w1 i ⟨t, hi, hk, hc, rfl⟩
  simp only [List.cons.injEq, Value.int.injEq, true_and, and_true] at hi
  subst hi
  cases k with
  | zero =>
    obtain rfl : t = bs.length := by omega
    rw [show decide ((bs.length : Int) < bs.length) = false by simp, cond_false]
    rw [List.take_length] at hc
    exact ⟨⟨-1, rfl, by rw [hc]; rfl⟩, rfl⟩
  | succ k =>
    have ht : t < bs.length := by omega
    rw [show decide ((t : Int) < bs.length) = true by simp; omega, cond_true]
    obtain ⟨ad, rfl⟩ := h.addr (by intro e; rw [bytesV, List.map_eq_nil_iff] at e; subst e; simp at ht)
    refine ⟨by omega, by omega, bs[t].toNat, ?_, ?_⟩
    · rw [show Int.toNat (t : Int) * 1 = t by omega]; exact h.at_ (bytesV_get ht)
    · rw [show enters Try.prog 53 = true by kernel_rfl, cond_true]
      refine (hNz.ok (bs[t].toNat) (R := fun v w' => v = .bool ((bs[t].toNat : Int) != 0) ∧ w' = w1) ⟨rfl, rfl⟩).mono fun e w' ⟨v, he, hv, hw⟩ => ⟨(bs[t].toNat : Int) != 0, by rw [he, hv], ?_⟩
      subst hw
      by_cases hb : bs[t] = 0
      · have hb2 : ((bs[t].toNat : Int) != 0) = false := by simp [hb]
        rw [hb2, cond_false]
        refine ⟨k, by omega, t + 1, by rw [w64 (by omega) (by omega)]; rfl, by omega, ?_, rfl⟩
        rw [List.take_add_one, List.any_append, hc]
        simp [ht, hb]
      · have hb2 : ((bs[t].toNat : Int) != 0) = true := by
          simp only [bne_iff_ne, ne_eq]
          intro e
          exact hb (UInt8.toNat_inj.1 (by show _ = 0; omega))
        rw [hb2, cond_true]
        refine ⟨⟨t, rfl, ?_⟩, rfl⟩
        rw [decide_eq_true (by omega), eq_comm, List.any_eq_true]
        exact ⟨bs[t], List.getElem_mem ht, by simpa using hb⟩

theorem handle_spec {a : Option Addr} {c : Nat} {bs : List UInt8} (h : RowAt w a (bytesV bs)) (hl : bs.length < 1000000) (hle : bs.length ≤ c) :
    Calls Try.prog 45 #[.slice a bs.length c] w (Gives (.int .u64 (handL bs)) fun w' => w' = w) := by
  refine (oHandle.ok _ _ _ (R := fun v w' => v = .int .u64 (handL bs) ∧ w' = w) ?_).mono fun e w' ⟨v, he, hv, hw⟩ => ⟨by rw [he, hv], hw⟩
  unfold oHandle.M
  by_cases h8 : bs.length < 8
  · rw [show decide ((bs.length : Int) < 8) = true by simp; omega, cond_true]
    have : handL bs = 0 := by unfold handL; rw [if_pos h8]
    rw [this]; exact ⟨rfl, rfl⟩
  rw [show decide ((bs.length : Int) < 8) = false by simp; omega, cond_false]
  refine ⟨by omega, by omega, ?_⟩
  have hd := h.drop 8 c (fun e => by rw [bytesV_length]; omega)
  have hdl : (bs.drop 8).length = bs.length - 8 := List.length_drop
  have hcf := cf_spec (c := c - 8) (bs := bs.drop 8) (w := w) (a := if c = 8 then a else a.map (·.add 8)) (by rw [bytesV, List.map_drop]; exact hd) (by omega)
  rw [hdl] at hcf
  refine hcf.mono fun e w4 ⟨he, hw⟩ => ⟨_, he, ?_⟩
  subst hw
  by_cases hz : (bs.drop 8).any (fun c => c != 0) = true
  · rw [hz, cond_true]
    have : handL bs = 0 := by unfold handL; rw [if_neg h8, if_pos hz]
    rw [this]; exact ⟨rfl, rfl⟩
  have hz' : ((bs.drop 8).any fun c => c != 0) = false := by simpa using hz
  rw [hz', cond_false]
  have hv : handL bs = valOf (bs.take 8) := by unfold handL; rw [if_neg h8, if_neg hz]
  refine ⟨by omega, by omega, ?_⟩
  refine ⟨fun k vs w1 => ∃ t : Nat, vs = [.int .u64 (valOf (bs.take t)), .int .i64 t] ∧ k + t = 8 ∧ w1 = w4, 8, ⟨0, rfl, rfl, rfl⟩, ?_⟩
  rintro k w1 n i ⟨t, hi, hk, rfl⟩
  simp only [List.cons.injEq, Value.int.injEq, true_and, and_true] at hi
  obtain ⟨rfl, rfl⟩ := hi
  cases k with
  | zero =>
    obtain rfl : t = 8 := by omega
    exact ⟨by rw [hv], rfl⟩
  | succ k =>
    have ht : t < 8 := by omega
    rw [show decide ((t : Int) < ((Int.toNat 8 : Nat) : Int) - 0) = true by simp; omega, cond_true]
    obtain ⟨ad, rfl⟩ := h.addr (by intro e; rw [bytesV, List.map_eq_nil_iff] at e; subst e; simp at h8)
    rw [if_neg (by omega : ¬ c = 0)]
    have htl : t < bs.length := by omega
    refine ⟨by omega, by simp; omega, bs[t].toNat, ?_, by omega, k, by omega, t + 1, ?_, by omega, rfl⟩
    · rw [show ((ad.add (0 * 1)).add (Int.toNat (t : Int) * 1)) = ad.add t by rw [Nat.zero_mul, add_zero, Nat.mul_one, Int.toNat_natCast]]
      exact h.at_ (bytesV_get htl)
    · have hlt := valOf_lt t (bs.take t) (by simp; omega)
      have hlt2 : valOf (bs.take t) < 2 ^ 56 := by
        refine Nat.lt_of_lt_of_le hlt ?_
        exact Nat.le_trans (Nat.pow_le_pow_right (by decide) (by omega : t ≤ 7)) (by decide)
      have hx := u8_lt bs[t]
      rw [or_byte hlt2 hx, wu64 (by omega) (by omega), w64 (by omega) (by omega), List.take_add_one, show bs[t]?.toList = [bs[t]] by simp [htl], valOf_snoc]
      simp
theorem equal_spec {a b : Option Addr} {c d : Nat} {x y : List UInt8} (ha : RowAt w a (bytesV x)) (hb : RowAt w b (bytesV y)) :
    Calls Try.prog 46 #[.slice a x.length c, .slice b y.length d] w (Gives (.bool (decide (x = y))) fun w' => w' = w) := by
  refine (bEqual.ok _ _ _ _ _ _ (R := fun v w' => v = .bool (decide (x = y)) ∧ w' = w) ?_).mono fun e w' ⟨v, he, hv, hw⟩ => ⟨by rw [he, hv], hw⟩
  unfold bEqual.M
  refine ⟨_, conv_str (P := Try.prog) (c := c) Try.underlying23 Try.underlying5 Try.underlying9 ha, _, conv_str (P := Try.prog) (c := d) Try.underlying23 Try.underlying5 Try.underlying9 hb, ?_, rfl⟩
  rw [← beq_toListBytes, bytes_beq]
end
end Go.Proofs.Ytgagmbmkpfjbbaa
