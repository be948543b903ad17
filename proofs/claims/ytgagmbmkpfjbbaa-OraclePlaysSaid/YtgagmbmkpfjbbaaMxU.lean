/- append(x, make([]byte, m)...). -/
import Derived.Test.YtgagmbmkpfjbbaaMxT
import Derived.Deep.AppendSrc
set_option linter.unusedSimpArgs false
set_option linter.unusedVariables false
set_option linter.unusedSectionVars false
namespace Go.Mx
open Go
theorem zeroCells_byte (v : Value) (m : Nat) : (Builtin.zeroCells #[v] m).toList = List.replicate m v := by
  unfold Builtin.zeroCells
  rw [Array.toList_map]
  apply List.ext_getElem
  · simp
  · intro j h1 h2
    simp [Nat.mod_one]
theorem wrap_i64 {m : Nat} (h : m ≤ 1000000) : IntKind.i64.wrap (m : Int) = m := by
  simp [IntKind.wrap, IntKind.signed, IntKind.bits, IntKind.min, IntKind.max]
  omega
section
variable {P : Program} {w : World} {t tn ty e : TypeId} {i : TypeInfo} {kn : IntKind} {k : IntKind}
theorem run_appendz_room (ht : P.underlying t = some (.slice e)) (htn : P.underlying tn = some (.int kn)) (hi : P.info? e = some i) (hz : i.zero = some (.int .u8 0)) (hs : i.size = 1) (hb : i.bytes = 1)
    {b sLen sCap m : Nat} {cur : Array Value} (hg : w.heap[b]? = some (.cells cur e (0, 0))) (hm : 0 < m) (hm2 : m ≤ 1000000) (hroom : sLen + m ≤ sCap) (hfit : sLen + m ≤ cur.size) :
    (Builtin.append_ #[t, tn] ty #[.slice (some ⟨b, 0, none⟩) sLen sCap, .int k m]).run P w = .ok (.slice (some ⟨b, 0, none⟩) (sLen + m) sCap) (w.setRow b (cur.toList.take sLen ++ List.replicate m (Value.int .u8 0) ++ cur.toList.drop (sLen + m)).toArray) := by
  have hst := run_storeCells_at P b sLen e (List.replicate m (.int .u8 0)) 0 cur w hg (by simpa using hfit) (by intro u hu; rw [List.eq_of_mem_replicate hu]; rfl)
  simp only [Nat.add_zero, List.length_replicate] at hst
  have hw := wrap_i64 hm2
  have h0 : ¬ ((m : Int) < 0) := by omega
  have h1 : ¬ (281474976710656 < (m : Int)) := by omega
  have h2 : m ≠ 0 := by omega
  have hzc := zeroCells_byte (.int .u8 0) m
  simp [Builtin.append_, run_underlying ht, run_underlying htn, sizeOf, typeInfo, hi, hs, hb, asInt, asIntOf, hw, h0, h1, h2, hroom, zeroValue, hz, Value.cells, hzc, Addr.add_lit, hst]
theorem run_appendz_grow (ht : P.underlying t = some (.slice e)) (htn : P.underlying tn = some (.int kn)) (hi : P.info? e = some i) (hz : i.zero = some (.int .u8 0)) (hs : i.size = 1) (hb : i.bytes = 1)
    {base : Option Addr} {sLen sCap m : Nat} {olds : List Value} (hold : (Builtin.firstCells 1 sLen (.slice base sLen sCap)).run P w.drew = .ok olds.toArray w.drew) (hm : 0 < m) (hm2 : m ≤ 1000000) (hl : sLen ≤ 1000000)
    (hg : sCap < sLen + m) :
    (Builtin.append_ #[t, tn] ty #[.slice base sLen sCap, .int k m]).run P w =
      .ok (.slice (some ⟨w.heap.size, 0, none⟩) (sLen + m) (grownCap w (sLen + m) sCap e))
        (w.drew.alloc (.cells ((olds ++ List.replicate m (Value.int .u8 0)).toArray ++ Builtin.zeroCells #[Value.int .u8 0] (grownCap w (sLen + m) sCap e - (sLen + m))) e)) := by
  have hw := wrap_i64 hm2
  have h0 : ¬ ((m : Int) < 0) := by omega
  have h1 : ¬ (281474976710656 < (m : Int)) := by omega
  have h2 : m ≠ 0 := by omega
  have hn : ¬ (sLen + m ≤ sCap) := by omega
  have h63' : ¬ (9223372036854775807 < ((sLen : Int) + (m : Int))) := by omega
  have h48 : Builtin.nextslicecap (sLen + m) sCap * 1 ≤ 281474976710656 := growslice_fits (by omega) (by omega)
  have h48' : ¬ (281474976710656 < Builtin.nextslicecap (sLen + m) sCap) := by omega
  have hzc := zeroCells_byte (.int .u8 0) m
  simp [Builtin.append_, run_underlying ht, run_underlying htn, sizeOf, typeInfo, hi, hs, hb, asInt, asIntOf, hw, h0, h1, h2, hn, h63', h48', zeroValue, hz, Value.cells, Question.forced, hold, newRow, grownCap]
  congr 2
  apply Array.ext'
  simp [hzc, List.append_assoc]
theorem run_appendz (ht : P.underlying t = some (.slice e)) (htn : P.underlying tn = some (.int kn)) (hi : P.info? e = some i) (hz : i.zero = some (.int .u8 0)) (hs : i.size = 1) (hb : i.bytes = 1)
    {v : Value} {n m : Nat} {xs : List Value} (hown : w.ownsRow 0 e 1 v n xs) (hm : 0 < m) (hm2 : m ≤ 1000000) (hl : n ≤ 1000000) :
    ∃ a' c' w', (Builtin.append_ #[t, tn] ty #[v, .int k m]).run P w = .ok (.slice a' (n + m) c') w' ∧ w'.ownsRow 0 e 1 (.slice a' (n + m) c') (n + m) (xs ++ List.replicate m (.int .u8 0)) ∧ w.grownBy w' v.ownBlock ∧
      ((Value.slice a' (n + m) c').ownBlock = v.ownBlock ∨ (Value.slice a' (n + m) c').ownBlock = some w.heap.size) := by
  have hlen : (xs ++ List.replicate m (Value.int .u8 0)).length = (n + m) * 1 := by rw [List.length_append, hown.1, List.length_replicate]; omega
  have grown : ∀ (old : Nat), old < n + m → ∀ (row : Option Nat),
      (w.drew.alloc (.cells ((xs ++ List.replicate m (Value.int .u8 0)).toArray ++ Builtin.zeroCells #[Value.int .u8 0] (grownCap w (n + m) old e - (n + m))) e)).ownsRow 0 e 1
        (.slice (some ⟨w.heap.size, 0, none⟩) (n + m) (grownCap w (n + m) old e)) (n + m) (xs ++ List.replicate m (.int .u8 0)) ∧
      w.grownBy (w.drew.alloc (.cells ((xs ++ List.replicate m (Value.int .u8 0)).toArray ++ Builtin.zeroCells #[Value.int .u8 0] (grownCap w (n + m) old e - (n + m))) e)) row := by
    intro old ho row
    have hge := grownCap_ge w (n + m) old e
    have hcm : grownCap w (n + m) old e ≤ maxLen := grownCap_le_maxLen w (n + m) old e (by unfold maxLen; omega)
    refine ⟨⟨hlen, .inr ⟨w.heap.size, _, _, rfl, Nat.zero_le _, heap_alloc_new w.drew _, hge, hcm, ?_, ?_⟩⟩, ⟨rfl, rfl, rfl, by simp, fun k hk _ => heap_alloc_old w.drew _ k hk⟩⟩
    · simp only [Array.size_append, List.size_toArray, size_zeroCells, hlen]
      show (n + m) * 1 + _ * 1 = _
      omega
    · simp only [Array.toList_append]
      rw [← hlen]
      exact List.take_left
  rcases hown.2 with ⟨rfl, rfl⟩ | ⟨g, cap, cur, rfl, hbg, hg, hnc, hcm, hcs, htake⟩
  · have hx : xs = [] := List.eq_nil_of_length_eq_zero (by simpa using hown.1)
    subst hx
    have hr := run_appendz_grow (P := P) (w := w) (ty := ty) (k := k) (base := none) (sLen := 0) (sCap := 0) (olds := []) ht htn hi hz hs hb rfl hm hm2 (Nat.zero_le _) (by omega)
    have hgr := grown 0 (by omega) (Value.ownBlock (.slice none 0 0))
    exact ⟨_, _, _, hr, hgr.1, hgr.2, Or.inr rfl⟩
  · have hxl := hown.1
    by_cases hroom : n + m ≤ cap
    · have hfit : n + m ≤ cur.size := by omega
      have hr := run_appendz_room (P := P) (w := w) (ty := ty) (k := k) (b := g) (sLen := n) (sCap := cap) ht htn hi hz hs hb hg hm hm2 hroom hfit
      refine ⟨_, _, _, hr, ⟨hlen, .inr ⟨g, cap, _, rfl, hbg, setRow_heap w g cur _ e _ hg, hroom, hcm, ?_, ?_⟩⟩, ⟨rfl, rfl, rfl, by simp, fun k _ hk => setRow_other w g k _ (fun e => hk (by simp [Value.ownBlock, e]))⟩, Or.inl rfl⟩
      · simp only [List.size_toArray, List.length_append, List.length_take, List.length_drop, Array.length_toList, List.length_replicate]
        omega
      · rw [Nat.mul_one] at htake
        rw [htake, ← hlen]
        exact List.take_left
    · have holds : ∀ j u, xs[j]? = some u → w.cell? ((⟨g, 0, none⟩ : Addr).add j) = some u := hown.cells (g := g) rfl
      have hr := run_appendz_grow (P := P) (w := w) (ty := ty) (k := k) (base := some ⟨g, 0, none⟩) (sLen := n) (sCap := cap) (olds := xs) ht htn hi hz hs hb (run_firstCells_some (P := P) w.drew 1 n ⟨g, 0, none⟩ n cap xs hown.1 (by simpa using holds)) hm hm2 hl (by omega)
      have hgr := grown cap (by omega) (Value.ownBlock (.slice (some ⟨g, 0, none⟩) n cap))
      exact ⟨_, _, _, hr, hgr.1, hgr.2, Or.inr rfl⟩
end
end Go.Mx
