/- ForkcheckChecks. -/
import Derived.Test.YtlfijjmjmgobhaaFckC
import Derived.Test.YtlfijjmjmgobhaaEntL
set_option linter.unusedVariables false
set_option linter.unusedSimpArgs false
set_option maxRecDepth 20000
set_option maxHeartbeats 2000000
namespace Go.Proofs.Ytlfijjmjmgobhaa
open Go Go.Mx Go.Proofs
open W (OwnB GivesW numR countR doneR zig unzig intR)
/-- cachettelaw23.short -/
def cachettelaw23_short.M (ev1a : Option Addr) (ev1n : Nat) (ev1c : Nat) (R : Value → World → Prop) (w : World) : Prop :=
  ∃ (I0 : Nat → List Value → World → Prop) (m3 : Nat), I0 m3 [.int .i64 0] w ∧ ∀ (m4 : Nat) (ww5 : World) (i2 : Int), I0 m4 [.int .i64 i2] ww5 →
  bif decide (i2 < (ev1n : Int)) then (
  ev1a.elim False fun a6 =>
  0 ≤ (i2 : Int) ∧ (i2 : Int) < (ev1n : Int) ∧
  ∃ (Body7a : Option Addr) (Body7n : Nat) (Body7c : Nat), ww5.cell? ((a6.add (Int.toNat i2 * 8)).add 6) = some (.slice Body7a Body7n Body7c) ∧
  bif decide ((Body7n : Int) > 1500) then (
  R (.bool false) ww5) else (
  ∃ m8, m8 < m4 ∧ I0 m8 [.int .i64 (IntKind.i64.wrap (i2 + 1))] ww5)) else (
  R (.bool true) ww5)

theorem cachettelaw23_short.eq (ev1a : Option Addr) (ev1n : Nat) (ev1c : Nat) (R : Value → World → Prop) (w : World) : mfunc Try.prog [(0, [0], [(3, (.one (.int .i64)))])] 8 [.slice ev1a ev1n ev1c] R w = cachettelaw23_short.M ev1a ev1n ev1c R w := by kernel_rfl
theorem cachettelaw23_short.ok (ev1a : Option Addr) (ev1n : Nat) (ev1c : Nat) {R : Value → World → Prop} {w : World} (h : cachettelaw23_short.M ev1a ev1n ev1c R w) : Calls Try.prog 8 #[.slice ev1a ev1n ev1c] w fun e w' => ∃ v, e = .returned v ∧ R v w' :=
  mfunc_ok follows (H := [(0, [0], [(3, (.one (.int .i64)))])]) (args := [.slice ev1a ev1n ev1c]) (by rw [cachettelaw23_short.eq]; exact h)

def cachettelaw23_short.N (ev1a : Option Addr) (ev1n : Nat) (ev1c : Nat) (R : Value → World → Prop) (w : World) : Prop :=
  ∃ (I0 : Nat → List Value → World → Prop) (m3 : Nat), I0 m3 [.int .i64 0] w ∧ ∀ (m4 : Nat) (ww5 : World) (i2 : Int), I0 m4 [.int .i64 i2] ww5 →
  (i2 < (ev1n : Int) →
    ∃ a7 : Addr, ev1a = some a7 ∧
    0 ≤ (i2 : Int) ∧ (i2 : Int) < (ev1n : Int) ∧
    ∃ (Body9a : Option Addr) (Body9n : Nat) (Body9c : Nat), ww5.cell? ((a7.add (Int.toNat i2 * 8)).add 6) = some (.slice Body9a Body9n Body9c) ∧
    ((Body9n : Int) > 1500 →
      R (.bool false) ww5) ∧
    ((Body9n : Int) ≤ 1500 →
      (-9223372036854775808 : Int) ≤ (i2 + 1) ∧ (i2 + 1) < 9223372036854775808 ∧
      ∃ m11, m11 < m4 ∧ I0 m11 [.int .i64 (i2 + 1)] ww5)) ∧
  ((ev1n : Int) ≤ i2 →
    R (.bool true) ww5)

theorem cachettelaw23_short.up (ev1a : Option Addr) (ev1n : Nat) (ev1c : Nat) {R : Value → World → Prop} {w : World} (h : cachettelaw23_short.N ev1a ev1n ev1c R w) : cachettelaw23_short.M ev1a ev1n ev1c R w := by
  unfold cachettelaw23_short.M
  unfold cachettelaw23_short.N at h
  obtain ⟨I0, m3, h0, h⟩ := h
  refine ⟨I0, m3, h0, fun m4 ww5 i2 hI => ?_⟩
  have h := h m4 ww5 i2 hI
  refine bif_of (fun c6 => ?_) (fun c6 => ?_)
  · have h := h.1 (of_decide_eq_true c6)
    obtain ⟨a7, ha7, h⟩ := h
    refine elim_some ha7 ?_
    obtain ⟨hq1, hq2, h⟩ := h
    refine ⟨hq1, hq2, ?_⟩
    obtain ⟨Body9a, Body9n, Body9c, hc8, h⟩ := h
    refine ⟨Body9a, Body9n, Body9c, hc8, ?_⟩
    refine bif_of (fun c10 => ?_) (fun c10 => ?_)
    · have h := h.1 (of_decide_eq_true c10)
      exact h
    · have h := h.2 (Int.not_lt.1 (of_decide_eq_false c10))
      obtain ⟨hw1, hw2, h⟩ := h
      try rw [w64 hw1 hw2]
      obtain ⟨m11, hk, h⟩ := h
      exact ⟨m11, hk, h⟩
  · have h := h.2 (Int.not_lt.1 (of_decide_eq_false c6))
    exact h

theorem cachettelaw23_short.go (ev1a : Option Addr) (ev1n : Nat) (ev1c : Nat) {R : Value → World → Prop} {w : World} (h : cachettelaw23_short.N ev1a ev1n ev1c R w) : Calls Try.prog 8 #[.slice ev1a ev1n ev1c] w fun e w' => ∃ v, e = .returned v ∧ R v w' := cachettelaw23_short.ok ev1a ev1n ev1c (cachettelaw23_short.up ev1a ev1n ev1c h)
theorem cachettelaw23_short.run (ev1a : Option Addr) (ev1n : Nat) (ev1c : Nat) {V : Value} {Q : World → Prop} {w : World} (h : cachettelaw23_short.N ev1a ev1n ev1c (fun v w' => v = V ∧ Q w') w) : Calls Try.prog 8 #[.slice ev1a ev1n ev1c] w (Ret V Q) := (cachettelaw23_short.go ev1a ev1n ev1c h).mono fun e w' ⟨v, he, hv, hq⟩ => ⟨by rw [he, hv], hq⟩

theorem short_spec {w : World} {a : Option Addr} {c : Nat} {l : List PE} (h : RowAt w a (PE.Cs l)) (hl : l.length < 1000000) :
    Calls Try.prog 8 #[.slice a l.length c] w (Ret (.bool (l.all fun p => decide (p.e.body.length ≤ 1500))) fun w' => w' = w) := by
  refine cachettelaw23_short.run _ _ _ ?_
  unfold cachettelaw23_short.N
  refine ⟨fun q vs w1 => ∃ t : Nat, vs = [.int .i64 t] ∧ q + t = l.length ∧ w1 = w ∧ (l.take t).all (fun p => decide (p.e.body.length ≤ 1500)) = true, l.length, ⟨0, rfl, rfl, rfl, rfl⟩, ?_⟩
  rintro q w1 i ⟨t, hi, hq, rfl, hn⟩
  simp only [List.cons.injEq, Value.int.injEq, true_and, and_true] at hi
  subst hi
  refine ⟨fun ht => ?_, fun ht => ?_⟩
  · have htl : t < l.length := by omega
    have hg : l[t]? = some l[t] := List.getElem?_eq_getElem htl
    obtain ⟨ad, ha⟩ := h.addr (by intro e; have := PE.Cs_length l; rw [e] at this; simp at this; omega)
    refine ⟨ad, ha, by omega, by omega, l[t].a, l[t].e.body.length, l[t].c, by rw [Int.toNat_natCast]; exact PE.cell h ha hg (j := 6) rfl, fun hb => ⟨?_, rfl⟩, fun hb => ⟨by omega, by omega, q - 1, by omega, t + 1, rfl, by omega, rfl, ?_⟩⟩
    · congr 1
      rw [eq_comm, List.all_eq_false]
      exact ⟨l[t], List.getElem_mem htl, by simp; omega⟩
    · rw [List.take_add_one, hg, List.all_append, hn]
      simp; omega
  · obtain rfl : t = l.length := by omega
    rw [List.take_length] at hn
    rw [hn]
    exact ⟨rfl, rfl⟩
/-- cachettelaw23.ForkcheckChecks -/
def cachettelaw23_ForkcheckChecks.M (draws1a : Option Addr) (draws1n : Nat) (draws1c : Nat) (aWriter2 : Int) (aIndex3 : Int) (aPrev4 : Int) (aAtT5 : Int) (aAtW6 : Int) (aEpoch7 : Int) (aBody8a : Option Addr) (aBody8n : Nat) (aBody8c : Nat) (aSig9 : Int) (bWriter10 : Int) (bIndex11 : Int) (bPrev12 : Int) (bAtT13 : Int) (bAtW14 : Int) (bEpoch15 : Int) (bBody16a : Option Addr) (bBody16n : Nat) (bBody16c : Nat) (bSig17 : Int) (x18 : Int) (y19 : Int) (R : Value → World → Prop) (w : World) : Prop :=
  thenW (w.alloc (.cells #[.int .i64 aWriter2, .int .i64 aIndex3, .int .u64 aPrev4, .int .i64 aAtT5, .int .i64 aAtW6, .int .i64 aEpoch7, .slice aBody8a aBody8n aBody8c, .int .u64 aSig9] 28)) fun ww20 =>
  thenW (ww20.alloc (.cells #[.int .i64 bWriter10, .int .i64 bIndex11, .int .u64 bPrev12, .int .i64 bAtT13, .int .i64 bAtW14, .int .i64 bEpoch15, .slice bBody16a bBody16n bBody16c, .int .u64 bSig17] 28)) fun ww21 =>
  bif decide ((draws1n : Int) > 50) then (
  Calls Try.prog 9 #[] ww21 fun ee23 ww24 => ∃ (alive22 : Bool), ee23 = .returned (.bool alive22) ∧
  R (.bool alive22) ww24) else (
  ∃ (xWriter25 : Int) (xIndex26 : Int) (xPrev27 : Int) (xAtT28 : Int) (xAtW29 : Int) (xEpoch30 : Int) (xBody31a : Option Addr) (xBody31n : Nat) (xBody31c : Nat) (xSig32 : Int), cellsAt ww21 (blk w.heap.size) [.int .i64 xWriter25, .int .i64 xIndex26, .int .u64 xPrev27, .int .i64 xAtT28, .int .i64 xAtW29, .int .i64 xEpoch30, .slice xBody31a xBody31n xBody31c, .int .u64 xSig32] 0 ∧
  ∃ (xWriter33 : Int) (xIndex34 : Int) (xPrev35 : Int) (xAtT36 : Int) (xAtW37 : Int) (xEpoch38 : Int) (xBody39a : Option Addr) (xBody39n : Nat) (xBody39c : Nat) (xSig40 : Int), cellsAt ww21 (blk ww20.heap.size) [.int .i64 xWriter33, .int .i64 xIndex34, .int .u64 xPrev35, .int .i64 xAtT36, .int .i64 xAtW37, .int .i64 xEpoch38, .slice xBody39a xBody39n xBody39c, .int .u64 xSig40] 0 ∧
  thenW (ww21.alloc (.cells #[.int .i64 xWriter25, .int .i64 xIndex26, .int .u64 xPrev27, .int .i64 xAtT28, .int .i64 xAtW29, .int .i64 xEpoch30, .slice xBody31a xBody31n xBody31c, .int .u64 xSig32, .int .i64 xWriter33, .int .i64 xIndex34, .int .u64 xPrev35, .int .i64 xAtT36, .int .i64 xAtW37, .int .i64 xEpoch38, .slice xBody39a xBody39n xBody39c, .int .u64 xSig40] 28)) fun ww41 =>
  Calls Try.prog 8 #[.slice (some (blk ww21.heap.size)) 2 2] ww41 fun ee43 ww44 => ∃ (short42 : Bool), ee43 = .returned (.bool short42) ∧
  bif !short42 then (
  Calls Try.prog 9 #[] ww44 fun ee46 ww47 => ∃ (alive45 : Bool), ee46 = .returned (.bool alive45) ∧
  R (.bool alive45) ww47) else (
  Calls Try.prog 10 #[.slice draws1a draws1n draws1c] ww44 fun ee49 ww50 => ∃ (new48 : Option Addr), ee49 = .returned (.pointer new48) ∧
  thenW (ww50.alloc (.cells #[.slice draws1a draws1n draws1c, .slice none 0 0] 36)) fun ww51 =>
  Calls Try.prog 11 #[.pointer new48] ww51 fun ee54 ww55 => ∃ (pair52 : Int) (pair53 : Int), ee54 = .returned (.tuple #[.int .u64 pair52, .int .u64 pair53]) ∧
  Calls Try.prog 11 #[.pointer new48] ww55 fun ee58 ww59 => ∃ (pair56 : Int) (pair57 : Int), ee58 = .returned (.tuple #[.int .u64 pair56, .int .u64 pair57]) ∧
  Calls Try.prog 12 #[.pointer (some (blk ww50.heap.size))] ww59 fun ee62 ww63 => ∃ (pair60 : Int) (pair61 : Int), ee62 = .returned (.tuple #[.int .u64 pair60, .int .u64 pair61]) ∧
  Calls Try.prog 12 #[.pointer (some (blk ww50.heap.size))] ww63 fun ee66 ww67 => ∃ (pair64 : Int) (pair65 : Int), ee66 = .returned (.tuple #[.int .u64 pair64, .int .u64 pair65]) ∧
  ∃ (xWriter68 : Int) (xIndex69 : Int) (xPrev70 : Int) (xAtT71 : Int) (xAtW72 : Int) (xEpoch73 : Int) (xBody74a : Option Addr) (xBody74n : Nat) (xBody74c : Nat) (xSig75 : Int), cellsAt ww67 (blk w.heap.size) [.int .i64 xWriter68, .int .i64 xIndex69, .int .u64 xPrev70, .int .i64 xAtT71, .int .i64 xAtW72, .int .i64 xEpoch73, .slice xBody74a xBody74n xBody74c, .int .u64 xSig75] 0 ∧
  ∃ (xWriter76 : Int) (xIndex77 : Int) (xPrev78 : Int) (xAtT79 : Int) (xAtW80 : Int) (xEpoch81 : Int) (xBody82a : Option Addr) (xBody82n : Nat) (xBody82c : Nat) (xSig83 : Int), cellsAt ww67 (blk ww20.heap.size) [.int .i64 xWriter76, .int .i64 xIndex77, .int .u64 xPrev78, .int .i64 xAtT79, .int .i64 xAtW80, .int .i64 xEpoch81, .slice xBody82a xBody82n xBody82c, .int .u64 xSig83] 0 ∧
  thenW (ww67.alloc (.cells #[.int .i64 xWriter68, .int .i64 xIndex69, .int .u64 xPrev70, .int .i64 xAtT71, .int .i64 xAtW72, .int .i64 xEpoch73, .slice xBody74a xBody74n xBody74c, .int .u64 xSig75, .int .i64 xWriter76, .int .i64 xIndex77, .int .u64 xPrev78, .int .i64 xAtT79, .int .i64 xAtW80, .int .i64 xEpoch81, .slice xBody82a xBody82n xBody82c, .int .u64 xSig83] 28)) fun ww84 =>
  thenW (ww84.alloc (.cells #[.int .i64 x18, .int .i64 y19] 3)) fun ww85 =>
  ∃ (I0 : Nat → List Value → World → Prop) (m87 : Nat), I0 m87 [.int .i64 0] ww85 ∧ ∀ (m88 : Nat) (ww89 : World) (i86 : Int), I0 m88 [.int .i64 i86] ww89 →
  bif decide (i86 < 2) then (
  0 ≤ (i86 : Int) ∧ (i86 : Int) < (2 : Int) ∧
  ∃ (x90 : Int), ww89.cell? ((blk ww84.heap.size).add (Int.toNat i86 * 1)) = some (.int .i64 x90) ∧
  bif x90 == 2 then (
  0 ≤ (i86 : Int) ∧ (i86 : Int) < (2 : Int) ∧
  ∃ (x91 : Int), ww89.cell? ((blk ww84.heap.size).add (Int.toNat i86 * 1)) = some (.int .i64 x91) ∧
  bif x91 != 0 then (
  0 ≤ (i86 : Int) ∧ (i86 : Int) < (2 : Int) ∧
  ∃ (xWriter92 : Int) (xIndex93 : Int) (xPrev94 : Int) (xAtT95 : Int) (xAtW96 : Int) (xEpoch97 : Int) (xBody98a : Option Addr) (xBody98n : Nat) (xBody98c : Nat) (xSig99 : Int), cellsAt ww89 ((blk ww67.heap.size).add (Int.toNat i86 * 8)) [.int .i64 xWriter92, .int .i64 xIndex93, .int .u64 xPrev94, .int .i64 xAtT95, .int .i64 xAtW96, .int .i64 xEpoch97, .slice xBody98a xBody98n xBody98c, .int .u64 xSig99] 0 ∧
  Calls Try.prog 13 #[.pointer new48, .int .u64 pair56, .agg #[.int .i64 xWriter92, .int .i64 xIndex93, .int .u64 xPrev94, .int .i64 xAtT95, .int .i64 xAtW96, .int .i64 xEpoch97, .slice xBody98a xBody98n xBody98c, .int .u64 xSig99]] ww89 fun ee109 ww110 => ∃ (Writer100 : Int) (Index101 : Int) (Prev102 : Int) (AtT103 : Int) (AtW104 : Int) (Epoch105 : Int) (Body106a : Option Addr) (Body106n : Nat) (Body106c : Nat) (Sig107 : Int) (sign108 : Int), ee109 = .returned (.tuple #[.agg #[.int .i64 Writer100, .int .i64 Index101, .int .u64 Prev102, .int .i64 AtT103, .int .i64 AtW104, .int .i64 Epoch105, .slice Body106a Body106n Body106c, .int .u64 Sig107], .int .i64 sign108]) ∧
  thenW (ww110.alloc (.cells #[.int .i64 0, .int .i64 0, .int .u64 0, .int .i64 0, .int .i64 0, .int .i64 0, .slice none 0 0, .int .u64 0] 28)) fun ww111 =>
  canStore ww111 ((blk ww110.heap.size).add 0) ∧
  thenW (ww111.setCell ((blk ww110.heap.size).add 0) (.int .i64 Writer100)) fun ww112 =>
  canStore ww112 ((blk ww110.heap.size).add 1) ∧
  thenW (ww112.setCell ((blk ww110.heap.size).add 1) (.int .i64 Index101)) fun ww113 =>
  canStore ww113 ((blk ww110.heap.size).add 2) ∧
  thenW (ww113.setCell ((blk ww110.heap.size).add 2) (.int .u64 Prev102)) fun ww114 =>
  canStore ww114 ((blk ww110.heap.size).add 3) ∧
  thenW (ww114.setCell ((blk ww110.heap.size).add 3) (.int .i64 AtT103)) fun ww115 =>
  canStore ww115 ((blk ww110.heap.size).add 4) ∧
  thenW (ww115.setCell ((blk ww110.heap.size).add 4) (.int .i64 AtW104)) fun ww116 =>
  canStore ww116 ((blk ww110.heap.size).add 5) ∧
  thenW (ww116.setCell ((blk ww110.heap.size).add 5) (.int .i64 Epoch105)) fun ww117 =>
  canStore ww117 ((blk ww110.heap.size).add 6) ∧
  thenW (ww117.setCell ((blk ww110.heap.size).add 6) (.slice Body106a Body106n Body106c)) fun ww118 =>
  canStore ww118 ((blk ww110.heap.size).add 7) ∧
  thenW (ww118.setCell ((blk ww110.heap.size).add 7) (.int .u64 Sig107)) fun ww119 =>
  0 ≤ (i86 : Int) ∧ (i86 : Int) < (2 : Int) ∧
  ∃ (xWriter120 : Int) (xIndex121 : Int) (xPrev122 : Int) (xAtT123 : Int) (xAtW124 : Int) (xEpoch125 : Int) (xBody126a : Option Addr) (xBody126n : Nat) (xBody126c : Nat) (xSig127 : Int), cellsAt ww119 ((blk ww67.heap.size).add (Int.toNat i86 * 8)) [.int .i64 xWriter120, .int .i64 xIndex121, .int .u64 xPrev122, .int .i64 xAtT123, .int .i64 xAtW124, .int .i64 xEpoch125, .slice xBody126a xBody126n xBody126c, .int .u64 xSig127] 0 ∧
  Calls Try.prog 14 #[.pointer (some (blk ww50.heap.size)), .int .u64 pair56, .agg #[.int .i64 xWriter120, .int .i64 xIndex121, .int .u64 xPrev122, .int .i64 xAtT123, .int .i64 xAtW124, .int .i64 xEpoch125, .slice xBody126a xBody126n xBody126c, .int .u64 xSig127]] ww119 fun ee137 ww138 => ∃ (Writer128 : Int) (Index129 : Int) (Prev130 : Int) (AtT131 : Int) (AtW132 : Int) (Epoch133 : Int) (Body134a : Option Addr) (Body134n : Nat) (Body134c : Nat) (Sig135 : Int) (sign136 : Int), ee137 = .returned (.tuple #[.agg #[.int .i64 Writer128, .int .i64 Index129, .int .u64 Prev130, .int .i64 AtT131, .int .i64 AtW132, .int .i64 Epoch133, .slice Body134a Body134n Body134c, .int .u64 Sig135], .int .i64 sign136]) ∧
  thenW (ww138.alloc (.cells #[.int .i64 0, .int .i64 0, .int .u64 0, .int .i64 0, .int .i64 0, .int .i64 0, .slice none 0 0, .int .u64 0] 28)) fun ww139 =>
  canStore ww139 ((blk ww138.heap.size).add 0) ∧
  thenW (ww139.setCell ((blk ww138.heap.size).add 0) (.int .i64 Writer128)) fun ww140 =>
  canStore ww140 ((blk ww138.heap.size).add 1) ∧
  thenW (ww140.setCell ((blk ww138.heap.size).add 1) (.int .i64 Index129)) fun ww141 =>
  canStore ww141 ((blk ww138.heap.size).add 2) ∧
  thenW (ww141.setCell ((blk ww138.heap.size).add 2) (.int .u64 Prev130)) fun ww142 =>
  canStore ww142 ((blk ww138.heap.size).add 3) ∧
  thenW (ww142.setCell ((blk ww138.heap.size).add 3) (.int .i64 AtT131)) fun ww143 =>
  canStore ww143 ((blk ww138.heap.size).add 4) ∧
  thenW (ww143.setCell ((blk ww138.heap.size).add 4) (.int .i64 AtW132)) fun ww144 =>
  canStore ww144 ((blk ww138.heap.size).add 5) ∧
  thenW (ww144.setCell ((blk ww138.heap.size).add 5) (.int .i64 Epoch133)) fun ww145 =>
  canStore ww145 ((blk ww138.heap.size).add 6) ∧
  thenW (ww145.setCell ((blk ww138.heap.size).add 6) (.slice Body134a Body134n Body134c)) fun ww146 =>
  canStore ww146 ((blk ww138.heap.size).add 7) ∧
  thenW (ww146.setCell ((blk ww138.heap.size).add 7) (.int .u64 Sig135)) fun ww147 =>
  bif sign108 != sign136 then (
  R (.bool false) ww147) else (
  ∃ (xWriter148 : Int) (xIndex149 : Int) (xPrev150 : Int) (xAtT151 : Int) (xAtW152 : Int) (xEpoch153 : Int) (xBody154a : Option Addr) (xBody154n : Nat) (xBody154c : Nat) (xSig155 : Int), cellsAt ww147 (blk ww110.heap.size) [.int .i64 xWriter148, .int .i64 xIndex149, .int .u64 xPrev150, .int .i64 xAtT151, .int .i64 xAtW152, .int .i64 xEpoch153, .slice xBody154a xBody154n xBody154c, .int .u64 xSig155] 0 ∧
  ∃ (xWriter156 : Int) (xIndex157 : Int) (xPrev158 : Int) (xAtT159 : Int) (xAtW160 : Int) (xEpoch161 : Int) (xBody162a : Option Addr) (xBody162n : Nat) (xBody162c : Nat) (xSig163 : Int), cellsAt ww147 (blk ww138.heap.size) [.int .i64 xWriter156, .int .i64 xIndex157, .int .u64 xPrev158, .int .i64 xAtT159, .int .i64 xAtW160, .int .i64 xEpoch161, .slice xBody162a xBody162n xBody162c, .int .u64 xSig163] 0 ∧
  Calls Try.prog 15 #[.agg #[.int .i64 xWriter148, .int .i64 xIndex149, .int .u64 xPrev150, .int .i64 xAtT151, .int .i64 xAtW152, .int .i64 xEpoch153, .slice xBody154a xBody154n xBody154c, .int .u64 xSig155], .agg #[.int .i64 xWriter156, .int .i64 xIndex157, .int .u64 xPrev158, .int .i64 xAtT159, .int .i64 xAtW160, .int .i64 xEpoch161, .slice xBody162a xBody162n xBody162c, .int .u64 xSig163]] ww147 fun ee165 ww166 => ∃ (same164 : Bool), ee165 = .returned (.bool same164) ∧
  bif !same164 then (
  R (.bool false) ww166) else (
  bif sign136 == 0 then (
  ∃ (xWriter167 : Int) (xIndex168 : Int) (xPrev169 : Int) (xAtT170 : Int) (xAtW171 : Int) (xEpoch172 : Int) (xBody173a : Option Addr) (xBody173n : Nat) (xBody173c : Nat) (xSig174 : Int), cellsAt ww166 (blk ww138.heap.size) [.int .i64 xWriter167, .int .i64 xIndex168, .int .u64 xPrev169, .int .i64 xAtT170, .int .i64 xAtW171, .int .i64 xEpoch172, .slice xBody173a xBody173n xBody173c, .int .u64 xSig174] 0 ∧
  0 ≤ (i86 : Int) ∧ (i86 : Int) < (2 : Int) ∧
  canStore ww166 (((blk ww67.heap.size).add (Int.toNat i86 * 8)).add 0) ∧
  thenW (ww166.setCell (((blk ww67.heap.size).add (Int.toNat i86 * 8)).add 0) (.int .i64 xWriter167)) fun ww175 =>
  canStore ww175 (((blk ww67.heap.size).add (Int.toNat i86 * 8)).add 1) ∧
  thenW (ww175.setCell (((blk ww67.heap.size).add (Int.toNat i86 * 8)).add 1) (.int .i64 xIndex168)) fun ww176 =>
  canStore ww176 (((blk ww67.heap.size).add (Int.toNat i86 * 8)).add 2) ∧
  thenW (ww176.setCell (((blk ww67.heap.size).add (Int.toNat i86 * 8)).add 2) (.int .u64 xPrev169)) fun ww177 =>
  canStore ww177 (((blk ww67.heap.size).add (Int.toNat i86 * 8)).add 3) ∧
  thenW (ww177.setCell (((blk ww67.heap.size).add (Int.toNat i86 * 8)).add 3) (.int .i64 xAtT170)) fun ww178 =>
  canStore ww178 (((blk ww67.heap.size).add (Int.toNat i86 * 8)).add 4) ∧
  thenW (ww178.setCell (((blk ww67.heap.size).add (Int.toNat i86 * 8)).add 4) (.int .i64 xAtW171)) fun ww179 =>
  canStore ww179 (((blk ww67.heap.size).add (Int.toNat i86 * 8)).add 5) ∧
  thenW (ww179.setCell (((blk ww67.heap.size).add (Int.toNat i86 * 8)).add 5) (.int .i64 xEpoch172)) fun ww180 =>
  canStore ww180 (((blk ww67.heap.size).add (Int.toNat i86 * 8)).add 6) ∧
  thenW (ww180.setCell (((blk ww67.heap.size).add (Int.toNat i86 * 8)).add 6) (.slice xBody173a xBody173n xBody173c)) fun ww181 =>
  canStore ww181 (((blk ww67.heap.size).add (Int.toNat i86 * 8)).add 7) ∧
  thenW (ww181.setCell (((blk ww67.heap.size).add (Int.toNat i86 * 8)).add 7) (.int .u64 xSig174)) fun ww182 =>
  ∃ m183, m183 < m88 ∧ I0 m183 [.int .i64 (IntKind.i64.wrap (i86 + 1))] ww182) else (
  ∃ m184, m184 < m88 ∧ I0 m184 [.int .i64 (IntKind.i64.wrap (i86 + 1))] ww166)))) else (
  ∃ m185, m185 < m88 ∧ I0 m185 [.int .i64 (IntKind.i64.wrap (i86 + 1))] ww89)) else (
  0 ≤ (i86 : Int) ∧ (i86 : Int) < (2 : Int) ∧
  ∃ (x186 : Int), ww89.cell? ((blk ww84.heap.size).add (Int.toNat i86 * 1)) = some (.int .i64 x186) ∧
  bif x186 != 0 then (
  0 ≤ (i86 : Int) ∧ (i86 : Int) < (2 : Int) ∧
  ∃ (xWriter187 : Int) (xIndex188 : Int) (xPrev189 : Int) (xAtT190 : Int) (xAtW191 : Int) (xEpoch192 : Int) (xBody193a : Option Addr) (xBody193n : Nat) (xBody193c : Nat) (xSig194 : Int), cellsAt ww89 ((blk ww67.heap.size).add (Int.toNat i86 * 8)) [.int .i64 xWriter187, .int .i64 xIndex188, .int .u64 xPrev189, .int .i64 xAtT190, .int .i64 xAtW191, .int .i64 xEpoch192, .slice xBody193a xBody193n xBody193c, .int .u64 xSig194] 0 ∧
  Calls Try.prog 13 #[.pointer new48, .int .u64 pair52, .agg #[.int .i64 xWriter187, .int .i64 xIndex188, .int .u64 xPrev189, .int .i64 xAtT190, .int .i64 xAtW191, .int .i64 xEpoch192, .slice xBody193a xBody193n xBody193c, .int .u64 xSig194]] ww89 fun ee204 ww205 => ∃ (Writer195 : Int) (Index196 : Int) (Prev197 : Int) (AtT198 : Int) (AtW199 : Int) (Epoch200 : Int) (Body201a : Option Addr) (Body201n : Nat) (Body201c : Nat) (Sig202 : Int) (sign203 : Int), ee204 = .returned (.tuple #[.agg #[.int .i64 Writer195, .int .i64 Index196, .int .u64 Prev197, .int .i64 AtT198, .int .i64 AtW199, .int .i64 Epoch200, .slice Body201a Body201n Body201c, .int .u64 Sig202], .int .i64 sign203]) ∧
  thenW (ww205.alloc (.cells #[.int .i64 0, .int .i64 0, .int .u64 0, .int .i64 0, .int .i64 0, .int .i64 0, .slice none 0 0, .int .u64 0] 28)) fun ww206 =>
  canStore ww206 ((blk ww205.heap.size).add 0) ∧
  thenW (ww206.setCell ((blk ww205.heap.size).add 0) (.int .i64 Writer195)) fun ww207 =>
  canStore ww207 ((blk ww205.heap.size).add 1) ∧
  thenW (ww207.setCell ((blk ww205.heap.size).add 1) (.int .i64 Index196)) fun ww208 =>
  canStore ww208 ((blk ww205.heap.size).add 2) ∧
  thenW (ww208.setCell ((blk ww205.heap.size).add 2) (.int .u64 Prev197)) fun ww209 =>
  canStore ww209 ((blk ww205.heap.size).add 3) ∧
  thenW (ww209.setCell ((blk ww205.heap.size).add 3) (.int .i64 AtT198)) fun ww210 =>
  canStore ww210 ((blk ww205.heap.size).add 4) ∧
  thenW (ww210.setCell ((blk ww205.heap.size).add 4) (.int .i64 AtW199)) fun ww211 =>
  canStore ww211 ((blk ww205.heap.size).add 5) ∧
  thenW (ww211.setCell ((blk ww205.heap.size).add 5) (.int .i64 Epoch200)) fun ww212 =>
  canStore ww212 ((blk ww205.heap.size).add 6) ∧
  thenW (ww212.setCell ((blk ww205.heap.size).add 6) (.slice Body201a Body201n Body201c)) fun ww213 =>
  canStore ww213 ((blk ww205.heap.size).add 7) ∧
  thenW (ww213.setCell ((blk ww205.heap.size).add 7) (.int .u64 Sig202)) fun ww214 =>
  0 ≤ (i86 : Int) ∧ (i86 : Int) < (2 : Int) ∧
  ∃ (xWriter215 : Int) (xIndex216 : Int) (xPrev217 : Int) (xAtT218 : Int) (xAtW219 : Int) (xEpoch220 : Int) (xBody221a : Option Addr) (xBody221n : Nat) (xBody221c : Nat) (xSig222 : Int), cellsAt ww214 ((blk ww67.heap.size).add (Int.toNat i86 * 8)) [.int .i64 xWriter215, .int .i64 xIndex216, .int .u64 xPrev217, .int .i64 xAtT218, .int .i64 xAtW219, .int .i64 xEpoch220, .slice xBody221a xBody221n xBody221c, .int .u64 xSig222] 0 ∧
  Calls Try.prog 14 #[.pointer (some (blk ww50.heap.size)), .int .u64 pair52, .agg #[.int .i64 xWriter215, .int .i64 xIndex216, .int .u64 xPrev217, .int .i64 xAtT218, .int .i64 xAtW219, .int .i64 xEpoch220, .slice xBody221a xBody221n xBody221c, .int .u64 xSig222]] ww214 fun ee232 ww233 => ∃ (Writer223 : Int) (Index224 : Int) (Prev225 : Int) (AtT226 : Int) (AtW227 : Int) (Epoch228 : Int) (Body229a : Option Addr) (Body229n : Nat) (Body229c : Nat) (Sig230 : Int) (sign231 : Int), ee232 = .returned (.tuple #[.agg #[.int .i64 Writer223, .int .i64 Index224, .int .u64 Prev225, .int .i64 AtT226, .int .i64 AtW227, .int .i64 Epoch228, .slice Body229a Body229n Body229c, .int .u64 Sig230], .int .i64 sign231]) ∧
  thenW (ww233.alloc (.cells #[.int .i64 0, .int .i64 0, .int .u64 0, .int .i64 0, .int .i64 0, .int .i64 0, .slice none 0 0, .int .u64 0] 28)) fun ww234 =>
  canStore ww234 ((blk ww233.heap.size).add 0) ∧
  thenW (ww234.setCell ((blk ww233.heap.size).add 0) (.int .i64 Writer223)) fun ww235 =>
  canStore ww235 ((blk ww233.heap.size).add 1) ∧
  thenW (ww235.setCell ((blk ww233.heap.size).add 1) (.int .i64 Index224)) fun ww236 =>
  canStore ww236 ((blk ww233.heap.size).add 2) ∧
  thenW (ww236.setCell ((blk ww233.heap.size).add 2) (.int .u64 Prev225)) fun ww237 =>
  canStore ww237 ((blk ww233.heap.size).add 3) ∧
  thenW (ww237.setCell ((blk ww233.heap.size).add 3) (.int .i64 AtT226)) fun ww238 =>
  canStore ww238 ((blk ww233.heap.size).add 4) ∧
  thenW (ww238.setCell ((blk ww233.heap.size).add 4) (.int .i64 AtW227)) fun ww239 =>
  canStore ww239 ((blk ww233.heap.size).add 5) ∧
  thenW (ww239.setCell ((blk ww233.heap.size).add 5) (.int .i64 Epoch228)) fun ww240 =>
  canStore ww240 ((blk ww233.heap.size).add 6) ∧
  thenW (ww240.setCell ((blk ww233.heap.size).add 6) (.slice Body229a Body229n Body229c)) fun ww241 =>
  canStore ww241 ((blk ww233.heap.size).add 7) ∧
  thenW (ww241.setCell ((blk ww233.heap.size).add 7) (.int .u64 Sig230)) fun ww242 =>
  bif sign203 != sign231 then (
  R (.bool false) ww242) else (
  ∃ (xWriter243 : Int) (xIndex244 : Int) (xPrev245 : Int) (xAtT246 : Int) (xAtW247 : Int) (xEpoch248 : Int) (xBody249a : Option Addr) (xBody249n : Nat) (xBody249c : Nat) (xSig250 : Int), cellsAt ww242 (blk ww205.heap.size) [.int .i64 xWriter243, .int .i64 xIndex244, .int .u64 xPrev245, .int .i64 xAtT246, .int .i64 xAtW247, .int .i64 xEpoch248, .slice xBody249a xBody249n xBody249c, .int .u64 xSig250] 0 ∧
  ∃ (xWriter251 : Int) (xIndex252 : Int) (xPrev253 : Int) (xAtT254 : Int) (xAtW255 : Int) (xEpoch256 : Int) (xBody257a : Option Addr) (xBody257n : Nat) (xBody257c : Nat) (xSig258 : Int), cellsAt ww242 (blk ww233.heap.size) [.int .i64 xWriter251, .int .i64 xIndex252, .int .u64 xPrev253, .int .i64 xAtT254, .int .i64 xAtW255, .int .i64 xEpoch256, .slice xBody257a xBody257n xBody257c, .int .u64 xSig258] 0 ∧
  Calls Try.prog 15 #[.agg #[.int .i64 xWriter243, .int .i64 xIndex244, .int .u64 xPrev245, .int .i64 xAtT246, .int .i64 xAtW247, .int .i64 xEpoch248, .slice xBody249a xBody249n xBody249c, .int .u64 xSig250], .agg #[.int .i64 xWriter251, .int .i64 xIndex252, .int .u64 xPrev253, .int .i64 xAtT254, .int .i64 xAtW255, .int .i64 xEpoch256, .slice xBody257a xBody257n xBody257c, .int .u64 xSig258]] ww242 fun ee260 ww261 => ∃ (same259 : Bool), ee260 = .returned (.bool same259) ∧
  bif !same259 then (
  R (.bool false) ww261) else (
  bif sign231 == 0 then (
  ∃ (xWriter262 : Int) (xIndex263 : Int) (xPrev264 : Int) (xAtT265 : Int) (xAtW266 : Int) (xEpoch267 : Int) (xBody268a : Option Addr) (xBody268n : Nat) (xBody268c : Nat) (xSig269 : Int), cellsAt ww261 (blk ww233.heap.size) [.int .i64 xWriter262, .int .i64 xIndex263, .int .u64 xPrev264, .int .i64 xAtT265, .int .i64 xAtW266, .int .i64 xEpoch267, .slice xBody268a xBody268n xBody268c, .int .u64 xSig269] 0 ∧
  0 ≤ (i86 : Int) ∧ (i86 : Int) < (2 : Int) ∧
  canStore ww261 (((blk ww67.heap.size).add (Int.toNat i86 * 8)).add 0) ∧
  thenW (ww261.setCell (((blk ww67.heap.size).add (Int.toNat i86 * 8)).add 0) (.int .i64 xWriter262)) fun ww270 =>
  canStore ww270 (((blk ww67.heap.size).add (Int.toNat i86 * 8)).add 1) ∧
  thenW (ww270.setCell (((blk ww67.heap.size).add (Int.toNat i86 * 8)).add 1) (.int .i64 xIndex263)) fun ww271 =>
  canStore ww271 (((blk ww67.heap.size).add (Int.toNat i86 * 8)).add 2) ∧
  thenW (ww271.setCell (((blk ww67.heap.size).add (Int.toNat i86 * 8)).add 2) (.int .u64 xPrev264)) fun ww272 =>
  canStore ww272 (((blk ww67.heap.size).add (Int.toNat i86 * 8)).add 3) ∧
  thenW (ww272.setCell (((blk ww67.heap.size).add (Int.toNat i86 * 8)).add 3) (.int .i64 xAtT265)) fun ww273 =>
  canStore ww273 (((blk ww67.heap.size).add (Int.toNat i86 * 8)).add 4) ∧
  thenW (ww273.setCell (((blk ww67.heap.size).add (Int.toNat i86 * 8)).add 4) (.int .i64 xAtW266)) fun ww274 =>
  canStore ww274 (((blk ww67.heap.size).add (Int.toNat i86 * 8)).add 5) ∧
  thenW (ww274.setCell (((blk ww67.heap.size).add (Int.toNat i86 * 8)).add 5) (.int .i64 xEpoch267)) fun ww275 =>
  canStore ww275 (((blk ww67.heap.size).add (Int.toNat i86 * 8)).add 6) ∧
  thenW (ww275.setCell (((blk ww67.heap.size).add (Int.toNat i86 * 8)).add 6) (.slice xBody268a xBody268n xBody268c)) fun ww276 =>
  canStore ww276 (((blk ww67.heap.size).add (Int.toNat i86 * 8)).add 7) ∧
  thenW (ww276.setCell (((blk ww67.heap.size).add (Int.toNat i86 * 8)).add 7) (.int .u64 xSig269)) fun ww277 =>
  ∃ m278, m278 < m88 ∧ I0 m278 [.int .i64 (IntKind.i64.wrap (i86 + 1))] ww277) else (
  ∃ m279, m279 < m88 ∧ I0 m279 [.int .i64 (IntKind.i64.wrap (i86 + 1))] ww261)))) else (
  ∃ m280, m280 < m88 ∧ I0 m280 [.int .i64 (IntKind.i64.wrap (i86 + 1))] ww89))) else (
  thenW (ww89.drew) fun ww281 =>
  0 ≤ (0 : Int) ∧ (0 : Int) < (2 : Int) ∧
  ∃ (xWriter282 : Int) (xIndex283 : Int) (xPrev284 : Int) (xAtT285 : Int) (xAtW286 : Int) (xEpoch287 : Int) (xBody288a : Option Addr) (xBody288n : Nat) (xBody288c : Nat) (xSig289 : Int), cellsAt ww281 ((blk ww67.heap.size).add (Int.toNat 0 * 8)) [.int .i64 xWriter282, .int .i64 xIndex283, .int .u64 xPrev284, .int .i64 xAtT285, .int .i64 xAtW286, .int .i64 xEpoch287, .slice xBody288a xBody288n xBody288c, .int .u64 xSig289] 0 ∧
  0 ≤ (1 : Int) ∧ (1 : Int) < (2 : Int) ∧
  ∃ (xWriter290 : Int) (xIndex291 : Int) (xPrev292 : Int) (xAtT293 : Int) (xAtW294 : Int) (xEpoch295 : Int) (xBody296a : Option Addr) (xBody296n : Nat) (xBody296c : Nat) (xSig297 : Int), cellsAt ww281 ((blk ww67.heap.size).add (Int.toNat 1 * 8)) [.int .i64 xWriter290, .int .i64 xIndex291, .int .u64 xPrev292, .int .i64 xAtT293, .int .i64 xAtW294, .int .i64 xEpoch295, .slice xBody296a xBody296n xBody296c, .int .u64 xSig297] 0 ∧
  0 ≤ (0 : Int) ∧ (0 : Int) < (2 : Int) ∧
  ∃ (xWriter298 : Int) (xIndex299 : Int) (xPrev300 : Int) (xAtT301 : Int) (xAtW302 : Int) (xEpoch303 : Int) (xBody304a : Option Addr) (xBody304n : Nat) (xBody304c : Nat) (xSig305 : Int), cellsAt ww281 ((blk ww67.heap.size).add (Int.toNat 0 * 8)) [.int .i64 xWriter298, .int .i64 xIndex299, .int .u64 xPrev300, .int .i64 xAtT301, .int .i64 xAtW302, .int .i64 xEpoch303, .slice xBody304a xBody304n xBody304c, .int .u64 xSig305] 0 ∧
  0 ≤ (1 : Int) ∧ (1 : Int) < (2 : Int) ∧
  ∃ (xWriter306 : Int) (xIndex307 : Int) (xPrev308 : Int) (xAtT309 : Int) (xAtW310 : Int) (xEpoch311 : Int) (xBody312a : Option Addr) (xBody312n : Nat) (xBody312c : Nat) (xSig313 : Int), cellsAt ww281 ((blk ww67.heap.size).add (Int.toNat 1 * 8)) [.int .i64 xWriter306, .int .i64 xIndex307, .int .u64 xPrev308, .int .i64 xAtT309, .int .i64 xAtW310, .int .i64 xEpoch311, .slice xBody312a xBody312n xBody312c, .int .u64 xSig313] 0 ∧
  Calls Try.prog 16 #[.pointer new48, .int .u64 pair53, .agg #[.int .i64 xWriter282, .int .i64 xIndex283, .int .u64 xPrev284, .int .i64 xAtT285, .int .i64 xAtW286, .int .i64 xEpoch287, .slice xBody288a xBody288n xBody288c, .int .u64 xSig289, .int .i64 xWriter290, .int .i64 xIndex291, .int .u64 xPrev292, .int .i64 xAtT293, .int .i64 xAtW294, .int .i64 xEpoch295, .slice xBody296a xBody296n xBody296c, .int .u64 xSig297]] ww281 fun ee315 ww316 => ∃ (check314 : Int), ee315 = .returned (.int .i64 check314) ∧
  cellsAt ww316 ((blk ww67.heap.size).add (Int.toNat 1 * 8)) [.int .i64 xWriter306, .int .i64 xIndex307, .int .u64 xPrev308, .int .i64 xAtT309, .int .i64 xAtW310, .int .i64 xEpoch311, .slice xBody312a xBody312n xBody312c, .int .u64 xSig313] 0 ∧
  cellsAt ww316 ((blk ww67.heap.size).add (Int.toNat 0 * 8)) [.int .i64 xWriter298, .int .i64 xIndex299, .int .u64 xPrev300, .int .i64 xAtT301, .int .i64 xAtW302, .int .i64 xEpoch303, .slice xBody304a xBody304n xBody304c, .int .u64 xSig305] 0 ∧
  Calls Try.prog 17 #[.pointer (some (blk ww50.heap.size)), .int .u64 pair53, .agg #[.int .i64 xWriter298, .int .i64 xIndex299, .int .u64 xPrev300, .int .i64 xAtT301, .int .i64 xAtW302, .int .i64 xEpoch303, .slice xBody304a xBody304n xBody304c, .int .u64 xSig305, .int .i64 xWriter306, .int .i64 xIndex307, .int .u64 xPrev308, .int .i64 xAtT309, .int .i64 xAtW310, .int .i64 xEpoch311, .slice xBody312a xBody312n xBody312c, .int .u64 xSig313]] ww316 fun ee318 ww319 => ∃ (check317 : Int), ee318 = .returned (.int .i64 check317) ∧
  bif check314 == check317 then (
  Calls Try.prog 9 #[] ww319 fun ee321 ww322 => ∃ (alive320 : Bool), ee321 = .returned (.bool alive320) ∧
  R (.bool alive320) ww322) else (
  R (.bool false) ww319))))

theorem cachettelaw23_ForkcheckChecks.eq (draws1a : Option Addr) (draws1n : Nat) (draws1c : Nat) (aWriter2 : Int) (aIndex3 : Int) (aPrev4 : Int) (aAtT5 : Int) (aAtW6 : Int) (aEpoch7 : Int) (aBody8a : Option Addr) (aBody8n : Nat) (aBody8c : Nat) (aSig9 : Int) (bWriter10 : Int) (bIndex11 : Int) (bPrev12 : Int) (bAtT13 : Int) (bAtW14 : Int) (bEpoch15 : Int) (bBody16a : Option Addr) (bBody16n : Nat) (bBody16c : Nat) (bSig17 : Int) (x18 : Int) (y19 : Int) (R : Value → World → Prop) (w : World) : mfunc Try.prog [(0, [11, 12, 13, 14, 15, 17, 18], [(19, (.one (.int .i64)))])] 3 [.slice draws1a draws1n draws1c, .agg #[.int .i64 aWriter2, .int .i64 aIndex3, .int .u64 aPrev4, .int .i64 aAtT5, .int .i64 aAtW6, .int .i64 aEpoch7, .slice aBody8a aBody8n aBody8c, .int .u64 aSig9], .agg #[.int .i64 bWriter10, .int .i64 bIndex11, .int .u64 bPrev12, .int .i64 bAtT13, .int .i64 bAtW14, .int .i64 bEpoch15, .slice bBody16a bBody16n bBody16c, .int .u64 bSig17], .int .i64 x18, .int .i64 y19] R w = cachettelaw23_ForkcheckChecks.M draws1a draws1n draws1c aWriter2 aIndex3 aPrev4 aAtT5 aAtW6 aEpoch7 aBody8a aBody8n aBody8c aSig9 bWriter10 bIndex11 bPrev12 bAtT13 bAtW14 bEpoch15 bBody16a bBody16n bBody16c bSig17 x18 y19 R w := by kernel_rfl
theorem cachettelaw23_ForkcheckChecks.ok (draws1a : Option Addr) (draws1n : Nat) (draws1c : Nat) (aWriter2 : Int) (aIndex3 : Int) (aPrev4 : Int) (aAtT5 : Int) (aAtW6 : Int) (aEpoch7 : Int) (aBody8a : Option Addr) (aBody8n : Nat) (aBody8c : Nat) (aSig9 : Int) (bWriter10 : Int) (bIndex11 : Int) (bPrev12 : Int) (bAtT13 : Int) (bAtW14 : Int) (bEpoch15 : Int) (bBody16a : Option Addr) (bBody16n : Nat) (bBody16c : Nat) (bSig17 : Int) (x18 : Int) (y19 : Int) {R : Value → World → Prop} {w : World} (h : cachettelaw23_ForkcheckChecks.M draws1a draws1n draws1c aWriter2 aIndex3 aPrev4 aAtT5 aAtW6 aEpoch7 aBody8a aBody8n aBody8c aSig9 bWriter10 bIndex11 bPrev12 bAtT13 bAtW14 bEpoch15 bBody16a bBody16n bBody16c bSig17 x18 y19 R w) : Calls Try.prog 3 #[.slice draws1a draws1n draws1c, .agg #[.int .i64 aWriter2, .int .i64 aIndex3, .int .u64 aPrev4, .int .i64 aAtT5, .int .i64 aAtW6, .int .i64 aEpoch7, .slice aBody8a aBody8n aBody8c, .int .u64 aSig9], .agg #[.int .i64 bWriter10, .int .i64 bIndex11, .int .u64 bPrev12, .int .i64 bAtT13, .int .i64 bAtW14, .int .i64 bEpoch15, .slice bBody16a bBody16n bBody16c, .int .u64 bSig17], .int .i64 x18, .int .i64 y19] w fun e w' => ∃ v, e = .returned v ∧ R v w' :=
  mfunc_ok follows (H := [(0, [11, 12, 13, 14, 15, 17, 18], [(19, (.one (.int .i64)))])]) (args := [.slice draws1a draws1n draws1c, .agg #[.int .i64 aWriter2, .int .i64 aIndex3, .int .u64 aPrev4, .int .i64 aAtT5, .int .i64 aAtW6, .int .i64 aEpoch7, .slice aBody8a aBody8n aBody8c, .int .u64 aSig9], .agg #[.int .i64 bWriter10, .int .i64 bIndex11, .int .u64 bPrev12, .int .i64 bAtT13, .int .i64 bAtW14, .int .i64 bEpoch15, .slice bBody16a bBody16n bBody16c, .int .u64 bSig17], .int .i64 x18, .int .i64 y19]) (by rw [cachettelaw23_ForkcheckChecks.eq]; exact h)

def cachettelaw23_ForkcheckChecks.N (draws1a : Option Addr) (draws1n : Nat) (draws1c : Nat) (aWriter2 : Int) (aIndex3 : Int) (aPrev4 : Int) (aAtT5 : Int) (aAtW6 : Int) (aEpoch7 : Int) (aBody8a : Option Addr) (aBody8n : Nat) (aBody8c : Nat) (aSig9 : Int) (bWriter10 : Int) (bIndex11 : Int) (bPrev12 : Int) (bAtT13 : Int) (bAtW14 : Int) (bEpoch15 : Int) (bBody16a : Option Addr) (bBody16n : Nat) (bBody16c : Nat) (bSig17 : Int) (x18 : Int) (y19 : Int) (R : Value → World → Prop) (w : World) : Prop :=
  ((draws1n : Int) > 50 →
    ∀ (ww21 : World), Ext no w ww21 →
    Calls Try.prog 9 #[] ww21 fun ee26 ww27 => ∃ (alive25 : Bool), ee26 = .returned (.bool alive25) ∧
    R (.bool alive25) ww27) ∧
  ((draws1n : Int) ≤ 50 →
    ∀ (ww28 : World) (q29 : Nat) (p30 : Nat) (p31 : Nat), Ext no w ww28 → Blk ww28 q29 28 [.int .i64 aWriter2, .int .i64 aIndex3, .int .u64 aPrev4, .int .i64 aAtT5, .int .i64 aAtW6, .int .i64 aEpoch7, .slice aBody8a aBody8n aBody8c, .int .u64 aSig9, .int .i64 bWriter10, .int .i64 bIndex11, .int .u64 bPrev12, .int .i64 bAtT13, .int .i64 bAtW14, .int .i64 bEpoch15, .slice bBody16a bBody16n bBody16c, .int .u64 bSig17] → w.heap.size ≤ q29 → q29 < ww28.heap.size → Privq w q29 [p30, p31] →
    Calls Try.prog 8 #[.slice (some (blk q29)) 2 2] ww28 fun ee33 ww34 => ∃ (short32 : Bool), ee33 = .returned (.bool short32) ∧
    Keep [p30, p31] ww28 ww34 ∧
    (short32 = false →
      Calls Try.prog 9 #[] ww34 fun ee37 ww38 => ∃ (alive36 : Bool), ee37 = .returned (.bool alive36) ∧
      R (.bool alive36) ww38) ∧
    (short32 = true →
      Calls Try.prog 10 #[.slice draws1a draws1n draws1c] ww34 fun ee40 ww41 => ∃ (new39 : Option Addr), ee40 = .returned (.pointer new39) ∧
      Keep [p30, p31] ww34 ww41 ∧
      ∀ (ww42 : World) (q43 : Nat), Ext no ww41 ww42 → Blk ww42 q43 36 [.slice draws1a draws1n draws1c, .slice none 0 0] → ww41.heap.size ≤ q43 → q43 < ww42.heap.size →
      Calls Try.prog 11 #[.pointer new39] ww42 fun ee46 ww47 => ∃ (pair44 : Int) (pair45 : Int), ee46 = .returned (.tuple #[.int .u64 pair44, .int .u64 pair45]) ∧
      Keep [p30, p31] ww42 ww47 ∧
      Calls Try.prog 11 #[.pointer new39] ww47 fun ee50 ww51 => ∃ (pair48 : Int) (pair49 : Int), ee50 = .returned (.tuple #[.int .u64 pair48, .int .u64 pair49]) ∧
      Keep [p30, p31] ww47 ww51 ∧
      Calls Try.prog 12 #[.pointer (some (blk q43))] ww51 fun ee54 ww55 => ∃ (pair52 : Int) (pair53 : Int), ee54 = .returned (.tuple #[.int .u64 pair52, .int .u64 pair53]) ∧
      Keep [p30, p31] ww51 ww55 ∧
      Calls Try.prog 12 #[.pointer (some (blk q43))] ww55 fun ee58 ww59 => ∃ (pair56 : Int) (pair57 : Int), ee58 = .returned (.tuple #[.int .u64 pair56, .int .u64 pair57]) ∧
      Keep [p30, p31] ww55 ww59 ∧
      ∀ (ww60 : World) (q61 : Nat), Ext no ww59 ww60 → Blk ww60 q61 28 [.int .i64 aWriter2, .int .i64 aIndex3, .int .u64 aPrev4, .int .i64 aAtT5, .int .i64 aAtW6, .int .i64 aEpoch7, .slice aBody8a aBody8n aBody8c, .int .u64 aSig9, .int .i64 bWriter10, .int .i64 bIndex11, .int .u64 bPrev12, .int .i64 bAtT13, .int .i64 bAtW14, .int .i64 bEpoch15, .slice bBody16a bBody16n bBody16c, .int .u64 bSig17] → ww59.heap.size ≤ q61 → q61 < ww60.heap.size →
      ∀ (ww62 : World) (q63 : Nat), Ext no ww60 ww62 → Blk ww62 q63 3 [.int .i64 x18, .int .i64 y19] → ww60.heap.size ≤ q63 → q63 < ww62.heap.size →
      ∃ (I0 : Nat → List Value → World → Prop) (m65 : Nat), I0 m65 [.int .i64 0] ww62 ∧ ∀ (m66 : Nat) (ww67 : World) (i64 : Int), I0 m66 [.int .i64 i64] ww67 →
      (i64 < 2 →
        0 ≤ (i64 : Int) ∧ (i64 : Int) < (2 : Int) ∧
        ∃ (x70 : Int), ww67.cell? ((blk q63).add (Int.toNat i64 * 1)) = some (.int .i64 x70) ∧
        (x70 = 2 →
          0 ≤ (i64 : Int) ∧ (i64 : Int) < (2 : Int) ∧
          ∃ (x73 : Int), ww67.cell? ((blk q63).add (Int.toNat i64 * 1)) = some (.int .i64 x73) ∧
          (x73 ≠ 0 →
            0 ≤ (i64 : Int) ∧ (i64 : Int) < (2 : Int) ∧
            ∃ (xWriter76 : Int) (xIndex77 : Int) (xPrev78 : Int) (xAtT79 : Int) (xAtW80 : Int) (xEpoch81 : Int) (xBody82a : Option Addr) (xBody82n : Nat) (xBody82c : Nat) (xSig83 : Int), cellsAt ww67 ((blk q61).add (Int.toNat i64 * 8)) [.int .i64 xWriter76, .int .i64 xIndex77, .int .u64 xPrev78, .int .i64 xAtT79, .int .i64 xAtW80, .int .i64 xEpoch81, .slice xBody82a xBody82n xBody82c, .int .u64 xSig83] 0 ∧
            Calls Try.prog 13 #[.pointer new39, .int .u64 pair48, .agg #[.int .i64 xWriter76, .int .i64 xIndex77, .int .u64 xPrev78, .int .i64 xAtT79, .int .i64 xAtW80, .int .i64 xEpoch81, .slice xBody82a xBody82n xBody82c, .int .u64 xSig83]] ww67 fun ee93 ww94 => ∃ (Writer84 : Int) (Index85 : Int) (Prev86 : Int) (AtT87 : Int) (AtW88 : Int) (Epoch89 : Int) (Body90a : Option Addr) (Body90n : Nat) (Body90c : Nat) (Sig91 : Int) (sign92 : Int), ee93 = .returned (.tuple #[.agg #[.int .i64 Writer84, .int .i64 Index85, .int .u64 Prev86, .int .i64 AtT87, .int .i64 AtW88, .int .i64 Epoch89, .slice Body90a Body90n Body90c, .int .u64 Sig91], .int .i64 sign92]) ∧
            0 ≤ (i64 : Int) ∧ (i64 : Int) < (2 : Int) ∧
            ∃ (xWriter105 : Int) (xIndex106 : Int) (xPrev107 : Int) (xAtT108 : Int) (xAtW109 : Int) (xEpoch110 : Int) (xBody111a : Option Addr) (xBody111n : Nat) (xBody111c : Nat) (xSig112 : Int), cellsAt ww94 ((blk q61).add (Int.toNat i64 * 8)) [.int .i64 xWriter105, .int .i64 xIndex106, .int .u64 xPrev107, .int .i64 xAtT108, .int .i64 xAtW109, .int .i64 xEpoch110, .slice xBody111a xBody111n xBody111c, .int .u64 xSig112] 0 ∧
            ∀ (ww103 : World) (p113 : Nat), Ext no ww94 ww103 → Priv ww94 ww103 [p113] →
            Calls Try.prog 14 #[.pointer (some (blk q43)), .int .u64 pair48, .agg #[.int .i64 xWriter105, .int .i64 xIndex106, .int .u64 xPrev107, .int .i64 xAtT108, .int .i64 xAtW109, .int .i64 xEpoch110, .slice xBody111a xBody111n xBody111c, .int .u64 xSig112]] ww103 fun ee123 ww124 => ∃ (Writer114 : Int) (Index115 : Int) (Prev116 : Int) (AtT117 : Int) (AtW118 : Int) (Epoch119 : Int) (Body120a : Option Addr) (Body120n : Nat) (Body120c : Nat) (Sig121 : Int) (sign122 : Int), ee123 = .returned (.tuple #[.agg #[.int .i64 Writer114, .int .i64 Index115, .int .u64 Prev116, .int .i64 AtT117, .int .i64 AtW118, .int .i64 Epoch119, .slice Body120a Body120n Body120c, .int .u64 Sig121], .int .i64 sign122]) ∧
            Keep [p113] ww103 ww124 ∧
            (sign92 ≠ sign122 →
              ∀ (ww133 : World), Ext no ww124 ww133 →
              R (.bool false) ww133) ∧
            (sign92 = sign122 →
              ∀ (ww133 : World) (p136 : Nat), Ext no ww124 ww133 → Priv ww124 ww133 [p136] →
              Calls Try.prog 15 #[.agg #[.int .i64 Writer84, .int .i64 Index85, .int .u64 Prev86, .int .i64 AtT87, .int .i64 AtW88, .int .i64 Epoch89, .slice Body90a Body90n Body90c, .int .u64 Sig91], .agg #[.int .i64 Writer114, .int .i64 Index115, .int .u64 Prev116, .int .i64 AtT117, .int .i64 AtW118, .int .i64 Epoch119, .slice Body120a Body120n Body120c, .int .u64 Sig121]] ww133 fun ee138 ww139 => ∃ (same137 : Bool), ee138 = .returned (.bool same137) ∧
              Keep [p136] ww133 ww139 ∧
              (same137 = false →
                R (.bool false) ww139) ∧
              (same137 = true →
                (sign122 = 0 →
                  0 ≤ (i64 : Int) ∧ (i64 : Int) < (2 : Int) ∧
                  canStore ww139 (((blk q61).add (Int.toNat i64 * 8)).add 0) ∧
                  thenW (ww139.setCell (((blk q61).add (Int.toNat i64 * 8)).add 0) (.int .i64 Writer114)) fun ww142 =>
                  canStore ww142 (((blk q61).add (Int.toNat i64 * 8)).add 1) ∧
                  thenW (ww142.setCell (((blk q61).add (Int.toNat i64 * 8)).add 1) (.int .i64 Index115)) fun ww143 =>
                  canStore ww143 (((blk q61).add (Int.toNat i64 * 8)).add 2) ∧
                  thenW (ww143.setCell (((blk q61).add (Int.toNat i64 * 8)).add 2) (.int .u64 Prev116)) fun ww144 =>
                  canStore ww144 (((blk q61).add (Int.toNat i64 * 8)).add 3) ∧
                  thenW (ww144.setCell (((blk q61).add (Int.toNat i64 * 8)).add 3) (.int .i64 AtT117)) fun ww145 =>
                  canStore ww145 (((blk q61).add (Int.toNat i64 * 8)).add 4) ∧
                  thenW (ww145.setCell (((blk q61).add (Int.toNat i64 * 8)).add 4) (.int .i64 AtW118)) fun ww146 =>
                  canStore ww146 (((blk q61).add (Int.toNat i64 * 8)).add 5) ∧
                  thenW (ww146.setCell (((blk q61).add (Int.toNat i64 * 8)).add 5) (.int .i64 Epoch119)) fun ww147 =>
                  canStore ww147 (((blk q61).add (Int.toNat i64 * 8)).add 6) ∧
                  thenW (ww147.setCell (((blk q61).add (Int.toNat i64 * 8)).add 6) (.slice Body120a Body120n Body120c)) fun ww148 =>
                  canStore ww148 (((blk q61).add (Int.toNat i64 * 8)).add 7) ∧
                  thenW (ww148.setCell (((blk q61).add (Int.toNat i64 * 8)).add 7) (.int .u64 Sig121)) fun ww149 =>
                  (-9223372036854775808 : Int) ≤ (i64 + 1) ∧ (i64 + 1) < 9223372036854775808 ∧
                  ∃ m150, m150 < m66 ∧ I0 m150 [.int .i64 (i64 + 1)] ww149) ∧
                (sign122 ≠ 0 →
                  (-9223372036854775808 : Int) ≤ (i64 + 1) ∧ (i64 + 1) < 9223372036854775808 ∧
                  ∃ m151, m151 < m66 ∧ I0 m151 [.int .i64 (i64 + 1)] ww139)))) ∧
          (x73 = 0 →
            (-9223372036854775808 : Int) ≤ (i64 + 1) ∧ (i64 + 1) < 9223372036854775808 ∧
            ∃ m152, m152 < m66 ∧ I0 m152 [.int .i64 (i64 + 1)] ww67)) ∧
        (x70 ≠ 2 →
          0 ≤ (i64 : Int) ∧ (i64 : Int) < (2 : Int) ∧
          ∃ (x154 : Int), ww67.cell? ((blk q63).add (Int.toNat i64 * 1)) = some (.int .i64 x154) ∧
          (x154 ≠ 0 →
            0 ≤ (i64 : Int) ∧ (i64 : Int) < (2 : Int) ∧
            ∃ (xWriter157 : Int) (xIndex158 : Int) (xPrev159 : Int) (xAtT160 : Int) (xAtW161 : Int) (xEpoch162 : Int) (xBody163a : Option Addr) (xBody163n : Nat) (xBody163c : Nat) (xSig164 : Int), cellsAt ww67 ((blk q61).add (Int.toNat i64 * 8)) [.int .i64 xWriter157, .int .i64 xIndex158, .int .u64 xPrev159, .int .i64 xAtT160, .int .i64 xAtW161, .int .i64 xEpoch162, .slice xBody163a xBody163n xBody163c, .int .u64 xSig164] 0 ∧
            Calls Try.prog 13 #[.pointer new39, .int .u64 pair44, .agg #[.int .i64 xWriter157, .int .i64 xIndex158, .int .u64 xPrev159, .int .i64 xAtT160, .int .i64 xAtW161, .int .i64 xEpoch162, .slice xBody163a xBody163n xBody163c, .int .u64 xSig164]] ww67 fun ee174 ww175 => ∃ (Writer165 : Int) (Index166 : Int) (Prev167 : Int) (AtT168 : Int) (AtW169 : Int) (Epoch170 : Int) (Body171a : Option Addr) (Body171n : Nat) (Body171c : Nat) (Sig172 : Int) (sign173 : Int), ee174 = .returned (.tuple #[.agg #[.int .i64 Writer165, .int .i64 Index166, .int .u64 Prev167, .int .i64 AtT168, .int .i64 AtW169, .int .i64 Epoch170, .slice Body171a Body171n Body171c, .int .u64 Sig172], .int .i64 sign173]) ∧
            0 ≤ (i64 : Int) ∧ (i64 : Int) < (2 : Int) ∧
            ∃ (xWriter186 : Int) (xIndex187 : Int) (xPrev188 : Int) (xAtT189 : Int) (xAtW190 : Int) (xEpoch191 : Int) (xBody192a : Option Addr) (xBody192n : Nat) (xBody192c : Nat) (xSig193 : Int), cellsAt ww175 ((blk q61).add (Int.toNat i64 * 8)) [.int .i64 xWriter186, .int .i64 xIndex187, .int .u64 xPrev188, .int .i64 xAtT189, .int .i64 xAtW190, .int .i64 xEpoch191, .slice xBody192a xBody192n xBody192c, .int .u64 xSig193] 0 ∧
            ∀ (ww184 : World) (p194 : Nat), Ext no ww175 ww184 → Priv ww175 ww184 [p194] →
            Calls Try.prog 14 #[.pointer (some (blk q43)), .int .u64 pair44, .agg #[.int .i64 xWriter186, .int .i64 xIndex187, .int .u64 xPrev188, .int .i64 xAtT189, .int .i64 xAtW190, .int .i64 xEpoch191, .slice xBody192a xBody192n xBody192c, .int .u64 xSig193]] ww184 fun ee204 ww205 => ∃ (Writer195 : Int) (Index196 : Int) (Prev197 : Int) (AtT198 : Int) (AtW199 : Int) (Epoch200 : Int) (Body201a : Option Addr) (Body201n : Nat) (Body201c : Nat) (Sig202 : Int) (sign203 : Int), ee204 = .returned (.tuple #[.agg #[.int .i64 Writer195, .int .i64 Index196, .int .u64 Prev197, .int .i64 AtT198, .int .i64 AtW199, .int .i64 Epoch200, .slice Body201a Body201n Body201c, .int .u64 Sig202], .int .i64 sign203]) ∧
            Keep [p194] ww184 ww205 ∧
            (sign173 ≠ sign203 →
              ∀ (ww214 : World), Ext no ww205 ww214 →
              R (.bool false) ww214) ∧
            (sign173 = sign203 →
              ∀ (ww214 : World) (p217 : Nat), Ext no ww205 ww214 → Priv ww205 ww214 [p217] →
              Calls Try.prog 15 #[.agg #[.int .i64 Writer165, .int .i64 Index166, .int .u64 Prev167, .int .i64 AtT168, .int .i64 AtW169, .int .i64 Epoch170, .slice Body171a Body171n Body171c, .int .u64 Sig172], .agg #[.int .i64 Writer195, .int .i64 Index196, .int .u64 Prev197, .int .i64 AtT198, .int .i64 AtW199, .int .i64 Epoch200, .slice Body201a Body201n Body201c, .int .u64 Sig202]] ww214 fun ee219 ww220 => ∃ (same218 : Bool), ee219 = .returned (.bool same218) ∧
              Keep [p217] ww214 ww220 ∧
              (same218 = false →
                R (.bool false) ww220) ∧
              (same218 = true →
                (sign203 = 0 →
                  0 ≤ (i64 : Int) ∧ (i64 : Int) < (2 : Int) ∧
                  canStore ww220 (((blk q61).add (Int.toNat i64 * 8)).add 0) ∧
                  thenW (ww220.setCell (((blk q61).add (Int.toNat i64 * 8)).add 0) (.int .i64 Writer195)) fun ww223 =>
                  canStore ww223 (((blk q61).add (Int.toNat i64 * 8)).add 1) ∧
                  thenW (ww223.setCell (((blk q61).add (Int.toNat i64 * 8)).add 1) (.int .i64 Index196)) fun ww224 =>
                  canStore ww224 (((blk q61).add (Int.toNat i64 * 8)).add 2) ∧
                  thenW (ww224.setCell (((blk q61).add (Int.toNat i64 * 8)).add 2) (.int .u64 Prev197)) fun ww225 =>
                  canStore ww225 (((blk q61).add (Int.toNat i64 * 8)).add 3) ∧
                  thenW (ww225.setCell (((blk q61).add (Int.toNat i64 * 8)).add 3) (.int .i64 AtT198)) fun ww226 =>
                  canStore ww226 (((blk q61).add (Int.toNat i64 * 8)).add 4) ∧
                  thenW (ww226.setCell (((blk q61).add (Int.toNat i64 * 8)).add 4) (.int .i64 AtW199)) fun ww227 =>
                  canStore ww227 (((blk q61).add (Int.toNat i64 * 8)).add 5) ∧
                  thenW (ww227.setCell (((blk q61).add (Int.toNat i64 * 8)).add 5) (.int .i64 Epoch200)) fun ww228 =>
                  canStore ww228 (((blk q61).add (Int.toNat i64 * 8)).add 6) ∧
                  thenW (ww228.setCell (((blk q61).add (Int.toNat i64 * 8)).add 6) (.slice Body201a Body201n Body201c)) fun ww229 =>
                  canStore ww229 (((blk q61).add (Int.toNat i64 * 8)).add 7) ∧
                  thenW (ww229.setCell (((blk q61).add (Int.toNat i64 * 8)).add 7) (.int .u64 Sig202)) fun ww230 =>
                  (-9223372036854775808 : Int) ≤ (i64 + 1) ∧ (i64 + 1) < 9223372036854775808 ∧
                  ∃ m231, m231 < m66 ∧ I0 m231 [.int .i64 (i64 + 1)] ww230) ∧
                (sign203 ≠ 0 →
                  (-9223372036854775808 : Int) ≤ (i64 + 1) ∧ (i64 + 1) < 9223372036854775808 ∧
                  ∃ m232, m232 < m66 ∧ I0 m232 [.int .i64 (i64 + 1)] ww220)))) ∧
          (x154 = 0 →
            (-9223372036854775808 : Int) ≤ (i64 + 1) ∧ (i64 + 1) < 9223372036854775808 ∧
            ∃ m233, m233 < m66 ∧ I0 m233 [.int .i64 (i64 + 1)] ww67))) ∧
      ((2 : Int) ≤ i64 →
        ∃ (xWriter236 : Int) (xIndex237 : Int) (xPrev238 : Int) (xAtT239 : Int) (xAtW240 : Int) (xEpoch241 : Int) (xBody242a : Option Addr) (xBody242n : Nat) (xBody242c : Nat) (xSig243 : Int), cellsAt ww67 ((blk q61).add (Int.toNat 0 * 8)) [.int .i64 xWriter236, .int .i64 xIndex237, .int .u64 xPrev238, .int .i64 xAtT239, .int .i64 xAtW240, .int .i64 xEpoch241, .slice xBody242a xBody242n xBody242c, .int .u64 xSig243] 0 ∧
        ∃ (xWriter245 : Int) (xIndex246 : Int) (xPrev247 : Int) (xAtT248 : Int) (xAtW249 : Int) (xEpoch250 : Int) (xBody251a : Option Addr) (xBody251n : Nat) (xBody251c : Nat) (xSig252 : Int), cellsAt ww67 ((blk q61).add (Int.toNat 1 * 8)) [.int .i64 xWriter245, .int .i64 xIndex246, .int .u64 xPrev247, .int .i64 xAtT248, .int .i64 xAtW249, .int .i64 xEpoch250, .slice xBody251a xBody251n xBody251c, .int .u64 xSig252] 0 ∧
        ∃ (xWriter254 : Int) (xIndex255 : Int) (xPrev256 : Int) (xAtT257 : Int) (xAtW258 : Int) (xEpoch259 : Int) (xBody260a : Option Addr) (xBody260n : Nat) (xBody260c : Nat) (xSig261 : Int), cellsAt ww67 ((blk q61).add (Int.toNat 0 * 8)) [.int .i64 xWriter254, .int .i64 xIndex255, .int .u64 xPrev256, .int .i64 xAtT257, .int .i64 xAtW258, .int .i64 xEpoch259, .slice xBody260a xBody260n xBody260c, .int .u64 xSig261] 0 ∧
        ∃ (xWriter263 : Int) (xIndex264 : Int) (xPrev265 : Int) (xAtT266 : Int) (xAtW267 : Int) (xEpoch268 : Int) (xBody269a : Option Addr) (xBody269n : Nat) (xBody269c : Nat) (xSig270 : Int), cellsAt ww67 ((blk q61).add (Int.toNat 1 * 8)) [.int .i64 xWriter263, .int .i64 xIndex264, .int .u64 xPrev265, .int .i64 xAtT266, .int .i64 xAtW267, .int .i64 xEpoch268, .slice xBody269a xBody269n xBody269c, .int .u64 xSig270] 0 ∧
        ∀ (ww234 : World), Ext no ww67 ww234 →
        Calls Try.prog 16 #[.pointer new39, .int .u64 pair45, .agg #[.int .i64 xWriter236, .int .i64 xIndex237, .int .u64 xPrev238, .int .i64 xAtT239, .int .i64 xAtW240, .int .i64 xEpoch241, .slice xBody242a xBody242n xBody242c, .int .u64 xSig243, .int .i64 xWriter245, .int .i64 xIndex246, .int .u64 xPrev247, .int .i64 xAtT248, .int .i64 xAtW249, .int .i64 xEpoch250, .slice xBody251a xBody251n xBody251c, .int .u64 xSig252]] ww234 fun ee272 ww273 => ∃ (check271 : Int), ee272 = .returned (.int .i64 check271) ∧
        cellsAt ww273 ((blk q61).add (Int.toNat 1 * 8)) [.int .i64 xWriter263, .int .i64 xIndex264, .int .u64 xPrev265, .int .i64 xAtT266, .int .i64 xAtW267, .int .i64 xEpoch268, .slice xBody269a xBody269n xBody269c, .int .u64 xSig270] 0 ∧
        cellsAt ww273 ((blk q61).add (Int.toNat 0 * 8)) [.int .i64 xWriter254, .int .i64 xIndex255, .int .u64 xPrev256, .int .i64 xAtT257, .int .i64 xAtW258, .int .i64 xEpoch259, .slice xBody260a xBody260n xBody260c, .int .u64 xSig261] 0 ∧
        Calls Try.prog 17 #[.pointer (some (blk q43)), .int .u64 pair45, .agg #[.int .i64 xWriter254, .int .i64 xIndex255, .int .u64 xPrev256, .int .i64 xAtT257, .int .i64 xAtW258, .int .i64 xEpoch259, .slice xBody260a xBody260n xBody260c, .int .u64 xSig261, .int .i64 xWriter263, .int .i64 xIndex264, .int .u64 xPrev265, .int .i64 xAtT266, .int .i64 xAtW267, .int .i64 xEpoch268, .slice xBody269a xBody269n xBody269c, .int .u64 xSig270]] ww273 fun ee277 ww278 => ∃ (check276 : Int), ee277 = .returned (.int .i64 check276) ∧
        (check271 = check276 →
          Calls Try.prog 9 #[] ww278 fun ee281 ww282 => ∃ (alive280 : Bool), ee281 = .returned (.bool alive280) ∧
          R (.bool alive280) ww282) ∧
        (check271 ≠ check276 →
          R (.bool false) ww278))))

theorem cachettelaw23_ForkcheckChecks.up (draws1a : Option Addr) (draws1n : Nat) (draws1c : Nat) (aWriter2 : Int) (aIndex3 : Int) (aPrev4 : Int) (aAtT5 : Int) (aAtW6 : Int) (aEpoch7 : Int) (aBody8a : Option Addr) (aBody8n : Nat) (aBody8c : Nat) (aSig9 : Int) (bWriter10 : Int) (bIndex11 : Int) (bPrev12 : Int) (bAtT13 : Int) (bAtW14 : Int) (bEpoch15 : Int) (bBody16a : Option Addr) (bBody16n : Nat) (bBody16c : Nat) (bSig17 : Int) (x18 : Int) (y19 : Int) {R : Value → World → Prop} {w : World} (h : cachettelaw23_ForkcheckChecks.N draws1a draws1n draws1c aWriter2 aIndex3 aPrev4 aAtT5 aAtW6 aEpoch7 aBody8a aBody8n aBody8c aSig9 bWriter10 bIndex11 bPrev12 bAtT13 bAtW14 bEpoch15 bBody16a bBody16n bBody16c bSig17 x18 y19 R w) : cachettelaw23_ForkcheckChecks.M draws1a draws1n draws1c aWriter2 aIndex3 aPrev4 aAtT5 aAtW6 aEpoch7 aBody8a aBody8n aBody8c aSig9 bWriter10 bIndex11 bPrev12 bAtT13 bAtW14 bEpoch15 bBody16a bBody16n bBody16c bSig17 x18 y19 R w := by
  unfold cachettelaw23_ForkcheckChecks.M
  unfold cachettelaw23_ForkcheckChecks.N at h
  refine thenW_in fun ww20 e20 => ?_
  have hb1 := Blk.of_new e20
  have hg1 := ((Ext.refl no w)).size
  have hx20 := (Ext.refl no w).x_alloc e20
  refine thenW_in fun ww21 e21 => ?_
  have hb2 := Blk.of_new e21
  have hg2 := (hx20).size
  have hb1_2 := Nat.ne_of_lt hb1.lt
  have hb1 := hb1.x_alloc e21
  have hx21 := hx20.x_alloc e21
  refine bif_of (fun c22 => ?_) (fun c22 => ?_)
  · have h := h.1 (of_decide_eq_true c22)
    have h := h ww21 hx21
    refine h.mono fun ee26 ww27 h => ?_
    obtain ⟨alive25, he, h⟩ := h
    refine ⟨alive25, he, ?_⟩
    exact h
  · have h := h.2 (Int.not_lt.1 (of_decide_eq_false c22))
    refine ⟨aWriter2, aIndex3, aPrev4, aAtT5, aAtW6, aEpoch7, aBody8a, aBody8n, aBody8c, aSig9, ⟨hb1.celli 0 rfl rfl, hb1.celli 1 rfl rfl, hb1.celli 2 rfl rfl, hb1.celli 3 rfl rfl, hb1.celli 4 rfl rfl, hb1.celli 5 rfl rfl, hb1.celli 6 rfl rfl, hb1.celli 7 rfl rfl, trivial⟩, ?_⟩
    refine ⟨bWriter10, bIndex11, bPrev12, bAtT13, bAtW14, bEpoch15, bBody16a, bBody16n, bBody16c, bSig17, ⟨hb2.celli 0 rfl rfl, hb2.celli 1 rfl rfl, hb2.celli 2 rfl rfl, hb2.celli 3 rfl rfl, hb2.celli 4 rfl rfl, hb2.celli 5 rfl rfl, hb2.celli 6 rfl rfl, hb2.celli 7 rfl rfl, trivial⟩, ?_⟩
    refine thenW_in fun ww28 e28 => ?_
    have hl1 := hb1.lt
    have hl2 := hb2.lt
    have hb1 := hb1.x_alloc e28
    have hb2 := hb2.x_alloc e28
    have h := h ww28 ww21.heap.size (w.heap.size) (ww20.heap.size) (hx21.x_alloc e28) (Blk.of_new e28) (hx21).size (size_lt_alloc e28) (Privq.cons hg1 hl1 (Privq.cons hg2 hl2 Privq.nil))
    refine h.mono fun ee33 ww34 h => ?_
    obtain ⟨short32, he, hk, h⟩ := h
    refine ⟨short32, he, ?_⟩
    have hb1 := hk.blk hb1 (by simp)
    have hb2 := hk.blk hb2 (by simp)
    refine bif_of (fun c35 => ?_) (fun c35 => ?_)
    · have h := h.1 (not_t c35)
      refine h.mono fun ee37 ww38 h => ?_
      obtain ⟨alive36, he, h⟩ := h
      refine ⟨alive36, he, ?_⟩
      exact h
    · have h := h.2 (not_f c35)
      refine h.mono fun ee40 ww41 h => ?_
      obtain ⟨new39, he, hk, h⟩ := h
      refine ⟨new39, he, ?_⟩
      have hb1 := hk.blk hb1 (by simp)
      have hb2 := hk.blk hb2 (by simp)
      refine thenW_in fun ww42 e42 => ?_
      have hb1 := hb1.x_alloc e42
      have hb2 := hb2.x_alloc e42
      have h := h ww42 ww41.heap.size ((Ext.refl no ww41).x_alloc e42) (Blk.of_new e42) ((Ext.refl no ww41)).size (size_lt_alloc e42)
      refine h.mono fun ee46 ww47 h => ?_
      obtain ⟨pair44, pair45, he, hk, h⟩ := h
      refine ⟨pair44, pair45, he, ?_⟩
      have hb1 := hk.blk hb1 (by simp)
      have hb2 := hk.blk hb2 (by simp)
      refine h.mono fun ee50 ww51 h => ?_
      obtain ⟨pair48, pair49, he, hk, h⟩ := h
      refine ⟨pair48, pair49, he, ?_⟩
      have hb1 := hk.blk hb1 (by simp)
      have hb2 := hk.blk hb2 (by simp)
      refine h.mono fun ee54 ww55 h => ?_
      obtain ⟨pair52, pair53, he, hk, h⟩ := h
      refine ⟨pair52, pair53, he, ?_⟩
      have hb1 := hk.blk hb1 (by simp)
      have hb2 := hk.blk hb2 (by simp)
      refine h.mono fun ee58 ww59 h => ?_
      obtain ⟨pair56, pair57, he, hk, h⟩ := h
      refine ⟨pair56, pair57, he, ?_⟩
      have hb1 := hk.blk hb1 (by simp)
      have hb2 := hk.blk hb2 (by simp)
      refine ⟨aWriter2, aIndex3, aPrev4, aAtT5, aAtW6, aEpoch7, aBody8a, aBody8n, aBody8c, aSig9, ⟨hb1.celli 0 rfl rfl, hb1.celli 1 rfl rfl, hb1.celli 2 rfl rfl, hb1.celli 3 rfl rfl, hb1.celli 4 rfl rfl, hb1.celli 5 rfl rfl, hb1.celli 6 rfl rfl, hb1.celli 7 rfl rfl, trivial⟩, ?_⟩
      refine ⟨bWriter10, bIndex11, bPrev12, bAtT13, bAtW14, bEpoch15, bBody16a, bBody16n, bBody16c, bSig17, ⟨hb2.celli 0 rfl rfl, hb2.celli 1 rfl rfl, hb2.celli 2 rfl rfl, hb2.celli 3 rfl rfl, hb2.celli 4 rfl rfl, hb2.celli 5 rfl rfl, hb2.celli 6 rfl rfl, hb2.celli 7 rfl rfl, trivial⟩, ?_⟩
      refine thenW_in fun ww60 e60 => ?_
      have h := h ww60 ww59.heap.size ((Ext.refl no ww59).x_alloc e60) (Blk.of_new e60) ((Ext.refl no ww59)).size (size_lt_alloc e60)
      refine thenW_in fun ww62 e62 => ?_
      have h := h ww62 ww60.heap.size ((Ext.refl no ww60).x_alloc e62) (Blk.of_new e62) ((Ext.refl no ww60)).size (size_lt_alloc e62)
      obtain ⟨I0, m65, h0, h⟩ := h
      refine ⟨I0, m65, h0, fun m66 ww67 i64 hI => ?_⟩
      have h := h m66 ww67 i64 hI
      refine bif_of (fun c68 => ?_) (fun c68 => ?_)
      · have h := h.1 (of_decide_eq_true c68)
        obtain ⟨hq1, hq2, h⟩ := h
        refine ⟨hq1, hq2, ?_⟩
        obtain ⟨x70, hc69, h⟩ := h
        refine ⟨x70, hc69, ?_⟩
        refine bif_of (fun c71 => ?_) (fun c71 => ?_)
        · have h := h.1 (beq_t c71)
          obtain ⟨hq1, hq2, h⟩ := h
          refine ⟨hq1, hq2, ?_⟩
          obtain ⟨x73, hc72, h⟩ := h
          refine ⟨x73, hc72, ?_⟩
          refine bif_of (fun c74 => ?_) (fun c74 => ?_)
          · have h := h.1 (bne_t c74)
            obtain ⟨hq1, hq2, h⟩ := h
            refine ⟨hq1, hq2, ?_⟩
            obtain ⟨xWriter76, xIndex77, xPrev78, xAtT79, xAtW80, xEpoch81, xBody82a, xBody82n, xBody82c, xSig83, hc75, h⟩ := h
            refine ⟨xWriter76, xIndex77, xPrev78, xAtT79, xAtW80, xEpoch81, xBody82a, xBody82n, xBody82c, xSig83, hc75, ?_⟩
            refine h.mono fun ee93 ww94 h => ?_
            obtain ⟨Writer84, Index85, Prev86, AtT87, AtW88, Epoch89, Body90a, Body90n, Body90c, Sig91, sign92, he, h⟩ := h
            refine ⟨Writer84, Index85, Prev86, AtT87, AtW88, Epoch89, Body90a, Body90n, Body90c, Sig91, sign92, he, ?_⟩
            refine thenW_in fun ww95 e95 => ?_
            have hb3 := Blk.of_new e95
            have hg3 := ((Ext.refl no ww94)).size
            have hx95 := (Ext.refl no ww94).x_alloc e95
            refine ⟨hb3.cani 0 rfl rfl, thenW_in fun ww96 e96 => ?_⟩
            have hx96 := hx95.x_set (q := ww94.heap.size) (i := 0) rfl (.inr hg3) e96
            have hb3 := hb3.seti 0 rfl e96
            refine ⟨hb3.cani 1 rfl rfl, thenW_in fun ww97 e97 => ?_⟩
            have hx97 := hx96.x_set (q := ww94.heap.size) (i := 1) rfl (.inr hg3) e97
            have hb3 := hb3.seti 1 rfl e97
            refine ⟨hb3.cani 2 rfl rfl, thenW_in fun ww98 e98 => ?_⟩
            have hx98 := hx97.x_set (q := ww94.heap.size) (i := 2) rfl (.inr hg3) e98
            have hb3 := hb3.seti 2 rfl e98
            refine ⟨hb3.cani 3 rfl rfl, thenW_in fun ww99 e99 => ?_⟩
            have hx99 := hx98.x_set (q := ww94.heap.size) (i := 3) rfl (.inr hg3) e99
            have hb3 := hb3.seti 3 rfl e99
            refine ⟨hb3.cani 4 rfl rfl, thenW_in fun ww100 e100 => ?_⟩
            have hx100 := hx99.x_set (q := ww94.heap.size) (i := 4) rfl (.inr hg3) e100
            have hb3 := hb3.seti 4 rfl e100
            refine ⟨hb3.cani 5 rfl rfl, thenW_in fun ww101 e101 => ?_⟩
            have hx101 := hx100.x_set (q := ww94.heap.size) (i := 5) rfl (.inr hg3) e101
            have hb3 := hb3.seti 5 rfl e101
            refine ⟨hb3.cani 6 rfl rfl, thenW_in fun ww102 e102 => ?_⟩
            have hx102 := hx101.x_set (q := ww94.heap.size) (i := 6) rfl (.inr hg3) e102
            have hb3 := hb3.seti 6 rfl e102
            refine ⟨hb3.cani 7 rfl rfl, thenW_in fun ww103 e103 => ?_⟩
            have hx103 := hx102.x_set (q := ww94.heap.size) (i := 7) rfl (.inr hg3) e103
            have hb3 := hb3.seti 7 rfl e103
            obtain ⟨hq1, hq2, h⟩ := h
            refine ⟨hq1, hq2, ?_⟩
            obtain ⟨xWriter105, xIndex106, xPrev107, xAtT108, xAtW109, xEpoch110, xBody111a, xBody111n, xBody111c, xSig112, hc104, h⟩ := h
            refine ⟨xWriter105, xIndex106, xPrev107, xAtT108, xAtW109, xEpoch110, xBody111a, xBody111n, xBody111c, xSig112, cellsAt_no (hx103) hc104, ?_⟩
            have h := h ww103 (ww94.heap.size) hx103 (Priv.cons hg3 hb3.lt Priv.nil)
            refine h.mono fun ee123 ww124 h => ?_
            obtain ⟨Writer114, Index115, Prev116, AtT117, AtW118, Epoch119, Body120a, Body120n, Body120c, Sig121, sign122, he, hk, h⟩ := h
            refine ⟨Writer114, Index115, Prev116, AtT117, AtW118, Epoch119, Body120a, Body120n, Body120c, Sig121, sign122, he, ?_⟩
            have hb3 := hk.blk hb3 (by simp)
            refine thenW_in fun ww125 e125 => ?_
            have hb4 := Blk.of_new e125
            have hg4 := ((Ext.refl no ww124)).size
            have hb3_4 := Nat.ne_of_lt hb3.lt
            have hb3 := hb3.x_alloc e125
            have hx125 := (Ext.refl no ww124).x_alloc e125
            refine ⟨hb4.cani 0 rfl rfl, thenW_in fun ww126 e126 => ?_⟩
            have hx126 := hx125.x_set (q := ww124.heap.size) (i := 0) rfl (.inr hg4) e126
            have hb3 := hb3.oth (q := ww124.heap.size) (i := 0) rfl hb3_4 e126
            have hb4 := hb4.seti 0 rfl e126
            refine ⟨hb4.cani 1 rfl rfl, thenW_in fun ww127 e127 => ?_⟩
            have hx127 := hx126.x_set (q := ww124.heap.size) (i := 1) rfl (.inr hg4) e127
            have hb3 := hb3.oth (q := ww124.heap.size) (i := 1) rfl hb3_4 e127
            have hb4 := hb4.seti 1 rfl e127
            refine ⟨hb4.cani 2 rfl rfl, thenW_in fun ww128 e128 => ?_⟩
            have hx128 := hx127.x_set (q := ww124.heap.size) (i := 2) rfl (.inr hg4) e128
            have hb3 := hb3.oth (q := ww124.heap.size) (i := 2) rfl hb3_4 e128
            have hb4 := hb4.seti 2 rfl e128
            refine ⟨hb4.cani 3 rfl rfl, thenW_in fun ww129 e129 => ?_⟩
            have hx129 := hx128.x_set (q := ww124.heap.size) (i := 3) rfl (.inr hg4) e129
            have hb3 := hb3.oth (q := ww124.heap.size) (i := 3) rfl hb3_4 e129
            have hb4 := hb4.seti 3 rfl e129
            refine ⟨hb4.cani 4 rfl rfl, thenW_in fun ww130 e130 => ?_⟩
            have hx130 := hx129.x_set (q := ww124.heap.size) (i := 4) rfl (.inr hg4) e130
            have hb3 := hb3.oth (q := ww124.heap.size) (i := 4) rfl hb3_4 e130
            have hb4 := hb4.seti 4 rfl e130
            refine ⟨hb4.cani 5 rfl rfl, thenW_in fun ww131 e131 => ?_⟩
            have hx131 := hx130.x_set (q := ww124.heap.size) (i := 5) rfl (.inr hg4) e131
            have hb3 := hb3.oth (q := ww124.heap.size) (i := 5) rfl hb3_4 e131
            have hb4 := hb4.seti 5 rfl e131
            refine ⟨hb4.cani 6 rfl rfl, thenW_in fun ww132 e132 => ?_⟩
            have hx132 := hx131.x_set (q := ww124.heap.size) (i := 6) rfl (.inr hg4) e132
            have hb3 := hb3.oth (q := ww124.heap.size) (i := 6) rfl hb3_4 e132
            have hb4 := hb4.seti 6 rfl e132
            refine ⟨hb4.cani 7 rfl rfl, thenW_in fun ww133 e133 => ?_⟩
            have hx133 := hx132.x_set (q := ww124.heap.size) (i := 7) rfl (.inr hg4) e133
            have hb3 := hb3.oth (q := ww124.heap.size) (i := 7) rfl hb3_4 e133
            have hb4 := hb4.seti 7 rfl e133
            refine bif_of (fun c134 => ?_) (fun c134 => ?_)
            · have h := h.1 (bne_t c134)
              have h := h ww133 hx133
              exact h
            · have h := h.2 (bne_f c134)
              refine ⟨Writer84, Index85, Prev86, AtT87, AtW88, Epoch89, Body90a, Body90n, Body90c, Sig91, ⟨hb3.celli 0 rfl rfl, hb3.celli 1 rfl rfl, hb3.celli 2 rfl rfl, hb3.celli 3 rfl rfl, hb3.celli 4 rfl rfl, hb3.celli 5 rfl rfl, hb3.celli 6 rfl rfl, hb3.celli 7 rfl rfl, trivial⟩, ?_⟩
              refine ⟨Writer114, Index115, Prev116, AtT117, AtW118, Epoch119, Body120a, Body120n, Body120c, Sig121, ⟨hb4.celli 0 rfl rfl, hb4.celli 1 rfl rfl, hb4.celli 2 rfl rfl, hb4.celli 3 rfl rfl, hb4.celli 4 rfl rfl, hb4.celli 5 rfl rfl, hb4.celli 6 rfl rfl, hb4.celli 7 rfl rfl, trivial⟩, ?_⟩
              have h := h ww133 (ww124.heap.size) hx133 (Priv.cons hg4 hb4.lt Priv.nil)
              refine h.mono fun ee138 ww139 h => ?_
              obtain ⟨same137, he, hk, h⟩ := h
              refine ⟨same137, he, ?_⟩
              have hb4 := hk.blk hb4 (by simp)
              refine bif_of (fun c140 => ?_) (fun c140 => ?_)
              · have h := h.1 (not_t c140)
                exact h
              · have h := h.2 (not_f c140)
                refine bif_of (fun c141 => ?_) (fun c141 => ?_)
                · have h := h.1 (beq_t c141)
                  refine ⟨Writer114, Index115, Prev116, AtT117, AtW118, Epoch119, Body120a, Body120n, Body120c, Sig121, ⟨hb4.celli 0 rfl rfl, hb4.celli 1 rfl rfl, hb4.celli 2 rfl rfl, hb4.celli 3 rfl rfl, hb4.celli 4 rfl rfl, hb4.celli 5 rfl rfl, hb4.celli 6 rfl rfl, hb4.celli 7 rfl rfl, trivial⟩, ?_⟩
                  obtain ⟨hq1, hq2, h⟩ := h
                  refine ⟨hq1, hq2, ?_⟩
                  obtain ⟨hcs, h⟩ := h
                  refine ⟨hcs, thenW_in fun ww142 e142 => ?_⟩
                  replace h := thenW_out h e142
                  obtain ⟨hcs, h⟩ := h
                  refine ⟨hcs, thenW_in fun ww143 e143 => ?_⟩
                  replace h := thenW_out h e143
                  obtain ⟨hcs, h⟩ := h
                  refine ⟨hcs, thenW_in fun ww144 e144 => ?_⟩
                  replace h := thenW_out h e144
                  obtain ⟨hcs, h⟩ := h
                  refine ⟨hcs, thenW_in fun ww145 e145 => ?_⟩
                  replace h := thenW_out h e145
                  obtain ⟨hcs, h⟩ := h
                  refine ⟨hcs, thenW_in fun ww146 e146 => ?_⟩
                  replace h := thenW_out h e146
                  obtain ⟨hcs, h⟩ := h
                  refine ⟨hcs, thenW_in fun ww147 e147 => ?_⟩
                  replace h := thenW_out h e147
                  obtain ⟨hcs, h⟩ := h
                  refine ⟨hcs, thenW_in fun ww148 e148 => ?_⟩
                  replace h := thenW_out h e148
                  obtain ⟨hcs, h⟩ := h
                  refine ⟨hcs, thenW_in fun ww149 e149 => ?_⟩
                  replace h := thenW_out h e149
                  obtain ⟨hw1, hw2, h⟩ := h
                  try rw [w64 hw1 hw2]
                  obtain ⟨m150, hk, h⟩ := h
                  exact ⟨m150, hk, h⟩
                · have h := h.2 (beq_f c141)
                  obtain ⟨hw1, hw2, h⟩ := h
                  try rw [w64 hw1 hw2]
                  obtain ⟨m151, hk, h⟩ := h
                  exact ⟨m151, hk, h⟩
          · have h := h.2 (bne_f c74)
            obtain ⟨hw1, hw2, h⟩ := h
            try rw [w64 hw1 hw2]
            obtain ⟨m152, hk, h⟩ := h
            exact ⟨m152, hk, h⟩
        · have h := h.2 (beq_f c71)
          obtain ⟨hq1, hq2, h⟩ := h
          refine ⟨hq1, hq2, ?_⟩
          obtain ⟨x154, hc153, h⟩ := h
          refine ⟨x154, hc153, ?_⟩
          refine bif_of (fun c155 => ?_) (fun c155 => ?_)
          · have h := h.1 (bne_t c155)
            obtain ⟨hq1, hq2, h⟩ := h
            refine ⟨hq1, hq2, ?_⟩
            obtain ⟨xWriter157, xIndex158, xPrev159, xAtT160, xAtW161, xEpoch162, xBody163a, xBody163n, xBody163c, xSig164, hc156, h⟩ := h
            refine ⟨xWriter157, xIndex158, xPrev159, xAtT160, xAtW161, xEpoch162, xBody163a, xBody163n, xBody163c, xSig164, hc156, ?_⟩
            refine h.mono fun ee174 ww175 h => ?_
            obtain ⟨Writer165, Index166, Prev167, AtT168, AtW169, Epoch170, Body171a, Body171n, Body171c, Sig172, sign173, he, h⟩ := h
            refine ⟨Writer165, Index166, Prev167, AtT168, AtW169, Epoch170, Body171a, Body171n, Body171c, Sig172, sign173, he, ?_⟩
            refine thenW_in fun ww176 e176 => ?_
            have hb5 := Blk.of_new e176
            have hg5 := ((Ext.refl no ww175)).size
            have hx176 := (Ext.refl no ww175).x_alloc e176
            refine ⟨hb5.cani 0 rfl rfl, thenW_in fun ww177 e177 => ?_⟩
            have hx177 := hx176.x_set (q := ww175.heap.size) (i := 0) rfl (.inr hg5) e177
            have hb5 := hb5.seti 0 rfl e177
            refine ⟨hb5.cani 1 rfl rfl, thenW_in fun ww178 e178 => ?_⟩
            have hx178 := hx177.x_set (q := ww175.heap.size) (i := 1) rfl (.inr hg5) e178
            have hb5 := hb5.seti 1 rfl e178
            refine ⟨hb5.cani 2 rfl rfl, thenW_in fun ww179 e179 => ?_⟩
            have hx179 := hx178.x_set (q := ww175.heap.size) (i := 2) rfl (.inr hg5) e179
            have hb5 := hb5.seti 2 rfl e179
            refine ⟨hb5.cani 3 rfl rfl, thenW_in fun ww180 e180 => ?_⟩
            have hx180 := hx179.x_set (q := ww175.heap.size) (i := 3) rfl (.inr hg5) e180
            have hb5 := hb5.seti 3 rfl e180
            refine ⟨hb5.cani 4 rfl rfl, thenW_in fun ww181 e181 => ?_⟩
            have hx181 := hx180.x_set (q := ww175.heap.size) (i := 4) rfl (.inr hg5) e181
            have hb5 := hb5.seti 4 rfl e181
            refine ⟨hb5.cani 5 rfl rfl, thenW_in fun ww182 e182 => ?_⟩
            have hx182 := hx181.x_set (q := ww175.heap.size) (i := 5) rfl (.inr hg5) e182
            have hb5 := hb5.seti 5 rfl e182
            refine ⟨hb5.cani 6 rfl rfl, thenW_in fun ww183 e183 => ?_⟩
            have hx183 := hx182.x_set (q := ww175.heap.size) (i := 6) rfl (.inr hg5) e183
            have hb5 := hb5.seti 6 rfl e183
            refine ⟨hb5.cani 7 rfl rfl, thenW_in fun ww184 e184 => ?_⟩
            have hx184 := hx183.x_set (q := ww175.heap.size) (i := 7) rfl (.inr hg5) e184
            have hb5 := hb5.seti 7 rfl e184
            obtain ⟨hq1, hq2, h⟩ := h
            refine ⟨hq1, hq2, ?_⟩
            obtain ⟨xWriter186, xIndex187, xPrev188, xAtT189, xAtW190, xEpoch191, xBody192a, xBody192n, xBody192c, xSig193, hc185, h⟩ := h
            refine ⟨xWriter186, xIndex187, xPrev188, xAtT189, xAtW190, xEpoch191, xBody192a, xBody192n, xBody192c, xSig193, cellsAt_no (hx184) hc185, ?_⟩
            have h := h ww184 (ww175.heap.size) hx184 (Priv.cons hg5 hb5.lt Priv.nil)
            refine h.mono fun ee204 ww205 h => ?_
            obtain ⟨Writer195, Index196, Prev197, AtT198, AtW199, Epoch200, Body201a, Body201n, Body201c, Sig202, sign203, he, hk, h⟩ := h
            refine ⟨Writer195, Index196, Prev197, AtT198, AtW199, Epoch200, Body201a, Body201n, Body201c, Sig202, sign203, he, ?_⟩
            have hb5 := hk.blk hb5 (by simp)
            refine thenW_in fun ww206 e206 => ?_
            have hb6 := Blk.of_new e206
            have hg6 := ((Ext.refl no ww205)).size
            have hb5_6 := Nat.ne_of_lt hb5.lt
            have hb5 := hb5.x_alloc e206
            have hx206 := (Ext.refl no ww205).x_alloc e206
            refine ⟨hb6.cani 0 rfl rfl, thenW_in fun ww207 e207 => ?_⟩
            have hx207 := hx206.x_set (q := ww205.heap.size) (i := 0) rfl (.inr hg6) e207
            have hb5 := hb5.oth (q := ww205.heap.size) (i := 0) rfl hb5_6 e207
            have hb6 := hb6.seti 0 rfl e207
            refine ⟨hb6.cani 1 rfl rfl, thenW_in fun ww208 e208 => ?_⟩
            have hx208 := hx207.x_set (q := ww205.heap.size) (i := 1) rfl (.inr hg6) e208
            have hb5 := hb5.oth (q := ww205.heap.size) (i := 1) rfl hb5_6 e208
            have hb6 := hb6.seti 1 rfl e208
            refine ⟨hb6.cani 2 rfl rfl, thenW_in fun ww209 e209 => ?_⟩
            have hx209 := hx208.x_set (q := ww205.heap.size) (i := 2) rfl (.inr hg6) e209
            have hb5 := hb5.oth (q := ww205.heap.size) (i := 2) rfl hb5_6 e209
            have hb6 := hb6.seti 2 rfl e209
            refine ⟨hb6.cani 3 rfl rfl, thenW_in fun ww210 e210 => ?_⟩
            have hx210 := hx209.x_set (q := ww205.heap.size) (i := 3) rfl (.inr hg6) e210
            have hb5 := hb5.oth (q := ww205.heap.size) (i := 3) rfl hb5_6 e210
            have hb6 := hb6.seti 3 rfl e210
            refine ⟨hb6.cani 4 rfl rfl, thenW_in fun ww211 e211 => ?_⟩
            have hx211 := hx210.x_set (q := ww205.heap.size) (i := 4) rfl (.inr hg6) e211
            have hb5 := hb5.oth (q := ww205.heap.size) (i := 4) rfl hb5_6 e211
            have hb6 := hb6.seti 4 rfl e211
            refine ⟨hb6.cani 5 rfl rfl, thenW_in fun ww212 e212 => ?_⟩
            have hx212 := hx211.x_set (q := ww205.heap.size) (i := 5) rfl (.inr hg6) e212
            have hb5 := hb5.oth (q := ww205.heap.size) (i := 5) rfl hb5_6 e212
            have hb6 := hb6.seti 5 rfl e212
            refine ⟨hb6.cani 6 rfl rfl, thenW_in fun ww213 e213 => ?_⟩
            have hx213 := hx212.x_set (q := ww205.heap.size) (i := 6) rfl (.inr hg6) e213
            have hb5 := hb5.oth (q := ww205.heap.size) (i := 6) rfl hb5_6 e213
            have hb6 := hb6.seti 6 rfl e213
            refine ⟨hb6.cani 7 rfl rfl, thenW_in fun ww214 e214 => ?_⟩
            have hx214 := hx213.x_set (q := ww205.heap.size) (i := 7) rfl (.inr hg6) e214
            have hb5 := hb5.oth (q := ww205.heap.size) (i := 7) rfl hb5_6 e214
            have hb6 := hb6.seti 7 rfl e214
            refine bif_of (fun c215 => ?_) (fun c215 => ?_)
            · have h := h.1 (bne_t c215)
              have h := h ww214 hx214
              exact h
            · have h := h.2 (bne_f c215)
              refine ⟨Writer165, Index166, Prev167, AtT168, AtW169, Epoch170, Body171a, Body171n, Body171c, Sig172, ⟨hb5.celli 0 rfl rfl, hb5.celli 1 rfl rfl, hb5.celli 2 rfl rfl, hb5.celli 3 rfl rfl, hb5.celli 4 rfl rfl, hb5.celli 5 rfl rfl, hb5.celli 6 rfl rfl, hb5.celli 7 rfl rfl, trivial⟩, ?_⟩
              refine ⟨Writer195, Index196, Prev197, AtT198, AtW199, Epoch200, Body201a, Body201n, Body201c, Sig202, ⟨hb6.celli 0 rfl rfl, hb6.celli 1 rfl rfl, hb6.celli 2 rfl rfl, hb6.celli 3 rfl rfl, hb6.celli 4 rfl rfl, hb6.celli 5 rfl rfl, hb6.celli 6 rfl rfl, hb6.celli 7 rfl rfl, trivial⟩, ?_⟩
              have h := h ww214 (ww205.heap.size) hx214 (Priv.cons hg6 hb6.lt Priv.nil)
              refine h.mono fun ee219 ww220 h => ?_
              obtain ⟨same218, he, hk, h⟩ := h
              refine ⟨same218, he, ?_⟩
              have hb6 := hk.blk hb6 (by simp)
              refine bif_of (fun c221 => ?_) (fun c221 => ?_)
              · have h := h.1 (not_t c221)
                exact h
              · have h := h.2 (not_f c221)
                refine bif_of (fun c222 => ?_) (fun c222 => ?_)
                · have h := h.1 (beq_t c222)
                  refine ⟨Writer195, Index196, Prev197, AtT198, AtW199, Epoch200, Body201a, Body201n, Body201c, Sig202, ⟨hb6.celli 0 rfl rfl, hb6.celli 1 rfl rfl, hb6.celli 2 rfl rfl, hb6.celli 3 rfl rfl, hb6.celli 4 rfl rfl, hb6.celli 5 rfl rfl, hb6.celli 6 rfl rfl, hb6.celli 7 rfl rfl, trivial⟩, ?_⟩
                  obtain ⟨hq1, hq2, h⟩ := h
                  refine ⟨hq1, hq2, ?_⟩
                  obtain ⟨hcs, h⟩ := h
                  refine ⟨hcs, thenW_in fun ww223 e223 => ?_⟩
                  replace h := thenW_out h e223
                  obtain ⟨hcs, h⟩ := h
                  refine ⟨hcs, thenW_in fun ww224 e224 => ?_⟩
                  replace h := thenW_out h e224
                  obtain ⟨hcs, h⟩ := h
                  refine ⟨hcs, thenW_in fun ww225 e225 => ?_⟩
                  replace h := thenW_out h e225
                  obtain ⟨hcs, h⟩ := h
                  refine ⟨hcs, thenW_in fun ww226 e226 => ?_⟩
                  replace h := thenW_out h e226
                  obtain ⟨hcs, h⟩ := h
                  refine ⟨hcs, thenW_in fun ww227 e227 => ?_⟩
                  replace h := thenW_out h e227
                  obtain ⟨hcs, h⟩ := h
                  refine ⟨hcs, thenW_in fun ww228 e228 => ?_⟩
                  replace h := thenW_out h e228
                  obtain ⟨hcs, h⟩ := h
                  refine ⟨hcs, thenW_in fun ww229 e229 => ?_⟩
                  replace h := thenW_out h e229
                  obtain ⟨hcs, h⟩ := h
                  refine ⟨hcs, thenW_in fun ww230 e230 => ?_⟩
                  replace h := thenW_out h e230
                  obtain ⟨hw1, hw2, h⟩ := h
                  try rw [w64 hw1 hw2]
                  obtain ⟨m231, hk, h⟩ := h
                  exact ⟨m231, hk, h⟩
                · have h := h.2 (beq_f c222)
                  obtain ⟨hw1, hw2, h⟩ := h
                  try rw [w64 hw1 hw2]
                  obtain ⟨m232, hk, h⟩ := h
                  exact ⟨m232, hk, h⟩
          · have h := h.2 (bne_f c155)
            obtain ⟨hw1, hw2, h⟩ := h
            try rw [w64 hw1 hw2]
            obtain ⟨m233, hk, h⟩ := h
            exact ⟨m233, hk, h⟩
      · have h := h.2 (Int.not_lt.1 (of_decide_eq_false c68))
        refine thenW_in fun ww234 e234 => ?_
        have hx234 := (Ext.refl no ww67).x_drew e234
        refine ⟨by decide, by decide, ?_⟩
        obtain ⟨xWriter236, xIndex237, xPrev238, xAtT239, xAtW240, xEpoch241, xBody242a, xBody242n, xBody242c, xSig243, hc235, h⟩ := h
        refine ⟨xWriter236, xIndex237, xPrev238, xAtT239, xAtW240, xEpoch241, xBody242a, xBody242n, xBody242c, xSig243, cellsAt_no (hx234) hc235, ?_⟩
        refine ⟨by decide, by decide, ?_⟩
        obtain ⟨xWriter245, xIndex246, xPrev247, xAtT248, xAtW249, xEpoch250, xBody251a, xBody251n, xBody251c, xSig252, hc244, h⟩ := h
        refine ⟨xWriter245, xIndex246, xPrev247, xAtT248, xAtW249, xEpoch250, xBody251a, xBody251n, xBody251c, xSig252, cellsAt_no (hx234) hc244, ?_⟩
        refine ⟨by decide, by decide, ?_⟩
        obtain ⟨xWriter254, xIndex255, xPrev256, xAtT257, xAtW258, xEpoch259, xBody260a, xBody260n, xBody260c, xSig261, hc253, h⟩ := h
        refine ⟨xWriter254, xIndex255, xPrev256, xAtT257, xAtW258, xEpoch259, xBody260a, xBody260n, xBody260c, xSig261, cellsAt_no (hx234) hc253, ?_⟩
        refine ⟨by decide, by decide, ?_⟩
        obtain ⟨xWriter263, xIndex264, xPrev265, xAtT266, xAtW267, xEpoch268, xBody269a, xBody269n, xBody269c, xSig270, hc262, h⟩ := h
        refine ⟨xWriter263, xIndex264, xPrev265, xAtT266, xAtW267, xEpoch268, xBody269a, xBody269n, xBody269c, xSig270, cellsAt_no (hx234) hc262, ?_⟩
        have h := h ww234 hx234
        refine h.mono fun ee272 ww273 h => ?_
        obtain ⟨check271, he, h⟩ := h
        refine ⟨check271, he, ?_⟩
        obtain ⟨ho274, ho275, h⟩ := h
        refine ⟨ho274, ho275, ?_⟩
        refine h.mono fun ee277 ww278 h => ?_
        obtain ⟨check276, he, h⟩ := h
        refine ⟨check276, he, ?_⟩
        refine bif_of (fun c279 => ?_) (fun c279 => ?_)
        · have h := h.1 (beq_t c279)
          refine h.mono fun ee281 ww282 h => ?_
          obtain ⟨alive280, he, h⟩ := h
          refine ⟨alive280, he, ?_⟩
          exact h
        · have h := h.2 (beq_f c279)
          exact h

theorem cachettelaw23_ForkcheckChecks.go (draws1a : Option Addr) (draws1n : Nat) (draws1c : Nat) (aWriter2 : Int) (aIndex3 : Int) (aPrev4 : Int) (aAtT5 : Int) (aAtW6 : Int) (aEpoch7 : Int) (aBody8a : Option Addr) (aBody8n : Nat) (aBody8c : Nat) (aSig9 : Int) (bWriter10 : Int) (bIndex11 : Int) (bPrev12 : Int) (bAtT13 : Int) (bAtW14 : Int) (bEpoch15 : Int) (bBody16a : Option Addr) (bBody16n : Nat) (bBody16c : Nat) (bSig17 : Int) (x18 : Int) (y19 : Int) {R : Value → World → Prop} {w : World} (h : cachettelaw23_ForkcheckChecks.N draws1a draws1n draws1c aWriter2 aIndex3 aPrev4 aAtT5 aAtW6 aEpoch7 aBody8a aBody8n aBody8c aSig9 bWriter10 bIndex11 bPrev12 bAtT13 bAtW14 bEpoch15 bBody16a bBody16n bBody16c bSig17 x18 y19 R w) : Calls Try.prog 3 #[.slice draws1a draws1n draws1c, .agg #[.int .i64 aWriter2, .int .i64 aIndex3, .int .u64 aPrev4, .int .i64 aAtT5, .int .i64 aAtW6, .int .i64 aEpoch7, .slice aBody8a aBody8n aBody8c, .int .u64 aSig9], .agg #[.int .i64 bWriter10, .int .i64 bIndex11, .int .u64 bPrev12, .int .i64 bAtT13, .int .i64 bAtW14, .int .i64 bEpoch15, .slice bBody16a bBody16n bBody16c, .int .u64 bSig17], .int .i64 x18, .int .i64 y19] w fun e w' => ∃ v, e = .returned v ∧ R v w' := cachettelaw23_ForkcheckChecks.ok draws1a draws1n draws1c aWriter2 aIndex3 aPrev4 aAtT5 aAtW6 aEpoch7 aBody8a aBody8n aBody8c aSig9 bWriter10 bIndex11 bPrev12 bAtT13 bAtW14 bEpoch15 bBody16a bBody16n bBody16c bSig17 x18 y19 (cachettelaw23_ForkcheckChecks.up draws1a draws1n draws1c aWriter2 aIndex3 aPrev4 aAtT5 aAtW6 aEpoch7 aBody8a aBody8n aBody8c aSig9 bWriter10 bIndex11 bPrev12 bAtT13 bAtW14 bEpoch15 bBody16a bBody16n bBody16c bSig17 x18 y19 h)
theorem cachettelaw23_ForkcheckChecks.run (draws1a : Option Addr) (draws1n : Nat) (draws1c : Nat) (aWriter2 : Int) (aIndex3 : Int) (aPrev4 : Int) (aAtT5 : Int) (aAtW6 : Int) (aEpoch7 : Int) (aBody8a : Option Addr) (aBody8n : Nat) (aBody8c : Nat) (aSig9 : Int) (bWriter10 : Int) (bIndex11 : Int) (bPrev12 : Int) (bAtT13 : Int) (bAtW14 : Int) (bEpoch15 : Int) (bBody16a : Option Addr) (bBody16n : Nat) (bBody16c : Nat) (bSig17 : Int) (x18 : Int) (y19 : Int) {V : Value} {Q : World → Prop} {w : World} (h : cachettelaw23_ForkcheckChecks.N draws1a draws1n draws1c aWriter2 aIndex3 aPrev4 aAtT5 aAtW6 aEpoch7 aBody8a aBody8n aBody8c aSig9 bWriter10 bIndex11 bPrev12 bAtT13 bAtW14 bEpoch15 bBody16a bBody16n bBody16c bSig17 x18 y19 (fun v w' => v = V ∧ Q w') w) : Calls Try.prog 3 #[.slice draws1a draws1n draws1c, .agg #[.int .i64 aWriter2, .int .i64 aIndex3, .int .u64 aPrev4, .int .i64 aAtT5, .int .i64 aAtW6, .int .i64 aEpoch7, .slice aBody8a aBody8n aBody8c, .int .u64 aSig9], .agg #[.int .i64 bWriter10, .int .i64 bIndex11, .int .u64 bPrev12, .int .i64 bAtT13, .int .i64 bAtW14, .int .i64 bEpoch15, .slice bBody16a bBody16n bBody16c, .int .u64 bSig17], .int .i64 x18, .int .i64 y19] w (Ret V Q) := (cachettelaw23_ForkcheckChecks.go draws1a draws1n draws1c aWriter2 aIndex3 aPrev4 aAtT5 aAtW6 aEpoch7 aBody8a aBody8n aBody8c aSig9 bWriter10 bIndex11 bPrev12 bAtT13 bAtW14 bEpoch15 bBody16a bBody16n bBody16c bSig17 x18 y19 h).mono fun e w' ⟨v, he, hv, hq⟩ => ⟨by rw [he, hv], hq⟩

def chkStep (R : Value → World → Prop) (I0 : Nat → List Value → World → Prop) (m66 : Nat) (ww67 : World) (i64 : Int) (op : Option Addr) (q43 q61 q63 : Nat) (sec : Int) : Prop :=
          0 ≤ (i64 : Int) ∧ (i64 : Int) < (2 : Int) ∧
          ∃ (x73 : Int), ww67.cell? ((blk q63).add (Int.toNat i64 * 1)) = some (.int .i64 x73) ∧
          (x73 ≠ 0 →
            0 ≤ (i64 : Int) ∧ (i64 : Int) < (2 : Int) ∧
            ∃ (xWriter76 : Int) (xIndex77 : Int) (xPrev78 : Int) (xAtT79 : Int) (xAtW80 : Int) (xEpoch81 : Int) (xBody82a : Option Addr) (xBody82n : Nat) (xBody82c : Nat) (xSig83 : Int), cellsAt ww67 ((blk q61).add (Int.toNat i64 * 8)) [.int .i64 xWriter76, .int .i64 xIndex77, .int .u64 xPrev78, .int .i64 xAtT79, .int .i64 xAtW80, .int .i64 xEpoch81, .slice xBody82a xBody82n xBody82c, .int .u64 xSig83] 0 ∧
            Calls Try.prog 13 #[.pointer op, .int .u64 sec, .agg #[.int .i64 xWriter76, .int .i64 xIndex77, .int .u64 xPrev78, .int .i64 xAtT79, .int .i64 xAtW80, .int .i64 xEpoch81, .slice xBody82a xBody82n xBody82c, .int .u64 xSig83]] ww67 fun ee93 ww94 => ∃ (Writer84 : Int) (Index85 : Int) (Prev86 : Int) (AtT87 : Int) (AtW88 : Int) (Epoch89 : Int) (Body90a : Option Addr) (Body90n : Nat) (Body90c : Nat) (Sig91 : Int) (sign92 : Int), ee93 = .returned (.tuple #[.agg #[.int .i64 Writer84, .int .i64 Index85, .int .u64 Prev86, .int .i64 AtT87, .int .i64 AtW88, .int .i64 Epoch89, .slice Body90a Body90n Body90c, .int .u64 Sig91], .int .i64 sign92]) ∧
            0 ≤ (i64 : Int) ∧ (i64 : Int) < (2 : Int) ∧
            ∃ (xWriter105 : Int) (xIndex106 : Int) (xPrev107 : Int) (xAtT108 : Int) (xAtW109 : Int) (xEpoch110 : Int) (xBody111a : Option Addr) (xBody111n : Nat) (xBody111c : Nat) (xSig112 : Int), cellsAt ww94 ((blk q61).add (Int.toNat i64 * 8)) [.int .i64 xWriter105, .int .i64 xIndex106, .int .u64 xPrev107, .int .i64 xAtT108, .int .i64 xAtW109, .int .i64 xEpoch110, .slice xBody111a xBody111n xBody111c, .int .u64 xSig112] 0 ∧
            ∀ (ww103 : World) (p113 : Nat), Ext no ww94 ww103 → Priv ww94 ww103 [p113] →
            Calls Try.prog 14 #[.pointer (some (blk q43)), .int .u64 sec, .agg #[.int .i64 xWriter105, .int .i64 xIndex106, .int .u64 xPrev107, .int .i64 xAtT108, .int .i64 xAtW109, .int .i64 xEpoch110, .slice xBody111a xBody111n xBody111c, .int .u64 xSig112]] ww103 fun ee123 ww124 => ∃ (Writer114 : Int) (Index115 : Int) (Prev116 : Int) (AtT117 : Int) (AtW118 : Int) (Epoch119 : Int) (Body120a : Option Addr) (Body120n : Nat) (Body120c : Nat) (Sig121 : Int) (sign122 : Int), ee123 = .returned (.tuple #[.agg #[.int .i64 Writer114, .int .i64 Index115, .int .u64 Prev116, .int .i64 AtT117, .int .i64 AtW118, .int .i64 Epoch119, .slice Body120a Body120n Body120c, .int .u64 Sig121], .int .i64 sign122]) ∧
            Keep [p113] ww103 ww124 ∧
            (sign92 ≠ sign122 →
              ∀ (ww133 : World), Ext no ww124 ww133 →
              R (.bool false) ww133) ∧
            (sign92 = sign122 →
              ∀ (ww133 : World) (p136 : Nat), Ext no ww124 ww133 → Priv ww124 ww133 [p136] →
              Calls Try.prog 15 #[.agg #[.int .i64 Writer84, .int .i64 Index85, .int .u64 Prev86, .int .i64 AtT87, .int .i64 AtW88, .int .i64 Epoch89, .slice Body90a Body90n Body90c, .int .u64 Sig91], .agg #[.int .i64 Writer114, .int .i64 Index115, .int .u64 Prev116, .int .i64 AtT117, .int .i64 AtW118, .int .i64 Epoch119, .slice Body120a Body120n Body120c, .int .u64 Sig121]] ww133 fun ee138 ww139 => ∃ (same137 : Bool), ee138 = .returned (.bool same137) ∧
              Keep [p136] ww133 ww139 ∧
              (same137 = false →
                R (.bool false) ww139) ∧
              (same137 = true →
                (sign122 = 0 →
                  0 ≤ (i64 : Int) ∧ (i64 : Int) < (2 : Int) ∧
                  canStore ww139 (((blk q61).add (Int.toNat i64 * 8)).add 0) ∧
                  thenW (ww139.setCell (((blk q61).add (Int.toNat i64 * 8)).add 0) (.int .i64 Writer114)) fun ww142 =>
                  canStore ww142 (((blk q61).add (Int.toNat i64 * 8)).add 1) ∧
                  thenW (ww142.setCell (((blk q61).add (Int.toNat i64 * 8)).add 1) (.int .i64 Index115)) fun ww143 =>
                  canStore ww143 (((blk q61).add (Int.toNat i64 * 8)).add 2) ∧
                  thenW (ww143.setCell (((blk q61).add (Int.toNat i64 * 8)).add 2) (.int .u64 Prev116)) fun ww144 =>
                  canStore ww144 (((blk q61).add (Int.toNat i64 * 8)).add 3) ∧
                  thenW (ww144.setCell (((blk q61).add (Int.toNat i64 * 8)).add 3) (.int .i64 AtT117)) fun ww145 =>
                  canStore ww145 (((blk q61).add (Int.toNat i64 * 8)).add 4) ∧
                  thenW (ww145.setCell (((blk q61).add (Int.toNat i64 * 8)).add 4) (.int .i64 AtW118)) fun ww146 =>
                  canStore ww146 (((blk q61).add (Int.toNat i64 * 8)).add 5) ∧
                  thenW (ww146.setCell (((blk q61).add (Int.toNat i64 * 8)).add 5) (.int .i64 Epoch119)) fun ww147 =>
                  canStore ww147 (((blk q61).add (Int.toNat i64 * 8)).add 6) ∧
                  thenW (ww147.setCell (((blk q61).add (Int.toNat i64 * 8)).add 6) (.slice Body120a Body120n Body120c)) fun ww148 =>
                  canStore ww148 (((blk q61).add (Int.toNat i64 * 8)).add 7) ∧
                  thenW (ww148.setCell (((blk q61).add (Int.toNat i64 * 8)).add 7) (.int .u64 Sig121)) fun ww149 =>
                  (-9223372036854775808 : Int) ≤ (i64 + 1) ∧ (i64 + 1) < 9223372036854775808 ∧
                  ∃ m150, m150 < m66 ∧ I0 m150 [.int .i64 (i64 + 1)] ww149) ∧
                (sign122 ≠ 0 →
                  (-9223372036854775808 : Int) ≤ (i64 + 1) ∧ (i64 + 1) < 9223372036854775808 ∧
                  ∃ m151, m151 < m66 ∧ I0 m151 [.int .i64 (i64 + 1)] ww139)))) ∧
          (x73 = 0 →
            (-9223372036854775808 : Int) ≤ (i64 + 1) ∧ (i64 + 1) < 9223372036854775808 ∧
            ∃ m152, m152 < m66 ∧ I0 m152 [.int .i64 (i64 + 1)] ww67)
/-- the loop's state. -/
def ChkI (w : World) (k j q r : Nat) (xs : List Int) (n : Nat) (w1 : World) : Prop := ∃ (o1 : Own) (S : OS) (d : List Int) (L : List RRow) (l : List PE), Step no w (fun _ => none) w1 o1 ∧ Two w1 o1 k j S d L n ∧
  Blk w1 q 28 (PE.Cs l) ∧ o1 q = some q ∧ l.length = 2 ∧ (∀ p ∈ l, p.ok w1 o1 ∧ p.e.body.length ≤ 1500) ∧ Row w1 o1 (some (blk r)) (xs.map i64V)
theorem chk_ok {w w1 : World} {k j q r : Nat} {xs : List Int} (hxs : xs.length = 2) (hk : w.heap.size ≤ k) (hj : w.heap.size ≤ j) (hq : w.heap.size ≤ q) (hqk : q ≠ k) (hqj : q ≠ j) {m t : Nat} (ht : t < 2) (hm : m + t = 2) (sec : Int) (h : ChkI w k j q r xs (4 + t) w1) :
    chkStep (fun v w' => v = Value.bool true ∧ Ext no w w') (fun q' vs w1 => ∃ t : Nat, vs = [.int .i64 t] ∧ q' + t = 2 ∧ ChkI w k j q r xs (4 + t) w1) m w1 t (some (blk k)) j q r sec := by
  obtain ⟨o1, S, d, L, l, s1, T1, hb, hoq, hl, hok, hr⟩ := h
  have nx : ∀ {w2 : World}, ChkI w k j q r xs (4 + (t + 1)) w2 → ∃ m2, m2 < m ∧ ∃ t' : Nat, [Value.int .i64 ((t : Int) + 1)] = [.int .i64 t'] ∧ m2 + t' = 2 ∧ ChkI w k j q r xs (4 + t') w2 := fun h => ⟨m - 1, by omega, t + 1, by simp, by omega, h⟩
  obtain ⟨p, hg⟩ : ∃ p, l[t]? = some p := ⟨_, List.getElem?_eq_getElem (by omega)⟩
  have hx : (xs.map i64V)[t]? = some (i64V (xs[t]'(by omega))) := by rw [List.getElem?_map, List.getElem?_eq_getElem (by omega)]; rfl
  obtain ⟨hp, hp15⟩ := hok p (List.mem_of_getElem? hg)
  have hpf := hp.2.2
  refine ⟨by omega, by omega, xs[t]'(by omega), by rw [Int.toNat_natCast, Nat.mul_one]; exact hr.1.at_ hx, fun hne => ?_, fun h0 => ⟨by omega, by omega, nx ⟨o1, S, d, L, l, s1, ⟨T1.p, T1.r, T1.sim, T1.inv, T1.fine.more, T1.ok, T1.ne⟩, hb, hoq, hl, hok, hr⟩⟩⟩
  have both : ∀ {w2 : World} {o2 : Own}, Step (fun i => i = k ∨ i = j) w1 o1 w2 o2 → Step no w (fun _ => none) w2 o2 := fun h2 => s1.trans' h2 fun i hi => .inr (by omega)
  have hld := PE.loads (RowAt.of_blk hb) rfl hg
  refine ⟨by omega, by omega, p.e.w, p.e.i, p.e.pv, p.e.t, p.e.tw, p.e.ep, p.a, p.e.body.length, p.c, p.e.sg, by rw [Int.toNat_natCast]; exact hld, ?_⟩
  refine (SignE T1.p T1.ok T1.sim.ok (by have := T1.len; omega) sec (e := p.e) (fun _ => hpf) hp.1).mono fun x w94 ⟨o94, xa, xc, hx', s94, P94, rx, lx⟩ => ⟨_, _, _, _, _, _, _, _, _, _, _, hx', by omega, by omega, ?_⟩
  have hb94 := s94.blk hb hoq hqk
  have hld := PE.loads (RowAt.of_blk hb94) rfl hg
  refine ⟨p.e.w, p.e.i, p.e.pv, p.e.t, p.e.tw, p.e.ep, p.a, p.e.body.length, p.c, p.e.sg, by rw [Int.toNat_natCast]; exact hld, fun w103 p113 X103 hp113 => ?_⟩
  obtain ⟨s103, M103⟩ := Step.priv X103 hp113 s94.ok
  have g113 := hp113 p113 (by simp)
  have s103b : Step (fun i => i = k) w1 o1 w103 _ := s94.trans s103.none
  have l94 := s94.size
  have R103 := T1.r.step s103b (fun e => T1.ne e.symm)
  have hjl := T1.r.lt
  refine (rESign_spec R103 (T1.fine.rok s103.ok (by omega)) sec (e := p.e) (fun _ => hpf) (hp.1.step s103b) hp.2.1).mono fun x w124 ⟨o124, ya, yc, hx', s124, R124, ry, ly⟩ => ⟨_, _, _, _, _, _, _, _, _, _, _, hx', M103.keep s124 (by simp; omega), ?_⟩
  obtain ⟨e124, m124⟩ := esign_sim T1.sim sec p.e
  obtain ⟨T124, s124'⟩ := T1.turn s103b (P94.step s103 id) s124 R124 m124 (esign_inv T1.inv sec p.e) (T1.fine.esign sec p.e)
  have hfit := esign_fit T1.inv (by have := T1.len; omega) sec hpf
  have hbl : (signE S sec p.e).1.1.body.length ≤ 1500 := by
    unfold signE
    split
    · split
      · exact hp15
      · exact Nat.zero_le _
    · exact Nat.zero_le _
  have rx := (rx.step s103).step s124
  rw [e124] at ry ly ⊢
  generalize signE S sec p.e = A at *
  generalize signRE d L sec p.e = B at *
  obtain ⟨⟨x1, x2⟩, S9⟩ := A
  obtain ⟨b1, d9, L9⟩ := B
  simp only [] at T124 rx ry ly hfit hbl
  refine ⟨fun h => absurd rfl h, fun _ w133 p136 X133 hp136 => ?_⟩
  have s133' := Step.of_no X133 T124.ok
  refine (rESame_spec (e := x1) (f := x1) (rx.step s133').1 (ry.step s133').1 (by omega)).mono fun x w139 ⟨hx', X139⟩ => ⟨_, hx', X139.kept, fun h => absurd h (by simp), fun _ => ?_⟩
  have s139' := s133'.trans (Step.of_no X139 s133'.ok)
  have s139b : Step (fun i => i = k ∨ i = j) w1 o1 w139 _ := s124'.trans s139'.none
  have s139 := both s139b
  have T139 := T124.step s139'
  have hb139 := s139b.blk hb hoq (by omega)
  have hoq139 := (s139b.own hb.lt).trans hoq
  have ok139 : ∀ p ∈ l, p.ok w139 _ ∧ p.e.body.length ≤ 1500 := fun p hp => ⟨(hok p hp).1.step s139b, (hok p hp).2⟩
  have hr139 := hr.step s139b
  refine ⟨fun _ => ⟨by omega, by omega, ?_⟩, fun _ => ⟨by omega, by omega, nx ⟨_, S9, d9, L9, l, s139, ⟨T139.p, T139.r, T139.sim, T139.inv, T139.fine, T139.ok, T139.ne⟩, hb139, hoq139, hl, ok139, hr139⟩⟩⟩
  refine (putsK_ok (vs := PE.C ⟨x1, ya, yc⟩) (k := t * 8) (j := 0) hb139 (by rw [PE.Cs_length, PE.len]; omega) fun w149 X149 hb149 => ?_ : putsK _ _ _ 0 _)
  rw [Nat.add_zero, PE.Cs_set _ (by omega)] at hb149
  obtain ⟨o149, s149⟩ := Step.store1 X149 T139.ok hoq139
  have T149 : Two w149 o149 k j S9 d9 L9 (4 + t + 1) := ⟨T139.p.step s149 (fun e => hqk e.symm), T139.r.step s149 (fun e => hqj e.symm), T139.sim, T139.inv, T139.fine, s149.ok, T139.ne⟩
  refine ⟨by omega, by omega, nx ⟨o149, S9, d9, L9, l.set t ⟨x1, ya, yc⟩, s139.trans' s149 (fun i hi => .inr (by omega)), T149, hb149, (s149.own hb139.lt).trans hoq139, by rw [List.length_set]; exact hl, fun p hp => ?_, hr139.step s149⟩⟩
  rcases List.mem_or_eq_of_mem_set hp with hp | rfl
  · exact ⟨(ok139 p hp).1.step s149, (ok139 p hp).2⟩
  · exact ⟨⟨((ry.step s139')).step s149, ly, hfit⟩, hbl⟩
end Go.Proofs.Ytlfijjmjmgobhaa
