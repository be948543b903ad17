/- Members' laws: predicates. -/
import Derived.Test.YtmhfoieeldiecaaZC
set_option linter.unusedVariables false
set_option linter.unusedSimpArgs false
set_option maxRecDepth 20000
set_option maxHeartbeats 2000000
namespace Go.Proofs.Ytmhfoieeldiecaa
open Go Go.Mx Go.Proofs
theorem inf52 : (Try.prog.info? 52).map (fun i => (i.zero, i.size, i.bytes)) = some (some (.agg #[.int .i64 0, .int .u64 0, .int .i64 0, .int .i64 0, .int .i64 0]), 5, 40) := by kernel_rfl
/-- cachetteref12.Same -/
def cachetteref12_Same.M (aL1a : Option Addr) (aL1n : Nat) (aL1c : Nat) (aEpoch2 : Int) (bL3a : Option Addr) (bL3n : Nat) (bL3c : Nat) (bEpoch4 : Int) (R : Value → World → Prop) (w : World) : Prop :=
  thenW (w.alloc (.cells #[.slice aL1a aL1n aL1c, .int .i64 aEpoch2] 45)) fun ww5 =>
  thenW (ww5.alloc (.cells #[.slice bL3a bL3n bL3c, .int .i64 bEpoch4] 45)) fun ww6 =>
  ∃ (L7a : Option Addr) (L7n : Nat) (L7c : Nat), ww6.cell? ((blk w.heap.size).add 0) = some (.slice L7a L7n L7c) ∧
  ∃ (L8a : Option Addr) (L8n : Nat) (L8c : Nat), ww6.cell? ((blk ww5.heap.size).add 0) = some (.slice L8a L8n L8c) ∧
  bif (L7n : Int) != (L8n : Int) then (
  R (.bool false) ww6) else (
  ∃ (Epoch9 : Int), ww6.cell? ((blk w.heap.size).add 1) = some (.int .i64 Epoch9) ∧
  ∃ (Epoch10 : Int), ww6.cell? ((blk ww5.heap.size).add 1) = some (.int .i64 Epoch10) ∧
  bif Epoch9 != Epoch10 then (
  R (.bool false) ww6) else (
  ∃ (I0 : Nat → List Value → World → Prop) (m12 : Nat), I0 m12 [.int .i64 0] ww6 ∧ ∀ (m13 : Nat) (ww14 : World) (i11 : Int), I0 m13 [.int .i64 i11] ww14 →
  ∃ (L15a : Option Addr) (L15n : Nat) (L15c : Nat), ww14.cell? ((blk w.heap.size).add 0) = some (.slice L15a L15n L15c) ∧
  bif decide (i11 < (L15n : Int)) then (
  thenW (ww14.drew) fun ww16 =>
  ∃ (L17a : Option Addr) (L17n : Nat) (L17c : Nat), ww16.cell? ((blk w.heap.size).add 0) = some (.slice L17a L17n L17c) ∧
  L17a.elim False fun a18 =>
  0 ≤ (i11 : Int) ∧ (i11 : Int) < (L17n : Int) ∧
  ∃ (xWho19 : Int) (xPublic20 : Int) (xFrom21 : Int) (xTo22 : Int) (xLimit23 : Int), cellsAt ww16 (a18.add (Int.toNat i11 * 5)) [.int .i64 xWho19, .int .u64 xPublic20, .int .i64 xFrom21, .int .i64 xTo22, .int .i64 xLimit23] 0 ∧
  ∃ (L24a : Option Addr) (L24n : Nat) (L24c : Nat), ww16.cell? ((blk ww5.heap.size).add 0) = some (.slice L24a L24n L24c) ∧
  L24a.elim False fun a25 =>
  0 ≤ (i11 : Int) ∧ (i11 : Int) < (L24n : Int) ∧
  ∃ (xWho26 : Int) (xPublic27 : Int) (xFrom28 : Int) (xTo29 : Int) (xLimit30 : Int), cellsAt ww16 (a25.add (Int.toNat i11 * 5)) [.int .i64 xWho26, .int .u64 xPublic27, .int .i64 xFrom28, .int .i64 xTo29, .int .i64 xLimit30] 0 ∧
  ∃ (b31 : Bool), (binOp .neq 52 (.agg #[.int .i64 xWho19, .int .u64 xPublic20, .int .i64 xFrom21, .int .i64 xTo22, .int .i64 xLimit23]) (.agg #[.int .i64 xWho26, .int .u64 xPublic27, .int .i64 xFrom28, .int .i64 xTo29, .int .i64 xLimit30])).run Try.prog ww16 = .ok (.bool b31) ww16 ∧
  bif b31 then (
  R (.bool false) ww16) else (
  ∃ m32, m32 < m13 ∧ I0 m32 [.int .i64 (IntKind.i64.wrap (i11 + 1))] ww16)) else (
  R (.bool true) ww14)))

theorem cachetteref12_Same.eq (aL1a : Option Addr) (aL1n : Nat) (aL1c : Nat) (aEpoch2 : Int) (bL3a : Option Addr) (bL3n : Nat) (bL3c : Nat) (bEpoch4 : Int) (R : Value → World → Prop) (w : World) : mfunc Try.prog [(0, [2, 3], [(5, (.one (.int .i64)))])] 16 [.agg #[.slice aL1a aL1n aL1c, .int .i64 aEpoch2], .agg #[.slice bL3a bL3n bL3c, .int .i64 bEpoch4]] R w = cachetteref12_Same.M aL1a aL1n aL1c aEpoch2 bL3a bL3n bL3c bEpoch4 R w := by kernel_rfl
theorem cachetteref12_Same.ok (aL1a : Option Addr) (aL1n : Nat) (aL1c : Nat) (aEpoch2 : Int) (bL3a : Option Addr) (bL3n : Nat) (bL3c : Nat) (bEpoch4 : Int) {R : Value → World → Prop} {w : World} (h : cachetteref12_Same.M aL1a aL1n aL1c aEpoch2 bL3a bL3n bL3c bEpoch4 R w) : Calls Try.prog 16 #[.agg #[.slice aL1a aL1n aL1c, .int .i64 aEpoch2], .agg #[.slice bL3a bL3n bL3c, .int .i64 bEpoch4]] w fun e w' => ∃ v, e = .returned v ∧ R v w' :=
  mfunc_ok follows (H := [(0, [2, 3], [(5, (.one (.int .i64)))])]) (args := [.agg #[.slice aL1a aL1n aL1c, .int .i64 aEpoch2], .agg #[.slice bL3a bL3n bL3c, .int .i64 bEpoch4]]) (by rw [cachetteref12_Same.eq]; exact h)

def cachetteref12_Same.N (aL1a : Option Addr) (aL1n : Nat) (aL1c : Nat) (aEpoch2 : Int) (bL3a : Option Addr) (bL3n : Nat) (bL3c : Nat) (bEpoch4 : Int) (R : Value → World → Prop) (w : World) : Prop :=
  ((aL1n : Int) ≠ (bL3n : Int) →
    ∀ (ww6 : World), Ext no w ww6 →
    R (.bool false) ww6) ∧
  ((aL1n : Int) = (bL3n : Int) →
    (aEpoch2 ≠ bEpoch4 →
      ∀ (ww6 : World), Ext no w ww6 →
      R (.bool false) ww6) ∧
    (aEpoch2 = bEpoch4 →
      ∀ (ww6 : World), Ext no w ww6 →
      ∃ (I0 : Nat → List Value → World → Prop) (m16 : Nat), I0 m16 [.int .i64 0] ww6 ∧ ∀ (m17 : Nat) (ww18 : World) (i15 : Int), I0 m17 [.int .i64 i15] ww18 →
      (i15 < (aL1n : Int) →
        ∃ a21 : Addr, aL1a = some a21 ∧
        0 ≤ (i15 : Int) ∧ (i15 : Int) < (aL1n : Int) ∧
        ∃ (xWho23 : Int) (xPublic24 : Int) (xFrom25 : Int) (xTo26 : Int) (xLimit27 : Int), cellsAt ww18 (a21.add (Int.toNat i15 * 5)) [.int .i64 xWho23, .int .u64 xPublic24, .int .i64 xFrom25, .int .i64 xTo26, .int .i64 xLimit27] 0 ∧
        ∃ a28 : Addr, bL3a = some a28 ∧
        0 ≤ (i15 : Int) ∧ (i15 : Int) < (bL3n : Int) ∧
        ∃ (xWho30 : Int) (xPublic31 : Int) (xFrom32 : Int) (xTo33 : Int) (xLimit34 : Int), cellsAt ww18 (a28.add (Int.toNat i15 * 5)) [.int .i64 xWho30, .int .u64 xPublic31, .int .i64 xFrom32, .int .i64 xTo33, .int .i64 xLimit34] 0 ∧
        (¬ (xWho23 = xWho30 ∧ xPublic24 = xPublic31 ∧ xFrom25 = xFrom32 ∧ xTo26 = xTo33 ∧ xLimit27 = xLimit34) →
          ∀ (ww20 : World), Ext no ww18 ww20 →
          R (.bool false) ww20) ∧
        (xWho23 = xWho30 ∧ xPublic24 = xPublic31 ∧ xFrom25 = xFrom32 ∧ xTo26 = xTo33 ∧ xLimit27 = xLimit34 →
          (-9223372036854775808 : Int) ≤ (i15 + 1) ∧ (i15 + 1) < 9223372036854775808 ∧
          ∀ (ww20 : World), Ext no ww18 ww20 →
          ∃ m36, m36 < m17 ∧ I0 m36 [.int .i64 (i15 + 1)] ww20)) ∧
      ((aL1n : Int) ≤ i15 →
        R (.bool true) ww18)))

theorem cachetteref12_Same.up (aL1a : Option Addr) (aL1n : Nat) (aL1c : Nat) (aEpoch2 : Int) (bL3a : Option Addr) (bL3n : Nat) (bL3c : Nat) (bEpoch4 : Int) {R : Value → World → Prop} {w : World} (h : cachetteref12_Same.N aL1a aL1n aL1c aEpoch2 bL3a bL3n bL3c bEpoch4 R w) : cachetteref12_Same.M aL1a aL1n aL1c aEpoch2 bL3a bL3n bL3c bEpoch4 R w := by
  unfold cachetteref12_Same.M
  unfold cachetteref12_Same.N at h
  refine thenW_in fun ww5 e5 => ?_
  have hb1 := Blk.of_new e5
  have hg1 := ((Ext.refl no w)).size
  have hx5 := (Ext.refl no w).x_alloc e5
  refine thenW_in fun ww6 e6 => ?_
  have hb2 := Blk.of_new e6
  have hg2 := (hx5).size
  have hb1_2 := Nat.ne_of_lt hb1.lt
  have hb1 := hb1.x_alloc e6
  have hx6 := hx5.x_alloc e6
  refine ⟨aL1a, aL1n, aL1c, hb1.celli 0 rfl rfl, ?_⟩
  refine ⟨bL3a, bL3n, bL3c, hb2.celli 0 rfl rfl, ?_⟩
  refine bif_of (fun c7 => ?_) (fun c7 => ?_)
  · have h := h.1 (bne_t c7)
    have h := h ww6 hx6
    exact h
  · have h := h.2 (bne_f c7)
    refine ⟨aEpoch2, hb1.celli 1 rfl rfl, ?_⟩
    refine ⟨bEpoch4, hb2.celli 1 rfl rfl, ?_⟩
    refine bif_of (fun c10 => ?_) (fun c10 => ?_)
    · have h := h.1 (bne_t c10)
      have h := h ww6 hx6
      exact h
    · have h := h.2 (bne_f c10)
      have h := h ww6 hx6
      obtain ⟨I0, m16, h0, h⟩ := h
      refine ⟨fun k vs ww => Blk ww w.heap.size 45 [.slice aL1a aL1n aL1c, .int .i64 aEpoch2] ∧ Blk ww ww5.heap.size 45 [.slice bL3a bL3n bL3c, .int .i64 bEpoch4] ∧ I0 k vs ww, m16, ⟨hb1, hb2, h0⟩, fun m17 ww18 i15 hI => ?_⟩
      obtain ⟨hb1, hb2, hI⟩ := hI
      have h := h m17 ww18 i15 hI
      refine ⟨aL1a, aL1n, aL1c, hb1.celli 0 rfl rfl, ?_⟩
      refine bif_of (fun c19 => ?_) (fun c19 => ?_)
      · have h := h.1 (of_decide_eq_true c19)
        refine thenW_in fun ww20 e20 => ?_
        have hx20 := (Ext.refl no ww18).x_drew e20
        have hb1 := hb1.x_drew e20
        have hb2 := hb2.x_drew e20
        refine ⟨aL1a, aL1n, aL1c, hb1.celli 0 rfl rfl, ?_⟩
        obtain ⟨a21, ha21, h⟩ := h
        refine elim_some ha21 ?_
        obtain ⟨hq1, hq2, h⟩ := h
        refine ⟨hq1, hq2, ?_⟩
        obtain ⟨xWho23, xPublic24, xFrom25, xTo26, xLimit27, hc22, h⟩ := h
        refine ⟨xWho23, xPublic24, xFrom25, xTo26, xLimit27, cellsAt_no (hx20) hc22, ?_⟩
        refine ⟨bL3a, bL3n, bL3c, hb2.celli 0 rfl rfl, ?_⟩
        obtain ⟨a28, ha28, h⟩ := h
        refine elim_some ha28 ?_
        obtain ⟨hq1, hq2, h⟩ := h
        refine ⟨hq1, hq2, ?_⟩
        obtain ⟨xWho30, xPublic31, xFrom32, xTo33, xLimit34, hc29, h⟩ := h
        refine ⟨xWho30, xPublic31, xFrom32, xTo33, xLimit34, cellsAt_no (hx20) hc29, ?_⟩
        refine ⟨_, eqT52_ne xWho23 xPublic24 xFrom25 xTo26 xLimit27 xWho30 xPublic31 xFrom32 xTo33 xLimit34 _, ?_⟩
        refine bif_of (fun c35 => ?_) (fun c35 => ?_)
        · have h := h.1 (of_decide_eq_false (not_t c35))
          have h := h ww20 hx20
          exact h
        · have h := h.2 (of_decide_eq_true (not_f c35))
          obtain ⟨hw1, hw2, h⟩ := h
          try rw [w64 hw1 hw2]
          have h := h ww20 hx20
          obtain ⟨m36, hk, h⟩ := h
          exact ⟨m36, hk, hb1, hb2, h⟩
      · have h := h.2 (Int.not_lt.1 (of_decide_eq_false c19))
        exact h

theorem cachetteref12_Same.go (aL1a : Option Addr) (aL1n : Nat) (aL1c : Nat) (aEpoch2 : Int) (bL3a : Option Addr) (bL3n : Nat) (bL3c : Nat) (bEpoch4 : Int) {R : Value → World → Prop} {w : World} (h : cachetteref12_Same.N aL1a aL1n aL1c aEpoch2 bL3a bL3n bL3c bEpoch4 R w) : Calls Try.prog 16 #[.agg #[.slice aL1a aL1n aL1c, .int .i64 aEpoch2], .agg #[.slice bL3a bL3n bL3c, .int .i64 bEpoch4]] w fun e w' => ∃ v, e = .returned v ∧ R v w' := cachetteref12_Same.ok aL1a aL1n aL1c aEpoch2 bL3a bL3n bL3c bEpoch4 (cachetteref12_Same.up aL1a aL1n aL1c aEpoch2 bL3a bL3n bL3c bEpoch4 h)
theorem cachetteref12_Same.run (aL1a : Option Addr) (aL1n : Nat) (aL1c : Nat) (aEpoch2 : Int) (bL3a : Option Addr) (bL3n : Nat) (bL3c : Nat) (bEpoch4 : Int) {V : Value} {Q : World → Prop} {w : World} (h : cachetteref12_Same.N aL1a aL1n aL1c aEpoch2 bL3a bL3n bL3c bEpoch4 (fun v w' => v = V ∧ Q w') w) : Calls Try.prog 16 #[.agg #[.slice aL1a aL1n aL1c, .int .i64 aEpoch2], .agg #[.slice bL3a bL3n bL3c, .int .i64 bEpoch4]] w (Ret V Q) := (cachetteref12_Same.go aL1a aL1n aL1c aEpoch2 bL3a bL3n bL3c bEpoch4 h).mono fun e w' ⟨v, he, hv, hq⟩ => ⟨by rw [he, hv], hq⟩

/-- cachettelaw12.MembersKeeps -/
def cachettelaw12_MembersKeeps.M (publicv1 : Int) (l2a : Option Addr) (l2n : Nat) (l2c : Nat) (R : Value → World → Prop) (w : World) : Prop :=
  Calls Try.prog 9 #[.slice l2a l2n l2c] w fun ee4 ww5 => ∃ (light3 : Bool), ee4 = .returned (.bool light3) ∧
  bif !light3 then (
  Calls Try.prog 10 #[] ww5 fun ee7 ww8 => ∃ (alive6 : Bool), ee7 = .returned (.bool alive6) ∧
  R (.bool alive6) ww8) else (
  Calls Try.prog 11 #[.int .u64 publicv1] ww5 fun ee11 ww12 => ∃ (L9a : Option Addr) (L9n : Nat) (L9c : Nat) (Epoch10 : Int), ee11 = .returned (.agg #[.slice L9a L9n L9c, .int .i64 Epoch10]) ∧
  thenW (ww12.alloc (.cells #[.slice none 0 0, .int .i64 0] 28)) fun ww13 =>
  canStore ww13 ((blk ww12.heap.size).add 0) ∧
  thenW (ww13.setCell ((blk ww12.heap.size).add 0) (.slice L9a L9n L9c)) fun ww14 =>
  canStore ww14 ((blk ww12.heap.size).add 1) ∧
  thenW (ww14.setCell ((blk ww12.heap.size).add 1) (.int .i64 Epoch10)) fun ww15 =>
  ∃ (I0 : Nat → List Value → World → Prop) (m17 : Nat), I0 m17 [.int .i64 0] ww15 ∧ ∀ (m18 : Nat) (ww19 : World) (i16 : Int), I0 m18 [.int .i64 i16] ww19 →
  bif decide (i16 < (l2n : Int)) then (
  ∃ (xL20a : Option Addr) (xL20n : Nat) (xL20c : Nat) (xEpoch21 : Int), cellsAt ww19 (blk ww12.heap.size) [.slice xL20a xL20n xL20c, .int .i64 xEpoch21] 0 ∧
  Calls Try.prog 15 #[.agg #[.slice xL20a xL20n xL20c, .int .i64 xEpoch21]] ww19 fun ee24 ww25 => ∃ (L22a : Option Addr) (L22n : Nat) (L22c : Nat) (Epoch23 : Int), ee24 = .returned (.agg #[.slice L22a L22n L22c, .int .i64 Epoch23]) ∧
  thenW (ww25.alloc (.cells #[.slice none 0 0, .int .i64 0] 45)) fun ww26 =>
  canStore ww26 ((blk ww25.heap.size).add 0) ∧
  thenW (ww26.setCell ((blk ww25.heap.size).add 0) (.slice L22a L22n L22c)) fun ww27 =>
  canStore ww27 ((blk ww25.heap.size).add 1) ∧
  thenW (ww27.setCell ((blk ww25.heap.size).add 1) (.int .i64 Epoch23)) fun ww28 =>
  thenW (ww28.drew) fun ww29 =>
  ∃ (xL30a : Option Addr) (xL30n : Nat) (xL30c : Nat) (xEpoch31 : Int), cellsAt ww29 (blk ww12.heap.size) [.slice xL30a xL30n xL30c, .int .i64 xEpoch31] 0 ∧
  l2a.elim False fun a32 =>
  0 ≤ (i16 : Int) ∧ (i16 : Int) < (l2n : Int) ∧
  ∃ (xKind33 : Int) (xWho34 : Int) (xPublic35 : Int) (xLimit36 : Int) (xWraps37a : Option Addr) (xWraps37n : Nat) (xWraps37c : Nat) (xOld38a : Option Addr) (xOld38n : Nat) (xOld38c : Nat), cellsAt ww29 (a32.add (Int.toNat i16 * 6)) [.int .i64 xKind33, .int .i64 xWho34, .int .u64 xPublic35, .int .i64 xLimit36, .slice xWraps37a xWraps37n xWraps37c, .slice xOld38a xOld38n xOld38c] 0 ∧
  (Calls Try.prog 13 #[.agg #[.int .i64 xKind33, .int .i64 xWho34, .int .u64 xPublic35, .int .i64 xLimit36, .slice xWraps37a xWraps37n xWraps37c, .slice xOld38a xOld38n xOld38c]] ww29 fun ee45 ww46 => ∃ (Kind39 : Int) (Who40 : Int) (Public41 : Int) (Limit42 : Int) (Wraps43a : Option Addr) (Wraps43n : Nat) (Wraps43c : Nat) (Old44a : Option Addr) (Old44n : Nat) (Old44c : Nat), ee45 = .returned (.agg #[.int .i64 Kind39, .int .i64 Who40, .int .u64 Public41, .int .i64 Limit42, .slice Wraps43a Wraps43n Wraps43c, .slice Old44a Old44n Old44c]) ∧
  cellsAt ww46 (blk ww12.heap.size) [.slice xL30a xL30n xL30c, .int .i64 xEpoch31] 0 ∧
  (Calls Try.prog 12 #[.agg #[.slice xL30a xL30n xL30c, .int .i64 xEpoch31], .agg #[.int .i64 Kind39, .int .i64 Who40, .int .u64 Public41, .int .i64 Limit42, .slice Wraps43a Wraps43n Wraps43c, .slice Old44a Old44n Old44c]] ww46 fun ee50 ww51 => ∃ (L47a : Option Addr) (L47n : Nat) (L47c : Nat) (Epoch48 : Int) (apply49 : Int), ee50 = .returned (.tuple #[.agg #[.slice L47a L47n L47c, .int .i64 Epoch48], .int .i64 apply49]) ∧
  thenW (ww51.alloc (.cells #[.slice none 0 0, .int .i64 0] 28)) fun ww52 =>
  canStore ww52 ((blk ww51.heap.size).add 0) ∧
  thenW (ww52.setCell ((blk ww51.heap.size).add 0) (.slice L47a L47n L47c)) fun ww53 =>
  canStore ww53 ((blk ww51.heap.size).add 1) ∧
  thenW (ww53.setCell ((blk ww51.heap.size).add 1) (.int .i64 Epoch48)) fun ww54 =>
  thenW (ww54.drew) fun ww55 =>
  ∃ (xL56a : Option Addr) (xL56n : Nat) (xL56c : Nat) (xEpoch57 : Int), cellsAt ww55 (blk ww12.heap.size) [.slice xL56a xL56n xL56c, .int .i64 xEpoch57] 0 ∧
  ∃ (xL58a : Option Addr) (xL58n : Nat) (xL58c : Nat) (xEpoch59 : Int), cellsAt ww55 (blk ww25.heap.size) [.slice xL58a xL58n xL58c, .int .i64 xEpoch59] 0 ∧
  Calls Try.prog 15 #[.agg #[.slice xL56a xL56n xL56c, .int .i64 xEpoch57]] ww55 fun ee62 ww63 => ∃ (L60a : Option Addr) (L60n : Nat) (L60c : Nat) (Epoch61 : Int), ee62 = .returned (.agg #[.slice L60a L60n L60c, .int .i64 Epoch61]) ∧
  cellsAt ww63 (blk ww25.heap.size) [.slice xL58a xL58n xL58c, .int .i64 xEpoch59] 0 ∧
  Calls Try.prog 16 #[.agg #[.slice L60a L60n L60c, .int .i64 Epoch61], .agg #[.slice xL58a xL58n xL58c, .int .i64 xEpoch59]] ww63 fun ee65 ww66 => ∃ (same64 : Bool), ee65 = .returned (.bool same64) ∧
  bif !same64 then (
  R (.bool false) ww66) else (
  bif apply49 != 0 then (
  ∃ m67, m67 < m18 ∧ I0 m67 [.int .i64 (IntKind.i64.wrap (i16 + 1))] ww66) else (
  ∃ (I2 : Nat → List Value → World → Prop) (m69 : Nat), I2 m69 [.int .i64 0] ww66 ∧ ∀ (m70 : Nat) (ww71 : World) (j68 : Int), I2 m70 [.int .i64 j68] ww71 →
  ∃ (L72a : Option Addr) (L72n : Nat) (L72c : Nat), ww71.cell? ((blk ww25.heap.size).add 0) = some (.slice L72a L72n L72c) ∧
  bif decide (j68 < (L72n : Int)) then (
  thenW (ww71.drew) fun ww73 =>
  ∃ (xL74a : Option Addr) (xL74n : Nat) (xL74c : Nat) (xEpoch75 : Int), cellsAt ww73 (blk ww51.heap.size) [.slice xL74a xL74n xL74c, .int .i64 xEpoch75] 0 ∧
  ∃ (L76a : Option Addr) (L76n : Nat) (L76c : Nat), ww73.cell? ((blk ww25.heap.size).add 0) = some (.slice L76a L76n L76c) ∧
  L76a.elim False fun a77 =>
  0 ≤ (j68 : Int) ∧ (j68 : Int) < (L76n : Int) ∧
  ∃ (Who78 : Int), ww73.cell? ((a77.add (Int.toNat j68 * 5)).add 0) = some (.int .i64 Who78) ∧
  (Calls Try.prog 17 #[.agg #[.slice xL74a xL74n xL74c, .int .i64 xEpoch75], .int .i64 Who78] ww73 fun ee85 ww86 => ∃ (Who79 : Int) (Public80 : Int) (From81 : Int) (To82 : Int) (Limit83 : Int) (find84 : Bool), ee85 = .returned (.tuple #[.agg #[.int .i64 Who79, .int .u64 Public80, .int .i64 From81, .int .i64 To82, .int .i64 Limit83], .bool find84]) ∧
  thenW (ww86.alloc (.cells #[.int .i64 0, .int .u64 0, .int .i64 0, .int .i64 0, .int .i64 0] 49)) fun ww87 =>
  canStore ww87 ((blk ww86.heap.size).add 0) ∧
  thenW (ww87.setCell ((blk ww86.heap.size).add 0) (.int .i64 Who79)) fun ww88 =>
  canStore ww88 ((blk ww86.heap.size).add 1) ∧
  thenW (ww88.setCell ((blk ww86.heap.size).add 1) (.int .u64 Public80)) fun ww89 =>
  canStore ww89 ((blk ww86.heap.size).add 2) ∧
  thenW (ww89.setCell ((blk ww86.heap.size).add 2) (.int .i64 From81)) fun ww90 =>
  canStore ww90 ((blk ww86.heap.size).add 3) ∧
  thenW (ww90.setCell ((blk ww86.heap.size).add 3) (.int .i64 To82)) fun ww91 =>
  canStore ww91 ((blk ww86.heap.size).add 4) ∧
  thenW (ww91.setCell ((blk ww86.heap.size).add 4) (.int .i64 Limit83)) fun ww92 =>
  thenW (ww92.drew) fun ww93 =>
  bif !find84 then (
  R (.bool false) ww93) else (
  ∃ (Public94 : Int), ww93.cell? ((blk ww86.heap.size).add 1) = some (.int .u64 Public94) ∧
  ∃ (L95a : Option Addr) (L95n : Nat) (L95c : Nat), ww93.cell? ((blk ww25.heap.size).add 0) = some (.slice L95a L95n L95c) ∧
  L95a.elim False fun a96 =>
  0 ≤ (j68 : Int) ∧ (j68 : Int) < (L95n : Int) ∧
  ∃ (Public97 : Int), ww93.cell? ((a96.add (Int.toNat j68 * 5)).add 1) = some (.int .u64 Public97) ∧
  bif Public94 != Public97 then (
  R (.bool false) ww93) else (
  ∃ (From98 : Int), ww93.cell? ((blk ww86.heap.size).add 2) = some (.int .i64 From98) ∧
  ∃ (L99a : Option Addr) (L99n : Nat) (L99c : Nat), ww93.cell? ((blk ww25.heap.size).add 0) = some (.slice L99a L99n L99c) ∧
  L99a.elim False fun a100 =>
  0 ≤ (j68 : Int) ∧ (j68 : Int) < (L99n : Int) ∧
  ∃ (From101 : Int), ww93.cell? ((a100.add (Int.toNat j68 * 5)).add 2) = some (.int .i64 From101) ∧
  bif From98 != From101 then (
  R (.bool false) ww93) else (
  ∃ (L102a : Option Addr) (L102n : Nat) (L102c : Nat), ww93.cell? ((blk ww25.heap.size).add 0) = some (.slice L102a L102n L102c) ∧
  L102a.elim False fun a103 =>
  0 ≤ (j68 : Int) ∧ (j68 : Int) < (L102n : Int) ∧
  ∃ (To104 : Int), ww93.cell? ((a103.add (Int.toNat j68 * 5)).add 3) = some (.int .i64 To104) ∧
  bif To104 != (-1) then (
  ∃ (xWho105 : Int) (xPublic106 : Int) (xFrom107 : Int) (xTo108 : Int) (xLimit109 : Int), cellsAt ww93 (blk ww86.heap.size) [.int .i64 xWho105, .int .u64 xPublic106, .int .i64 xFrom107, .int .i64 xTo108, .int .i64 xLimit109] 0 ∧
  ∃ (L110a : Option Addr) (L110n : Nat) (L110c : Nat), ww93.cell? ((blk ww25.heap.size).add 0) = some (.slice L110a L110n L110c) ∧
  L110a.elim False fun a111 =>
  0 ≤ (j68 : Int) ∧ (j68 : Int) < (L110n : Int) ∧
  ∃ (xWho112 : Int) (xPublic113 : Int) (xFrom114 : Int) (xTo115 : Int) (xLimit116 : Int), cellsAt ww93 (a111.add (Int.toNat j68 * 5)) [.int .i64 xWho112, .int .u64 xPublic113, .int .i64 xFrom114, .int .i64 xTo115, .int .i64 xLimit116] 0 ∧
  Calls Try.prog 18 #[.agg #[.int .i64 xWho105, .int .u64 xPublic106, .int .i64 xFrom107, .int .i64 xTo108, .int .i64 xLimit109]] ww93 fun ee122 ww123 => ∃ (Who117 : Int) (Public118 : Int) (From119 : Int) (To120 : Int) (Limit121 : Int), ee122 = .returned (.agg #[.int .i64 Who117, .int .u64 Public118, .int .i64 From119, .int .i64 To120, .int .i64 Limit121]) ∧
  cellsAt ww123 (a111.add (Int.toNat j68 * 5)) [.int .i64 xWho112, .int .u64 xPublic113, .int .i64 xFrom114, .int .i64 xTo115, .int .i64 xLimit116] 0 ∧
  ww123.cell? ((blk ww25.heap.size).add 0) = some (.slice L110a L110n L110c) ∧
  ∃ (b124 : Bool), (binOp .neq 52 (.agg #[.int .i64 Who117, .int .u64 Public118, .int .i64 From119, .int .i64 To120, .int .i64 Limit121]) (.agg #[.int .i64 xWho112, .int .u64 xPublic113, .int .i64 xFrom114, .int .i64 xTo115, .int .i64 xLimit116])).run Try.prog ww123 = .ok (.bool b124) ww123 ∧
  bif b124 then (
  R (.bool false) ww123) else (
  ∃ m125, m125 < m70 ∧ I2 m125 [.int .i64 (IntKind.i64.wrap (j68 + 1))] ww123)) else (
  ∃ m126, m126 < m70 ∧ I2 m126 [.int .i64 (IntKind.i64.wrap (j68 + 1))] ww93))))) ∧
  (thenW (ww73.alloc (.cells #[.int .i64 0, .int .u64 0, .int .i64 0, .int .i64 0, .int .i64 0] 49)) fun ww127 =>
  ww127.cell? ((a77.add (Int.toNat j68 * 5)).add 0) = some (.int .i64 Who78) ∧
  ww127.cell? ((blk ww25.heap.size).add 0) = some (.slice L76a L76n L76c) ∧
  cellsAt ww127 (blk ww51.heap.size) [.slice xL74a xL74n xL74c, .int .i64 xEpoch75] 0 ∧
  Calls Try.prog 17 #[.agg #[.slice xL74a xL74n xL74c, .int .i64 xEpoch75], .int .i64 Who78] ww127 fun ee134 ww135 => ∃ (Who128 : Int) (Public129 : Int) (From130 : Int) (To131 : Int) (Limit132 : Int) (find133 : Bool), ee134 = .returned (.tuple #[.agg #[.int .i64 Who128, .int .u64 Public129, .int .i64 From130, .int .i64 To131, .int .i64 Limit132], .bool find133]) ∧
  canStore ww135 ((blk ww73.heap.size).add 0) ∧
  thenW (ww135.setCell ((blk ww73.heap.size).add 0) (.int .i64 Who128)) fun ww136 =>
  canStore ww136 ((blk ww73.heap.size).add 1) ∧
  thenW (ww136.setCell ((blk ww73.heap.size).add 1) (.int .u64 Public129)) fun ww137 =>
  canStore ww137 ((blk ww73.heap.size).add 2) ∧
  thenW (ww137.setCell ((blk ww73.heap.size).add 2) (.int .i64 From130)) fun ww138 =>
  canStore ww138 ((blk ww73.heap.size).add 3) ∧
  thenW (ww138.setCell ((blk ww73.heap.size).add 3) (.int .i64 To131)) fun ww139 =>
  canStore ww139 ((blk ww73.heap.size).add 4) ∧
  thenW (ww139.setCell ((blk ww73.heap.size).add 4) (.int .i64 Limit132)) fun ww140 =>
  thenW (ww140.drew) fun ww141 =>
  bif !find133 then (
  R (.bool false) ww141) else (
  ∃ (Public142 : Int), ww141.cell? ((blk ww73.heap.size).add 1) = some (.int .u64 Public142) ∧
  ∃ (L143a : Option Addr) (L143n : Nat) (L143c : Nat), ww141.cell? ((blk ww25.heap.size).add 0) = some (.slice L143a L143n L143c) ∧
  L143a.elim False fun a144 =>
  0 ≤ (j68 : Int) ∧ (j68 : Int) < (L143n : Int) ∧
  ∃ (Public145 : Int), ww141.cell? ((a144.add (Int.toNat j68 * 5)).add 1) = some (.int .u64 Public145) ∧
  bif Public142 != Public145 then (
  R (.bool false) ww141) else (
  ∃ (From146 : Int), ww141.cell? ((blk ww73.heap.size).add 2) = some (.int .i64 From146) ∧
  ∃ (L147a : Option Addr) (L147n : Nat) (L147c : Nat), ww141.cell? ((blk ww25.heap.size).add 0) = some (.slice L147a L147n L147c) ∧
  L147a.elim False fun a148 =>
  0 ≤ (j68 : Int) ∧ (j68 : Int) < (L147n : Int) ∧
  ∃ (From149 : Int), ww141.cell? ((a148.add (Int.toNat j68 * 5)).add 2) = some (.int .i64 From149) ∧
  bif From146 != From149 then (
  R (.bool false) ww141) else (
  ∃ (L150a : Option Addr) (L150n : Nat) (L150c : Nat), ww141.cell? ((blk ww25.heap.size).add 0) = some (.slice L150a L150n L150c) ∧
  L150a.elim False fun a151 =>
  0 ≤ (j68 : Int) ∧ (j68 : Int) < (L150n : Int) ∧
  ∃ (To152 : Int), ww141.cell? ((a151.add (Int.toNat j68 * 5)).add 3) = some (.int .i64 To152) ∧
  bif To152 != (-1) then (
  ∃ (xWho153 : Int) (xPublic154 : Int) (xFrom155 : Int) (xTo156 : Int) (xLimit157 : Int), cellsAt ww141 (blk ww73.heap.size) [.int .i64 xWho153, .int .u64 xPublic154, .int .i64 xFrom155, .int .i64 xTo156, .int .i64 xLimit157] 0 ∧
  ∃ (L158a : Option Addr) (L158n : Nat) (L158c : Nat), ww141.cell? ((blk ww25.heap.size).add 0) = some (.slice L158a L158n L158c) ∧
  L158a.elim False fun a159 =>
  0 ≤ (j68 : Int) ∧ (j68 : Int) < (L158n : Int) ∧
  ∃ (xWho160 : Int) (xPublic161 : Int) (xFrom162 : Int) (xTo163 : Int) (xLimit164 : Int), cellsAt ww141 (a159.add (Int.toNat j68 * 5)) [.int .i64 xWho160, .int .u64 xPublic161, .int .i64 xFrom162, .int .i64 xTo163, .int .i64 xLimit164] 0 ∧
  Calls Try.prog 18 #[.agg #[.int .i64 xWho153, .int .u64 xPublic154, .int .i64 xFrom155, .int .i64 xTo156, .int .i64 xLimit157]] ww141 fun ee170 ww171 => ∃ (Who165 : Int) (Public166 : Int) (From167 : Int) (To168 : Int) (Limit169 : Int), ee170 = .returned (.agg #[.int .i64 Who165, .int .u64 Public166, .int .i64 From167, .int .i64 To168, .int .i64 Limit169]) ∧
  cellsAt ww171 (a159.add (Int.toNat j68 * 5)) [.int .i64 xWho160, .int .u64 xPublic161, .int .i64 xFrom162, .int .i64 xTo163, .int .i64 xLimit164] 0 ∧
  ww171.cell? ((blk ww25.heap.size).add 0) = some (.slice L158a L158n L158c) ∧
  ∃ (b172 : Bool), (binOp .neq 52 (.agg #[.int .i64 Who165, .int .u64 Public166, .int .i64 From167, .int .i64 To168, .int .i64 Limit169]) (.agg #[.int .i64 xWho160, .int .u64 xPublic161, .int .i64 xFrom162, .int .i64 xTo163, .int .i64 xLimit164])).run Try.prog ww171 = .ok (.bool b172) ww171 ∧
  bif b172 then (
  R (.bool false) ww171) else (
  ∃ m173, m173 < m70 ∧ I2 m173 [.int .i64 (IntKind.i64.wrap (j68 + 1))] ww171)) else (
  ∃ m174, m174 < m70 ∧ I2 m174 [.int .i64 (IntKind.i64.wrap (j68 + 1))] ww141)))))) else (
  ∃ (I4 : Nat → List Value → World → Prop) (m176 : Nat), I4 m176 [.int .i64 1] ww71 ∧ ∀ (m177 : Nat) (ww178 : World) (j175 : Int), I4 m177 [.int .i64 j175] ww178 →
  ∃ (L179a : Option Addr) (L179n : Nat) (L179c : Nat), ww178.cell? ((blk ww51.heap.size).add 0) = some (.slice L179a L179n L179c) ∧
  bif decide (j175 < (L179n : Int)) then (
  thenW (ww178.drew) fun ww180 =>
  ∃ (L181a : Option Addr) (L181n : Nat) (L181c : Nat), ww180.cell? ((blk ww51.heap.size).add 0) = some (.slice L181a L181n L181c) ∧
  L181a.elim False fun a182 =>
  0 ≤ ((IntKind.i64.wrap (j175 - 1)) : Int) ∧ ((IntKind.i64.wrap (j175 - 1)) : Int) < (L181n : Int) ∧
  ∃ (Who183 : Int), ww180.cell? ((a182.add (Int.toNat (IntKind.i64.wrap (j175 - 1)) * 5)).add 0) = some (.int .i64 Who183) ∧
  ∃ (L184a : Option Addr) (L184n : Nat) (L184c : Nat), ww180.cell? ((blk ww51.heap.size).add 0) = some (.slice L184a L184n L184c) ∧
  L184a.elim False fun a185 =>
  0 ≤ (j175 : Int) ∧ (j175 : Int) < (L184n : Int) ∧
  ∃ (Who186 : Int), ww180.cell? ((a185.add (Int.toNat j175 * 5)).add 0) = some (.int .i64 Who186) ∧
  bif decide (Who183 ≥ Who186) then (
  R (.bool false) ww180) else (
  ∃ m187, m187 < m177 ∧ I4 m187 [.int .i64 (IntKind.i64.wrap (j175 + 1))] ww180)) else (
  ∃ (Epoch188 : Int), ww178.cell? ((blk ww51.heap.size).add 1) = some (.int .i64 Epoch188) ∧
  ∃ (Epoch189 : Int), ww178.cell? ((blk ww25.heap.size).add 1) = some (.int .i64 Epoch189) ∧
  bif decide (Epoch188 < Epoch189) then (
  R (.bool false) ww178) else (
  ∃ (Epoch190 : Int), ww178.cell? ((blk ww51.heap.size).add 1) = some (.int .i64 Epoch190) ∧
  ∃ (Epoch191 : Int), ww178.cell? ((blk ww25.heap.size).add 1) = some (.int .i64 Epoch191) ∧
  bif decide ((IntKind.i64.wrap (Epoch190 - Epoch191)) > 1) then (
  R (.bool false) ww178) else (
  ∃ (xL192a : Option Addr) (xL192n : Nat) (xL192c : Nat) (xEpoch193 : Int), cellsAt ww178 (blk ww51.heap.size) [.slice xL192a xL192n xL192c, .int .i64 xEpoch193] 0 ∧
  canStore ww178 ((blk ww12.heap.size).add 0) ∧
  thenW (ww178.setCell ((blk ww12.heap.size).add 0) (.slice xL192a xL192n xL192c)) fun ww194 =>
  canStore ww194 ((blk ww12.heap.size).add 1) ∧
  thenW (ww194.setCell ((blk ww12.heap.size).add 1) (.int .i64 xEpoch193)) fun ww195 =>
  ∃ m196, m196 < m18 ∧ I0 m196 [.int .i64 (IntKind.i64.wrap (i16 + 1))] ww195))))))) ∧
  (thenW (ww46.alloc (.cells #[.slice none 0 0, .int .i64 0] 28)) fun ww197 =>
  cellsAt ww197 (blk ww12.heap.size) [.slice xL30a xL30n xL30c, .int .i64 xEpoch31] 0 ∧
  Calls Try.prog 12 #[.agg #[.slice xL30a xL30n xL30c, .int .i64 xEpoch31], .agg #[.int .i64 Kind39, .int .i64 Who40, .int .u64 Public41, .int .i64 Limit42, .slice Wraps43a Wraps43n Wraps43c, .slice Old44a Old44n Old44c]] ww197 fun ee201 ww202 => ∃ (L198a : Option Addr) (L198n : Nat) (L198c : Nat) (Epoch199 : Int) (apply200 : Int), ee201 = .returned (.tuple #[.agg #[.slice L198a L198n L198c, .int .i64 Epoch199], .int .i64 apply200]) ∧
  canStore ww202 ((blk ww46.heap.size).add 0) ∧
  thenW (ww202.setCell ((blk ww46.heap.size).add 0) (.slice L198a L198n L198c)) fun ww203 =>
  canStore ww203 ((blk ww46.heap.size).add 1) ∧
  thenW (ww203.setCell ((blk ww46.heap.size).add 1) (.int .i64 Epoch199)) fun ww204 =>
  thenW (ww204.drew) fun ww205 =>
  ∃ (xL206a : Option Addr) (xL206n : Nat) (xL206c : Nat) (xEpoch207 : Int), cellsAt ww205 (blk ww12.heap.size) [.slice xL206a xL206n xL206c, .int .i64 xEpoch207] 0 ∧
  ∃ (xL208a : Option Addr) (xL208n : Nat) (xL208c : Nat) (xEpoch209 : Int), cellsAt ww205 (blk ww25.heap.size) [.slice xL208a xL208n xL208c, .int .i64 xEpoch209] 0 ∧
  Calls Try.prog 15 #[.agg #[.slice xL206a xL206n xL206c, .int .i64 xEpoch207]] ww205 fun ee212 ww213 => ∃ (L210a : Option Addr) (L210n : Nat) (L210c : Nat) (Epoch211 : Int), ee212 = .returned (.agg #[.slice L210a L210n L210c, .int .i64 Epoch211]) ∧
  cellsAt ww213 (blk ww25.heap.size) [.slice xL208a xL208n xL208c, .int .i64 xEpoch209] 0 ∧
  Calls Try.prog 16 #[.agg #[.slice L210a L210n L210c, .int .i64 Epoch211], .agg #[.slice xL208a xL208n xL208c, .int .i64 xEpoch209]] ww213 fun ee215 ww216 => ∃ (same214 : Bool), ee215 = .returned (.bool same214) ∧
  bif !same214 then (
  R (.bool false) ww216) else (
  bif apply200 != 0 then (
  ∃ m217, m217 < m18 ∧ I0 m217 [.int .i64 (IntKind.i64.wrap (i16 + 1))] ww216) else (
  ∃ (I2 : Nat → List Value → World → Prop) (m219 : Nat), I2 m219 [.int .i64 0] ww216 ∧ ∀ (m220 : Nat) (ww221 : World) (j218 : Int), I2 m220 [.int .i64 j218] ww221 →
  ∃ (L222a : Option Addr) (L222n : Nat) (L222c : Nat), ww221.cell? ((blk ww25.heap.size).add 0) = some (.slice L222a L222n L222c) ∧
  bif decide (j218 < (L222n : Int)) then (
  thenW (ww221.drew) fun ww223 =>
  ∃ (xL224a : Option Addr) (xL224n : Nat) (xL224c : Nat) (xEpoch225 : Int), cellsAt ww223 (blk ww46.heap.size) [.slice xL224a xL224n xL224c, .int .i64 xEpoch225] 0 ∧
  ∃ (L226a : Option Addr) (L226n : Nat) (L226c : Nat), ww223.cell? ((blk ww25.heap.size).add 0) = some (.slice L226a L226n L226c) ∧
  L226a.elim False fun a227 =>
  0 ≤ (j218 : Int) ∧ (j218 : Int) < (L226n : Int) ∧
  ∃ (Who228 : Int), ww223.cell? ((a227.add (Int.toNat j218 * 5)).add 0) = some (.int .i64 Who228) ∧
  (Calls Try.prog 17 #[.agg #[.slice xL224a xL224n xL224c, .int .i64 xEpoch225], .int .i64 Who228] ww223 fun ee235 ww236 => ∃ (Who229 : Int) (Public230 : Int) (From231 : Int) (To232 : Int) (Limit233 : Int) (find234 : Bool), ee235 = .returned (.tuple #[.agg #[.int .i64 Who229, .int .u64 Public230, .int .i64 From231, .int .i64 To232, .int .i64 Limit233], .bool find234]) ∧
  thenW (ww236.alloc (.cells #[.int .i64 0, .int .u64 0, .int .i64 0, .int .i64 0, .int .i64 0] 49)) fun ww237 =>
  canStore ww237 ((blk ww236.heap.size).add 0) ∧
  thenW (ww237.setCell ((blk ww236.heap.size).add 0) (.int .i64 Who229)) fun ww238 =>
  canStore ww238 ((blk ww236.heap.size).add 1) ∧
  thenW (ww238.setCell ((blk ww236.heap.size).add 1) (.int .u64 Public230)) fun ww239 =>
  canStore ww239 ((blk ww236.heap.size).add 2) ∧
  thenW (ww239.setCell ((blk ww236.heap.size).add 2) (.int .i64 From231)) fun ww240 =>
  canStore ww240 ((blk ww236.heap.size).add 3) ∧
  thenW (ww240.setCell ((blk ww236.heap.size).add 3) (.int .i64 To232)) fun ww241 =>
  canStore ww241 ((blk ww236.heap.size).add 4) ∧
  thenW (ww241.setCell ((blk ww236.heap.size).add 4) (.int .i64 Limit233)) fun ww242 =>
  thenW (ww242.drew) fun ww243 =>
  bif !find234 then (
  R (.bool false) ww243) else (
  ∃ (Public244 : Int), ww243.cell? ((blk ww236.heap.size).add 1) = some (.int .u64 Public244) ∧
  ∃ (L245a : Option Addr) (L245n : Nat) (L245c : Nat), ww243.cell? ((blk ww25.heap.size).add 0) = some (.slice L245a L245n L245c) ∧
  L245a.elim False fun a246 =>
  0 ≤ (j218 : Int) ∧ (j218 : Int) < (L245n : Int) ∧
  ∃ (Public247 : Int), ww243.cell? ((a246.add (Int.toNat j218 * 5)).add 1) = some (.int .u64 Public247) ∧
  bif Public244 != Public247 then (
  R (.bool false) ww243) else (
  ∃ (From248 : Int), ww243.cell? ((blk ww236.heap.size).add 2) = some (.int .i64 From248) ∧
  ∃ (L249a : Option Addr) (L249n : Nat) (L249c : Nat), ww243.cell? ((blk ww25.heap.size).add 0) = some (.slice L249a L249n L249c) ∧
  L249a.elim False fun a250 =>
  0 ≤ (j218 : Int) ∧ (j218 : Int) < (L249n : Int) ∧
  ∃ (From251 : Int), ww243.cell? ((a250.add (Int.toNat j218 * 5)).add 2) = some (.int .i64 From251) ∧
  bif From248 != From251 then (
  R (.bool false) ww243) else (
  ∃ (L252a : Option Addr) (L252n : Nat) (L252c : Nat), ww243.cell? ((blk ww25.heap.size).add 0) = some (.slice L252a L252n L252c) ∧
  L252a.elim False fun a253 =>
  0 ≤ (j218 : Int) ∧ (j218 : Int) < (L252n : Int) ∧
  ∃ (To254 : Int), ww243.cell? ((a253.add (Int.toNat j218 * 5)).add 3) = some (.int .i64 To254) ∧
  bif To254 != (-1) then (
  ∃ (xWho255 : Int) (xPublic256 : Int) (xFrom257 : Int) (xTo258 : Int) (xLimit259 : Int), cellsAt ww243 (blk ww236.heap.size) [.int .i64 xWho255, .int .u64 xPublic256, .int .i64 xFrom257, .int .i64 xTo258, .int .i64 xLimit259] 0 ∧
  ∃ (L260a : Option Addr) (L260n : Nat) (L260c : Nat), ww243.cell? ((blk ww25.heap.size).add 0) = some (.slice L260a L260n L260c) ∧
  L260a.elim False fun a261 =>
  0 ≤ (j218 : Int) ∧ (j218 : Int) < (L260n : Int) ∧
  ∃ (xWho262 : Int) (xPublic263 : Int) (xFrom264 : Int) (xTo265 : Int) (xLimit266 : Int), cellsAt ww243 (a261.add (Int.toNat j218 * 5)) [.int .i64 xWho262, .int .u64 xPublic263, .int .i64 xFrom264, .int .i64 xTo265, .int .i64 xLimit266] 0 ∧
  Calls Try.prog 18 #[.agg #[.int .i64 xWho255, .int .u64 xPublic256, .int .i64 xFrom257, .int .i64 xTo258, .int .i64 xLimit259]] ww243 fun ee272 ww273 => ∃ (Who267 : Int) (Public268 : Int) (From269 : Int) (To270 : Int) (Limit271 : Int), ee272 = .returned (.agg #[.int .i64 Who267, .int .u64 Public268, .int .i64 From269, .int .i64 To270, .int .i64 Limit271]) ∧
  cellsAt ww273 (a261.add (Int.toNat j218 * 5)) [.int .i64 xWho262, .int .u64 xPublic263, .int .i64 xFrom264, .int .i64 xTo265, .int .i64 xLimit266] 0 ∧
  ww273.cell? ((blk ww25.heap.size).add 0) = some (.slice L260a L260n L260c) ∧
  ∃ (b274 : Bool), (binOp .neq 52 (.agg #[.int .i64 Who267, .int .u64 Public268, .int .i64 From269, .int .i64 To270, .int .i64 Limit271]) (.agg #[.int .i64 xWho262, .int .u64 xPublic263, .int .i64 xFrom264, .int .i64 xTo265, .int .i64 xLimit266])).run Try.prog ww273 = .ok (.bool b274) ww273 ∧
  bif b274 then (
  R (.bool false) ww273) else (
  ∃ m275, m275 < m220 ∧ I2 m275 [.int .i64 (IntKind.i64.wrap (j218 + 1))] ww273)) else (
  ∃ m276, m276 < m220 ∧ I2 m276 [.int .i64 (IntKind.i64.wrap (j218 + 1))] ww243))))) ∧
  (thenW (ww223.alloc (.cells #[.int .i64 0, .int .u64 0, .int .i64 0, .int .i64 0, .int .i64 0] 49)) fun ww277 =>
  ww277.cell? ((a227.add (Int.toNat j218 * 5)).add 0) = some (.int .i64 Who228) ∧
  ww277.cell? ((blk ww25.heap.size).add 0) = some (.slice L226a L226n L226c) ∧
  cellsAt ww277 (blk ww46.heap.size) [.slice xL224a xL224n xL224c, .int .i64 xEpoch225] 0 ∧
  Calls Try.prog 17 #[.agg #[.slice xL224a xL224n xL224c, .int .i64 xEpoch225], .int .i64 Who228] ww277 fun ee284 ww285 => ∃ (Who278 : Int) (Public279 : Int) (From280 : Int) (To281 : Int) (Limit282 : Int) (find283 : Bool), ee284 = .returned (.tuple #[.agg #[.int .i64 Who278, .int .u64 Public279, .int .i64 From280, .int .i64 To281, .int .i64 Limit282], .bool find283]) ∧
  canStore ww285 ((blk ww223.heap.size).add 0) ∧
  thenW (ww285.setCell ((blk ww223.heap.size).add 0) (.int .i64 Who278)) fun ww286 =>
  canStore ww286 ((blk ww223.heap.size).add 1) ∧
  thenW (ww286.setCell ((blk ww223.heap.size).add 1) (.int .u64 Public279)) fun ww287 =>
  canStore ww287 ((blk ww223.heap.size).add 2) ∧
  thenW (ww287.setCell ((blk ww223.heap.size).add 2) (.int .i64 From280)) fun ww288 =>
  canStore ww288 ((blk ww223.heap.size).add 3) ∧
  thenW (ww288.setCell ((blk ww223.heap.size).add 3) (.int .i64 To281)) fun ww289 =>
  canStore ww289 ((blk ww223.heap.size).add 4) ∧
  thenW (ww289.setCell ((blk ww223.heap.size).add 4) (.int .i64 Limit282)) fun ww290 =>
  thenW (ww290.drew) fun ww291 =>
  bif !find283 then (
  R (.bool false) ww291) else (
  ∃ (Public292 : Int), ww291.cell? ((blk ww223.heap.size).add 1) = some (.int .u64 Public292) ∧
  ∃ (L293a : Option Addr) (L293n : Nat) (L293c : Nat), ww291.cell? ((blk ww25.heap.size).add 0) = some (.slice L293a L293n L293c) ∧
  L293a.elim False fun a294 =>
  0 ≤ (j218 : Int) ∧ (j218 : Int) < (L293n : Int) ∧
  ∃ (Public295 : Int), ww291.cell? ((a294.add (Int.toNat j218 * 5)).add 1) = some (.int .u64 Public295) ∧
  bif Public292 != Public295 then (
  R (.bool false) ww291) else (
  ∃ (From296 : Int), ww291.cell? ((blk ww223.heap.size).add 2) = some (.int .i64 From296) ∧
  ∃ (L297a : Option Addr) (L297n : Nat) (L297c : Nat), ww291.cell? ((blk ww25.heap.size).add 0) = some (.slice L297a L297n L297c) ∧
  L297a.elim False fun a298 =>
  0 ≤ (j218 : Int) ∧ (j218 : Int) < (L297n : Int) ∧
  ∃ (From299 : Int), ww291.cell? ((a298.add (Int.toNat j218 * 5)).add 2) = some (.int .i64 From299) ∧
  bif From296 != From299 then (
  R (.bool false) ww291) else (
  ∃ (L300a : Option Addr) (L300n : Nat) (L300c : Nat), ww291.cell? ((blk ww25.heap.size).add 0) = some (.slice L300a L300n L300c) ∧
  L300a.elim False fun a301 =>
  0 ≤ (j218 : Int) ∧ (j218 : Int) < (L300n : Int) ∧
  ∃ (To302 : Int), ww291.cell? ((a301.add (Int.toNat j218 * 5)).add 3) = some (.int .i64 To302) ∧
  bif To302 != (-1) then (
  ∃ (xWho303 : Int) (xPublic304 : Int) (xFrom305 : Int) (xTo306 : Int) (xLimit307 : Int), cellsAt ww291 (blk ww223.heap.size) [.int .i64 xWho303, .int .u64 xPublic304, .int .i64 xFrom305, .int .i64 xTo306, .int .i64 xLimit307] 0 ∧
  ∃ (L308a : Option Addr) (L308n : Nat) (L308c : Nat), ww291.cell? ((blk ww25.heap.size).add 0) = some (.slice L308a L308n L308c) ∧
  L308a.elim False fun a309 =>
  0 ≤ (j218 : Int) ∧ (j218 : Int) < (L308n : Int) ∧
  ∃ (xWho310 : Int) (xPublic311 : Int) (xFrom312 : Int) (xTo313 : Int) (xLimit314 : Int), cellsAt ww291 (a309.add (Int.toNat j218 * 5)) [.int .i64 xWho310, .int .u64 xPublic311, .int .i64 xFrom312, .int .i64 xTo313, .int .i64 xLimit314] 0 ∧
  Calls Try.prog 18 #[.agg #[.int .i64 xWho303, .int .u64 xPublic304, .int .i64 xFrom305, .int .i64 xTo306, .int .i64 xLimit307]] ww291 fun ee320 ww321 => ∃ (Who315 : Int) (Public316 : Int) (From317 : Int) (To318 : Int) (Limit319 : Int), ee320 = .returned (.agg #[.int .i64 Who315, .int .u64 Public316, .int .i64 From317, .int .i64 To318, .int .i64 Limit319]) ∧
  cellsAt ww321 (a309.add (Int.toNat j218 * 5)) [.int .i64 xWho310, .int .u64 xPublic311, .int .i64 xFrom312, .int .i64 xTo313, .int .i64 xLimit314] 0 ∧
  ww321.cell? ((blk ww25.heap.size).add 0) = some (.slice L308a L308n L308c) ∧
  ∃ (b322 : Bool), (binOp .neq 52 (.agg #[.int .i64 Who315, .int .u64 Public316, .int .i64 From317, .int .i64 To318, .int .i64 Limit319]) (.agg #[.int .i64 xWho310, .int .u64 xPublic311, .int .i64 xFrom312, .int .i64 xTo313, .int .i64 xLimit314])).run Try.prog ww321 = .ok (.bool b322) ww321 ∧
  bif b322 then (
  R (.bool false) ww321) else (
  ∃ m323, m323 < m220 ∧ I2 m323 [.int .i64 (IntKind.i64.wrap (j218 + 1))] ww321)) else (
  ∃ m324, m324 < m220 ∧ I2 m324 [.int .i64 (IntKind.i64.wrap (j218 + 1))] ww291)))))) else (
  ∃ (I4 : Nat → List Value → World → Prop) (m326 : Nat), I4 m326 [.int .i64 1] ww221 ∧ ∀ (m327 : Nat) (ww328 : World) (j325 : Int), I4 m327 [.int .i64 j325] ww328 →
  ∃ (L329a : Option Addr) (L329n : Nat) (L329c : Nat), ww328.cell? ((blk ww46.heap.size).add 0) = some (.slice L329a L329n L329c) ∧
  bif decide (j325 < (L329n : Int)) then (
  thenW (ww328.drew) fun ww330 =>
  ∃ (L331a : Option Addr) (L331n : Nat) (L331c : Nat), ww330.cell? ((blk ww46.heap.size).add 0) = some (.slice L331a L331n L331c) ∧
  L331a.elim False fun a332 =>
  0 ≤ ((IntKind.i64.wrap (j325 - 1)) : Int) ∧ ((IntKind.i64.wrap (j325 - 1)) : Int) < (L331n : Int) ∧
  ∃ (Who333 : Int), ww330.cell? ((a332.add (Int.toNat (IntKind.i64.wrap (j325 - 1)) * 5)).add 0) = some (.int .i64 Who333) ∧
  ∃ (L334a : Option Addr) (L334n : Nat) (L334c : Nat), ww330.cell? ((blk ww46.heap.size).add 0) = some (.slice L334a L334n L334c) ∧
  L334a.elim False fun a335 =>
  0 ≤ (j325 : Int) ∧ (j325 : Int) < (L334n : Int) ∧
  ∃ (Who336 : Int), ww330.cell? ((a335.add (Int.toNat j325 * 5)).add 0) = some (.int .i64 Who336) ∧
  bif decide (Who333 ≥ Who336) then (
  R (.bool false) ww330) else (
  ∃ m337, m337 < m327 ∧ I4 m337 [.int .i64 (IntKind.i64.wrap (j325 + 1))] ww330)) else (
  ∃ (Epoch338 : Int), ww328.cell? ((blk ww46.heap.size).add 1) = some (.int .i64 Epoch338) ∧
  ∃ (Epoch339 : Int), ww328.cell? ((blk ww25.heap.size).add 1) = some (.int .i64 Epoch339) ∧
  bif decide (Epoch338 < Epoch339) then (
  R (.bool false) ww328) else (
  ∃ (Epoch340 : Int), ww328.cell? ((blk ww46.heap.size).add 1) = some (.int .i64 Epoch340) ∧
  ∃ (Epoch341 : Int), ww328.cell? ((blk ww25.heap.size).add 1) = some (.int .i64 Epoch341) ∧
  bif decide ((IntKind.i64.wrap (Epoch340 - Epoch341)) > 1) then (
  R (.bool false) ww328) else (
  ∃ (xL342a : Option Addr) (xL342n : Nat) (xL342c : Nat) (xEpoch343 : Int), cellsAt ww328 (blk ww46.heap.size) [.slice xL342a xL342n xL342c, .int .i64 xEpoch343] 0 ∧
  canStore ww328 ((blk ww12.heap.size).add 0) ∧
  thenW (ww328.setCell ((blk ww12.heap.size).add 0) (.slice xL342a xL342n xL342c)) fun ww344 =>
  canStore ww344 ((blk ww12.heap.size).add 1) ∧
  thenW (ww344.setCell ((blk ww12.heap.size).add 1) (.int .i64 xEpoch343)) fun ww345 =>
  ∃ m346, m346 < m18 ∧ I0 m346 [.int .i64 (IntKind.i64.wrap (i16 + 1))] ww345)))))))) ∧
  (thenW (ww29.alloc (.cells #[.slice none 0 0, .int .i64 0] 28)) fun ww347 =>
  cellsAt ww347 (a32.add (Int.toNat i16 * 6)) [.int .i64 xKind33, .int .i64 xWho34, .int .u64 xPublic35, .int .i64 xLimit36, .slice xWraps37a xWraps37n xWraps37c, .slice xOld38a xOld38n xOld38c] 0 ∧
  cellsAt ww347 (blk ww12.heap.size) [.slice xL30a xL30n xL30c, .int .i64 xEpoch31] 0 ∧
  Calls Try.prog 13 #[.agg #[.int .i64 xKind33, .int .i64 xWho34, .int .u64 xPublic35, .int .i64 xLimit36, .slice xWraps37a xWraps37n xWraps37c, .slice xOld38a xOld38n xOld38c]] ww347 fun ee354 ww355 => ∃ (Kind348 : Int) (Who349 : Int) (Public350 : Int) (Limit351 : Int) (Wraps352a : Option Addr) (Wraps352n : Nat) (Wraps352c : Nat) (Old353a : Option Addr) (Old353n : Nat) (Old353c : Nat), ee354 = .returned (.agg #[.int .i64 Kind348, .int .i64 Who349, .int .u64 Public350, .int .i64 Limit351, .slice Wraps352a Wraps352n Wraps352c, .slice Old353a Old353n Old353c]) ∧
  cellsAt ww355 (blk ww12.heap.size) [.slice xL30a xL30n xL30c, .int .i64 xEpoch31] 0 ∧
  Calls Try.prog 12 #[.agg #[.slice xL30a xL30n xL30c, .int .i64 xEpoch31], .agg #[.int .i64 Kind348, .int .i64 Who349, .int .u64 Public350, .int .i64 Limit351, .slice Wraps352a Wraps352n Wraps352c, .slice Old353a Old353n Old353c]] ww355 fun ee359 ww360 => ∃ (L356a : Option Addr) (L356n : Nat) (L356c : Nat) (Epoch357 : Int) (apply358 : Int), ee359 = .returned (.tuple #[.agg #[.slice L356a L356n L356c, .int .i64 Epoch357], .int .i64 apply358]) ∧
  canStore ww360 ((blk ww29.heap.size).add 0) ∧
  thenW (ww360.setCell ((blk ww29.heap.size).add 0) (.slice L356a L356n L356c)) fun ww361 =>
  canStore ww361 ((blk ww29.heap.size).add 1) ∧
  thenW (ww361.setCell ((blk ww29.heap.size).add 1) (.int .i64 Epoch357)) fun ww362 =>
  thenW (ww362.drew) fun ww363 =>
  ∃ (xL364a : Option Addr) (xL364n : Nat) (xL364c : Nat) (xEpoch365 : Int), cellsAt ww363 (blk ww12.heap.size) [.slice xL364a xL364n xL364c, .int .i64 xEpoch365] 0 ∧
  ∃ (xL366a : Option Addr) (xL366n : Nat) (xL366c : Nat) (xEpoch367 : Int), cellsAt ww363 (blk ww25.heap.size) [.slice xL366a xL366n xL366c, .int .i64 xEpoch367] 0 ∧
  Calls Try.prog 15 #[.agg #[.slice xL364a xL364n xL364c, .int .i64 xEpoch365]] ww363 fun ee370 ww371 => ∃ (L368a : Option Addr) (L368n : Nat) (L368c : Nat) (Epoch369 : Int), ee370 = .returned (.agg #[.slice L368a L368n L368c, .int .i64 Epoch369]) ∧
  cellsAt ww371 (blk ww25.heap.size) [.slice xL366a xL366n xL366c, .int .i64 xEpoch367] 0 ∧
  Calls Try.prog 16 #[.agg #[.slice L368a L368n L368c, .int .i64 Epoch369], .agg #[.slice xL366a xL366n xL366c, .int .i64 xEpoch367]] ww371 fun ee373 ww374 => ∃ (same372 : Bool), ee373 = .returned (.bool same372) ∧
  bif !same372 then (
  R (.bool false) ww374) else (
  bif apply358 != 0 then (
  ∃ m375, m375 < m18 ∧ I0 m375 [.int .i64 (IntKind.i64.wrap (i16 + 1))] ww374) else (
  ∃ (I2 : Nat → List Value → World → Prop) (m377 : Nat), I2 m377 [.int .i64 0] ww374 ∧ ∀ (m378 : Nat) (ww379 : World) (j376 : Int), I2 m378 [.int .i64 j376] ww379 →
  ∃ (L380a : Option Addr) (L380n : Nat) (L380c : Nat), ww379.cell? ((blk ww25.heap.size).add 0) = some (.slice L380a L380n L380c) ∧
  bif decide (j376 < (L380n : Int)) then (
  thenW (ww379.drew) fun ww381 =>
  ∃ (xL382a : Option Addr) (xL382n : Nat) (xL382c : Nat) (xEpoch383 : Int), cellsAt ww381 (blk ww29.heap.size) [.slice xL382a xL382n xL382c, .int .i64 xEpoch383] 0 ∧
  ∃ (L384a : Option Addr) (L384n : Nat) (L384c : Nat), ww381.cell? ((blk ww25.heap.size).add 0) = some (.slice L384a L384n L384c) ∧
  L384a.elim False fun a385 =>
  0 ≤ (j376 : Int) ∧ (j376 : Int) < (L384n : Int) ∧
  ∃ (Who386 : Int), ww381.cell? ((a385.add (Int.toNat j376 * 5)).add 0) = some (.int .i64 Who386) ∧
  (Calls Try.prog 17 #[.agg #[.slice xL382a xL382n xL382c, .int .i64 xEpoch383], .int .i64 Who386] ww381 fun ee393 ww394 => ∃ (Who387 : Int) (Public388 : Int) (From389 : Int) (To390 : Int) (Limit391 : Int) (find392 : Bool), ee393 = .returned (.tuple #[.agg #[.int .i64 Who387, .int .u64 Public388, .int .i64 From389, .int .i64 To390, .int .i64 Limit391], .bool find392]) ∧
  thenW (ww394.alloc (.cells #[.int .i64 0, .int .u64 0, .int .i64 0, .int .i64 0, .int .i64 0] 49)) fun ww395 =>
  canStore ww395 ((blk ww394.heap.size).add 0) ∧
  thenW (ww395.setCell ((blk ww394.heap.size).add 0) (.int .i64 Who387)) fun ww396 =>
  canStore ww396 ((blk ww394.heap.size).add 1) ∧
  thenW (ww396.setCell ((blk ww394.heap.size).add 1) (.int .u64 Public388)) fun ww397 =>
  canStore ww397 ((blk ww394.heap.size).add 2) ∧
  thenW (ww397.setCell ((blk ww394.heap.size).add 2) (.int .i64 From389)) fun ww398 =>
  canStore ww398 ((blk ww394.heap.size).add 3) ∧
  thenW (ww398.setCell ((blk ww394.heap.size).add 3) (.int .i64 To390)) fun ww399 =>
  canStore ww399 ((blk ww394.heap.size).add 4) ∧
  thenW (ww399.setCell ((blk ww394.heap.size).add 4) (.int .i64 Limit391)) fun ww400 =>
  thenW (ww400.drew) fun ww401 =>
  bif !find392 then (
  R (.bool false) ww401) else (
  ∃ (Public402 : Int), ww401.cell? ((blk ww394.heap.size).add 1) = some (.int .u64 Public402) ∧
  ∃ (L403a : Option Addr) (L403n : Nat) (L403c : Nat), ww401.cell? ((blk ww25.heap.size).add 0) = some (.slice L403a L403n L403c) ∧
  L403a.elim False fun a404 =>
  0 ≤ (j376 : Int) ∧ (j376 : Int) < (L403n : Int) ∧
  ∃ (Public405 : Int), ww401.cell? ((a404.add (Int.toNat j376 * 5)).add 1) = some (.int .u64 Public405) ∧
  bif Public402 != Public405 then (
  R (.bool false) ww401) else (
  ∃ (From406 : Int), ww401.cell? ((blk ww394.heap.size).add 2) = some (.int .i64 From406) ∧
  ∃ (L407a : Option Addr) (L407n : Nat) (L407c : Nat), ww401.cell? ((blk ww25.heap.size).add 0) = some (.slice L407a L407n L407c) ∧
  L407a.elim False fun a408 =>
  0 ≤ (j376 : Int) ∧ (j376 : Int) < (L407n : Int) ∧
  ∃ (From409 : Int), ww401.cell? ((a408.add (Int.toNat j376 * 5)).add 2) = some (.int .i64 From409) ∧
  bif From406 != From409 then (
  R (.bool false) ww401) else (
  ∃ (L410a : Option Addr) (L410n : Nat) (L410c : Nat), ww401.cell? ((blk ww25.heap.size).add 0) = some (.slice L410a L410n L410c) ∧
  L410a.elim False fun a411 =>
  0 ≤ (j376 : Int) ∧ (j376 : Int) < (L410n : Int) ∧
  ∃ (To412 : Int), ww401.cell? ((a411.add (Int.toNat j376 * 5)).add 3) = some (.int .i64 To412) ∧
  bif To412 != (-1) then (
  ∃ (xWho413 : Int) (xPublic414 : Int) (xFrom415 : Int) (xTo416 : Int) (xLimit417 : Int), cellsAt ww401 (blk ww394.heap.size) [.int .i64 xWho413, .int .u64 xPublic414, .int .i64 xFrom415, .int .i64 xTo416, .int .i64 xLimit417] 0 ∧
  ∃ (L418a : Option Addr) (L418n : Nat) (L418c : Nat), ww401.cell? ((blk ww25.heap.size).add 0) = some (.slice L418a L418n L418c) ∧
  L418a.elim False fun a419 =>
  0 ≤ (j376 : Int) ∧ (j376 : Int) < (L418n : Int) ∧
  ∃ (xWho420 : Int) (xPublic421 : Int) (xFrom422 : Int) (xTo423 : Int) (xLimit424 : Int), cellsAt ww401 (a419.add (Int.toNat j376 * 5)) [.int .i64 xWho420, .int .u64 xPublic421, .int .i64 xFrom422, .int .i64 xTo423, .int .i64 xLimit424] 0 ∧
  Calls Try.prog 18 #[.agg #[.int .i64 xWho413, .int .u64 xPublic414, .int .i64 xFrom415, .int .i64 xTo416, .int .i64 xLimit417]] ww401 fun ee430 ww431 => ∃ (Who425 : Int) (Public426 : Int) (From427 : Int) (To428 : Int) (Limit429 : Int), ee430 = .returned (.agg #[.int .i64 Who425, .int .u64 Public426, .int .i64 From427, .int .i64 To428, .int .i64 Limit429]) ∧
  cellsAt ww431 (a419.add (Int.toNat j376 * 5)) [.int .i64 xWho420, .int .u64 xPublic421, .int .i64 xFrom422, .int .i64 xTo423, .int .i64 xLimit424] 0 ∧
  ww431.cell? ((blk ww25.heap.size).add 0) = some (.slice L418a L418n L418c) ∧
  ∃ (b432 : Bool), (binOp .neq 52 (.agg #[.int .i64 Who425, .int .u64 Public426, .int .i64 From427, .int .i64 To428, .int .i64 Limit429]) (.agg #[.int .i64 xWho420, .int .u64 xPublic421, .int .i64 xFrom422, .int .i64 xTo423, .int .i64 xLimit424])).run Try.prog ww431 = .ok (.bool b432) ww431 ∧
  bif b432 then (
  R (.bool false) ww431) else (
  ∃ m433, m433 < m378 ∧ I2 m433 [.int .i64 (IntKind.i64.wrap (j376 + 1))] ww431)) else (
  ∃ m434, m434 < m378 ∧ I2 m434 [.int .i64 (IntKind.i64.wrap (j376 + 1))] ww401))))) ∧
  (thenW (ww381.alloc (.cells #[.int .i64 0, .int .u64 0, .int .i64 0, .int .i64 0, .int .i64 0] 49)) fun ww435 =>
  ww435.cell? ((a385.add (Int.toNat j376 * 5)).add 0) = some (.int .i64 Who386) ∧
  ww435.cell? ((blk ww25.heap.size).add 0) = some (.slice L384a L384n L384c) ∧
  cellsAt ww435 (blk ww29.heap.size) [.slice xL382a xL382n xL382c, .int .i64 xEpoch383] 0 ∧
  Calls Try.prog 17 #[.agg #[.slice xL382a xL382n xL382c, .int .i64 xEpoch383], .int .i64 Who386] ww435 fun ee442 ww443 => ∃ (Who436 : Int) (Public437 : Int) (From438 : Int) (To439 : Int) (Limit440 : Int) (find441 : Bool), ee442 = .returned (.tuple #[.agg #[.int .i64 Who436, .int .u64 Public437, .int .i64 From438, .int .i64 To439, .int .i64 Limit440], .bool find441]) ∧
  canStore ww443 ((blk ww381.heap.size).add 0) ∧
  thenW (ww443.setCell ((blk ww381.heap.size).add 0) (.int .i64 Who436)) fun ww444 =>
  canStore ww444 ((blk ww381.heap.size).add 1) ∧
  thenW (ww444.setCell ((blk ww381.heap.size).add 1) (.int .u64 Public437)) fun ww445 =>
  canStore ww445 ((blk ww381.heap.size).add 2) ∧
  thenW (ww445.setCell ((blk ww381.heap.size).add 2) (.int .i64 From438)) fun ww446 =>
  canStore ww446 ((blk ww381.heap.size).add 3) ∧
  thenW (ww446.setCell ((blk ww381.heap.size).add 3) (.int .i64 To439)) fun ww447 =>
  canStore ww447 ((blk ww381.heap.size).add 4) ∧
  thenW (ww447.setCell ((blk ww381.heap.size).add 4) (.int .i64 Limit440)) fun ww448 =>
  thenW (ww448.drew) fun ww449 =>
  bif !find441 then (
  R (.bool false) ww449) else (
  ∃ (Public450 : Int), ww449.cell? ((blk ww381.heap.size).add 1) = some (.int .u64 Public450) ∧
  ∃ (L451a : Option Addr) (L451n : Nat) (L451c : Nat), ww449.cell? ((blk ww25.heap.size).add 0) = some (.slice L451a L451n L451c) ∧
  L451a.elim False fun a452 =>
  0 ≤ (j376 : Int) ∧ (j376 : Int) < (L451n : Int) ∧
  ∃ (Public453 : Int), ww449.cell? ((a452.add (Int.toNat j376 * 5)).add 1) = some (.int .u64 Public453) ∧
  bif Public450 != Public453 then (
  R (.bool false) ww449) else (
  ∃ (From454 : Int), ww449.cell? ((blk ww381.heap.size).add 2) = some (.int .i64 From454) ∧
  ∃ (L455a : Option Addr) (L455n : Nat) (L455c : Nat), ww449.cell? ((blk ww25.heap.size).add 0) = some (.slice L455a L455n L455c) ∧
  L455a.elim False fun a456 =>
  0 ≤ (j376 : Int) ∧ (j376 : Int) < (L455n : Int) ∧
  ∃ (From457 : Int), ww449.cell? ((a456.add (Int.toNat j376 * 5)).add 2) = some (.int .i64 From457) ∧
  bif From454 != From457 then (
  R (.bool false) ww449) else (
  ∃ (L458a : Option Addr) (L458n : Nat) (L458c : Nat), ww449.cell? ((blk ww25.heap.size).add 0) = some (.slice L458a L458n L458c) ∧
  L458a.elim False fun a459 =>
  0 ≤ (j376 : Int) ∧ (j376 : Int) < (L458n : Int) ∧
  ∃ (To460 : Int), ww449.cell? ((a459.add (Int.toNat j376 * 5)).add 3) = some (.int .i64 To460) ∧
  bif To460 != (-1) then (
  ∃ (xWho461 : Int) (xPublic462 : Int) (xFrom463 : Int) (xTo464 : Int) (xLimit465 : Int), cellsAt ww449 (blk ww381.heap.size) [.int .i64 xWho461, .int .u64 xPublic462, .int .i64 xFrom463, .int .i64 xTo464, .int .i64 xLimit465] 0 ∧
  ∃ (L466a : Option Addr) (L466n : Nat) (L466c : Nat), ww449.cell? ((blk ww25.heap.size).add 0) = some (.slice L466a L466n L466c) ∧
  L466a.elim False fun a467 =>
  0 ≤ (j376 : Int) ∧ (j376 : Int) < (L466n : Int) ∧
  ∃ (xWho468 : Int) (xPublic469 : Int) (xFrom470 : Int) (xTo471 : Int) (xLimit472 : Int), cellsAt ww449 (a467.add (Int.toNat j376 * 5)) [.int .i64 xWho468, .int .u64 xPublic469, .int .i64 xFrom470, .int .i64 xTo471, .int .i64 xLimit472] 0 ∧
  Calls Try.prog 18 #[.agg #[.int .i64 xWho461, .int .u64 xPublic462, .int .i64 xFrom463, .int .i64 xTo464, .int .i64 xLimit465]] ww449 fun ee478 ww479 => ∃ (Who473 : Int) (Public474 : Int) (From475 : Int) (To476 : Int) (Limit477 : Int), ee478 = .returned (.agg #[.int .i64 Who473, .int .u64 Public474, .int .i64 From475, .int .i64 To476, .int .i64 Limit477]) ∧
  cellsAt ww479 (a467.add (Int.toNat j376 * 5)) [.int .i64 xWho468, .int .u64 xPublic469, .int .i64 xFrom470, .int .i64 xTo471, .int .i64 xLimit472] 0 ∧
  ww479.cell? ((blk ww25.heap.size).add 0) = some (.slice L466a L466n L466c) ∧
  ∃ (b480 : Bool), (binOp .neq 52 (.agg #[.int .i64 Who473, .int .u64 Public474, .int .i64 From475, .int .i64 To476, .int .i64 Limit477]) (.agg #[.int .i64 xWho468, .int .u64 xPublic469, .int .i64 xFrom470, .int .i64 xTo471, .int .i64 xLimit472])).run Try.prog ww479 = .ok (.bool b480) ww479 ∧
  bif b480 then (
  R (.bool false) ww479) else (
  ∃ m481, m481 < m378 ∧ I2 m481 [.int .i64 (IntKind.i64.wrap (j376 + 1))] ww479)) else (
  ∃ m482, m482 < m378 ∧ I2 m482 [.int .i64 (IntKind.i64.wrap (j376 + 1))] ww449)))))) else (
  ∃ (I4 : Nat → List Value → World → Prop) (m484 : Nat), I4 m484 [.int .i64 1] ww379 ∧ ∀ (m485 : Nat) (ww486 : World) (j483 : Int), I4 m485 [.int .i64 j483] ww486 →
  ∃ (L487a : Option Addr) (L487n : Nat) (L487c : Nat), ww486.cell? ((blk ww29.heap.size).add 0) = some (.slice L487a L487n L487c) ∧
  bif decide (j483 < (L487n : Int)) then (
  thenW (ww486.drew) fun ww488 =>
  ∃ (L489a : Option Addr) (L489n : Nat) (L489c : Nat), ww488.cell? ((blk ww29.heap.size).add 0) = some (.slice L489a L489n L489c) ∧
  L489a.elim False fun a490 =>
  0 ≤ ((IntKind.i64.wrap (j483 - 1)) : Int) ∧ ((IntKind.i64.wrap (j483 - 1)) : Int) < (L489n : Int) ∧
  ∃ (Who491 : Int), ww488.cell? ((a490.add (Int.toNat (IntKind.i64.wrap (j483 - 1)) * 5)).add 0) = some (.int .i64 Who491) ∧
  ∃ (L492a : Option Addr) (L492n : Nat) (L492c : Nat), ww488.cell? ((blk ww29.heap.size).add 0) = some (.slice L492a L492n L492c) ∧
  L492a.elim False fun a493 =>
  0 ≤ (j483 : Int) ∧ (j483 : Int) < (L492n : Int) ∧
  ∃ (Who494 : Int), ww488.cell? ((a493.add (Int.toNat j483 * 5)).add 0) = some (.int .i64 Who494) ∧
  bif decide (Who491 ≥ Who494) then (
  R (.bool false) ww488) else (
  ∃ m495, m495 < m485 ∧ I4 m495 [.int .i64 (IntKind.i64.wrap (j483 + 1))] ww488)) else (
  ∃ (Epoch496 : Int), ww486.cell? ((blk ww29.heap.size).add 1) = some (.int .i64 Epoch496) ∧
  ∃ (Epoch497 : Int), ww486.cell? ((blk ww25.heap.size).add 1) = some (.int .i64 Epoch497) ∧
  bif decide (Epoch496 < Epoch497) then (
  R (.bool false) ww486) else (
  ∃ (Epoch498 : Int), ww486.cell? ((blk ww29.heap.size).add 1) = some (.int .i64 Epoch498) ∧
  ∃ (Epoch499 : Int), ww486.cell? ((blk ww25.heap.size).add 1) = some (.int .i64 Epoch499) ∧
  bif decide ((IntKind.i64.wrap (Epoch498 - Epoch499)) > 1) then (
  R (.bool false) ww486) else (
  ∃ (xL500a : Option Addr) (xL500n : Nat) (xL500c : Nat) (xEpoch501 : Int), cellsAt ww486 (blk ww29.heap.size) [.slice xL500a xL500n xL500c, .int .i64 xEpoch501] 0 ∧
  canStore ww486 ((blk ww12.heap.size).add 0) ∧
  thenW (ww486.setCell ((blk ww12.heap.size).add 0) (.slice xL500a xL500n xL500c)) fun ww502 =>
  canStore ww502 ((blk ww12.heap.size).add 1) ∧
  thenW (ww502.setCell ((blk ww12.heap.size).add 1) (.int .i64 xEpoch501)) fun ww503 =>
  ∃ m504, m504 < m18 ∧ I0 m504 [.int .i64 (IntKind.i64.wrap (i16 + 1))] ww503)))))))) else (
  Calls Try.prog 10 #[] ww19 fun ee506 ww507 => ∃ (alive505 : Bool), ee506 = .returned (.bool alive505) ∧
  R (.bool alive505) ww507))

theorem cachettelaw12_MembersKeeps.eq (publicv1 : Int) (l2a : Option Addr) (l2n : Nat) (l2c : Nat) (R : Value → World → Prop) (w : World) : mfunc Try.prog [(0, [1, 5], [(6, (.one (.int .i64)))]), (2, [1, 5, 6, 7, 8], [(10, (.one (.int .i64)))]), (4, [1, 5, 6, 7, 8], [(13, (.one (.int .i64)))])] 4 [.int .u64 publicv1, .slice l2a l2n l2c] R w = cachettelaw12_MembersKeeps.M publicv1 l2a l2n l2c R w := by kernel_rfl
theorem cachettelaw12_MembersKeeps.ok (publicv1 : Int) (l2a : Option Addr) (l2n : Nat) (l2c : Nat) {R : Value → World → Prop} {w : World} (h : cachettelaw12_MembersKeeps.M publicv1 l2a l2n l2c R w) : Calls Try.prog 4 #[.int .u64 publicv1, .slice l2a l2n l2c] w fun e w' => ∃ v, e = .returned v ∧ R v w' :=
  mfunc_ok follows (H := [(0, [1, 5], [(6, (.one (.int .i64)))]), (2, [1, 5, 6, 7, 8], [(10, (.one (.int .i64)))]), (4, [1, 5, 6, 7, 8], [(13, (.one (.int .i64)))])]) (args := [.int .u64 publicv1, .slice l2a l2n l2c]) (by rw [cachettelaw12_MembersKeeps.eq]; exact h)

def cachettelaw12_MembersKeeps.N (publicv1 : Int) (l2a : Option Addr) (l2n : Nat) (l2c : Nat) (R : Value → World → Prop) (w : World) : Prop :=
  Calls Try.prog 9 #[.slice l2a l2n l2c] w fun ee4 ww5 => ∃ (light3 : Bool), ee4 = .returned (.bool light3) ∧
  (light3 = false →
    Calls Try.prog 10 #[] ww5 fun ee8 ww9 => ∃ (alive7 : Bool), ee8 = .returned (.bool alive7) ∧
    R (.bool alive7) ww9) ∧
  (light3 = true →
    Calls Try.prog 11 #[.int .u64 publicv1] ww5 fun ee12 ww13 => ∃ (L10a : Option Addr) (L10n : Nat) (L10c : Nat) (Epoch11 : Int), ee12 = .returned (.agg #[.slice L10a L10n L10c, .int .i64 Epoch11]) ∧
    ∀ (ww16 : World) (p17 : Nat), Ext no ww13 ww16 → Priv ww13 ww16 [p17] →
    ∃ (I0 : Nat → List Value → World → Prop) (m21 : Nat), I0 m21 [.int .i64 0, .slice L10a L10n L10c, .int .i64 Epoch11] ww16 ∧ ∀ (m22 : Nat) (ww23 : World) (i18 : Int) (L19a : Option Addr) (L19n : Nat) (L19c : Nat) (Epoch20 : Int), I0 m22 [.int .i64 i18, .slice L19a L19n L19c, .int .i64 Epoch20] ww23 →
    (i18 < (l2n : Int) →
      Calls Try.prog 15 #[.agg #[.slice L19a L19n L19c, .int .i64 Epoch20]] ww23 fun ee27 ww28 => ∃ (L25a : Option Addr) (L25n : Nat) (L25c : Nat) (Epoch26 : Int), ee27 = .returned (.agg #[.slice L25a L25n L25c, .int .i64 Epoch26]) ∧
      Keep [p17] ww23 ww28 ∧
      ∃ a33 : Addr, l2a = some a33 ∧
      0 ≤ (i18 : Int) ∧ (i18 : Int) < (l2n : Int) ∧
      ∃ (xKind35 : Int) (xWho36 : Int) (xPublic37 : Int) (xLimit38 : Int) (xWraps39a : Option Addr) (xWraps39n : Nat) (xWraps39c : Nat) (xOld40a : Option Addr) (xOld40n : Nat) (xOld40c : Nat), cellsAt ww28 (a33.add (Int.toNat i18 * 6)) [.int .i64 xKind35, .int .i64 xWho36, .int .u64 xPublic37, .int .i64 xLimit38, .slice xWraps39a xWraps39n xWraps39c, .slice xOld40a xOld40n xOld40c] 0 ∧
      ∀ (ww42 : World) (L41 : List Nat), Ext no ww28 ww42 → Priv ww28 ww42 L41 →
      Calls Try.prog 13 #[.agg #[.int .i64 xKind35, .int .i64 xWho36, .int .u64 xPublic37, .int .i64 xLimit38, .slice xWraps39a xWraps39n xWraps39c, .slice xOld40a xOld40n xOld40c]] ww42 fun ee49 ww50 => ∃ (Kind43 : Int) (Who44 : Int) (Public45 : Int) (Limit46 : Int) (Wraps47a : Option Addr) (Wraps47n : Nat) (Wraps47c : Nat) (Old48a : Option Addr) (Old48n : Nat) (Old48c : Nat), ee49 = .returned (.agg #[.int .i64 Kind43, .int .i64 Who44, .int .u64 Public45, .int .i64 Limit46, .slice Wraps47a Wraps47n Wraps47c, .slice Old48a Old48n Old48c]) ∧
      Keep L41 ww42 ww50 ∧
      Keep [p17] ww42 ww50 ∧
      ∀ (ww52 : World) (L51 : List Nat), Ext (fun b => b ∈ L41) ww50 ww52 → PrivJ L41 ww50 ww52 L51 →
      Calls Try.prog 12 #[.agg #[.slice L19a L19n L19c, .int .i64 Epoch20], .agg #[.int .i64 Kind43, .int .i64 Who44, .int .u64 Public45, .int .i64 Limit46, .slice Wraps47a Wraps47n Wraps47c, .slice Old48a Old48n Old48c]] ww52 fun ee56 ww57 => ∃ (L53a : Option Addr) (L53n : Nat) (L53c : Nat) (Epoch54 : Int) (apply55 : Int), ee56 = .returned (.tuple #[.agg #[.slice L53a L53n L53c, .int .i64 Epoch54], .int .i64 apply55]) ∧
      Keep L51 ww52 ww57 ∧
      Keep [p17] ww52 ww57 ∧
      ∀ (ww146 : World) (p62 : Nat) (p63 : Nat), Ext (fun b => b ∈ L51) ww57 ww146 → PrivJ L51 ww57 ww146 [p62, p63] →
      Calls Try.prog 15 #[.agg #[.slice L19a L19n L19c, .int .i64 Epoch20]] ww146 fun ee66 ww67 => ∃ (L64a : Option Addr) (L64n : Nat) (L64c : Nat) (Epoch65 : Int), ee66 = .returned (.agg #[.slice L64a L64n L64c, .int .i64 Epoch65]) ∧
      Keep [p17, p62, p63] ww146 ww67 ∧
      Calls Try.prog 16 #[.agg #[.slice L64a L64n L64c, .int .i64 Epoch65], .agg #[.slice L25a L25n L25c, .int .i64 Epoch26]] ww67 fun ee69 ww70 => ∃ (same68 : Bool), ee69 = .returned (.bool same68) ∧
      Keep [p17, p62, p63] ww67 ww70 ∧
      (same68 = false →
        R (.bool false) ww70) ∧
      (same68 = true →
        (apply55 ≠ 0 →
          (-9223372036854775808 : Int) ≤ (i18 + 1) ∧ (i18 + 1) < 9223372036854775808 ∧
          ∃ m73, m73 < m22 ∧ I0 m73 [.int .i64 (i18 + 1), .slice L19a L19n L19c, .int .i64 Epoch20] ww70) ∧
        (apply55 = 0 →
          ∃ (I2 : Nat → List Value → World → Prop) (m77 : Nat), I2 m77 [.int .i64 0, .slice L19a L19n L19c, .int .i64 Epoch20] ww70 ∧ ∀ (m78 : Nat) (ww79 : World) (j74 : Int) (L75a : Option Addr) (L75n : Nat) (L75c : Nat) (Epoch76 : Int), I2 m78 [.int .i64 j74, .slice L75a L75n L75c, .int .i64 Epoch76] ww79 →
          (j74 < (L25n : Int) →
            ∃ a82 : Addr, L25a = some a82 ∧
            0 ≤ (j74 : Int) ∧ (j74 : Int) < (L25n : Int) ∧
            ∃ (Who84 : Int), ww79.cell? ((a82.add (Int.toNat j74 * 5)).add 0) = some (.int .i64 Who84) ∧
            ∀ (ww86 : World) (L85 : List Nat), Ext no ww79 ww86 → Priv ww79 ww86 L85 →
            Calls Try.prog 17 #[.agg #[.slice L53a L53n L53c, .int .i64 Epoch54], .int .i64 Who84] ww86 fun ee93 ww94 => ∃ (Who87 : Int) (Public88 : Int) (From89 : Int) (To90 : Int) (Limit91 : Int) (find92 : Bool), ee93 = .returned (.tuple #[.agg #[.int .i64 Who87, .int .u64 Public88, .int .i64 From89, .int .i64 To90, .int .i64 Limit91], .bool find92]) ∧
            Keep L85 ww86 ww94 ∧
            Keep [p17, p62, p63] ww86 ww94 ∧
            (find92 = false →
              ∀ (ww104 : World), Ext (fun b => b ∈ L85) ww94 ww104 →
              R (.bool false) ww104) ∧
            (find92 = true →
              0 ≤ (j74 : Int) ∧ (j74 : Int) < (L25n : Int) ∧
              ∀ (ww125 : World), Ext (fun b => b ∈ L85) ww94 ww125 →
              ∃ (Public107 : Int), ww125.cell? ((a82.add (Int.toNat j74 * 5)).add 1) = some (.int .u64 Public107) ∧
              (Public88 ≠ Public107 →
                R (.bool false) ww125) ∧
              (Public88 = Public107 →
                0 ≤ (j74 : Int) ∧ (j74 : Int) < (L25n : Int) ∧
                ∃ (From110 : Int), ww125.cell? ((a82.add (Int.toNat j74 * 5)).add 2) = some (.int .i64 From110) ∧
                (From89 ≠ From110 →
                  R (.bool false) ww125) ∧
                (From89 = From110 →
                  0 ≤ (j74 : Int) ∧ (j74 : Int) < (L25n : Int) ∧
                  ∃ (To113 : Int), ww125.cell? ((a82.add (Int.toNat j74 * 5)).add 3) = some (.int .i64 To113) ∧
                  (To113 ≠ (-1) →
                    0 ≤ (j74 : Int) ∧ (j74 : Int) < (L25n : Int) ∧
                    ∃ (xWho116 : Int) (xPublic117 : Int) (xFrom118 : Int) (xTo119 : Int) (xLimit120 : Int), cellsAt ww125 (a82.add (Int.toNat j74 * 5)) [.int .i64 xWho116, .int .u64 xPublic117, .int .i64 xFrom118, .int .i64 xTo119, .int .i64 xLimit120] 0 ∧
                    (¬ (((cachettelaw12_member.F Who87 Public88 From89 To90 Limit91).1) = xWho116 ∧ ((cachettelaw12_member.F Who87 Public88 From89 To90 Limit91).2.1) = xPublic117 ∧ ((cachettelaw12_member.F Who87 Public88 From89 To90 Limit91).2.2.1) = xFrom118 ∧ ((cachettelaw12_member.F Who87 Public88 From89 To90 Limit91).2.2.2.1) = xTo119 ∧ ((cachettelaw12_member.F Who87 Public88 From89 To90 Limit91).2.2.2.2) = xLimit120) →
                      ∀ (ww121 : World), Ext no ww125 ww121 →
                      R (.bool false) ww121) ∧
                    (((cachettelaw12_member.F Who87 Public88 From89 To90 Limit91).1) = xWho116 ∧ ((cachettelaw12_member.F Who87 Public88 From89 To90 Limit91).2.1) = xPublic117 ∧ ((cachettelaw12_member.F Who87 Public88 From89 To90 Limit91).2.2.1) = xFrom118 ∧ ((cachettelaw12_member.F Who87 Public88 From89 To90 Limit91).2.2.2.1) = xTo119 ∧ ((cachettelaw12_member.F Who87 Public88 From89 To90 Limit91).2.2.2.2) = xLimit120 →
                      (-9223372036854775808 : Int) ≤ (j74 + 1) ∧ (j74 + 1) < 9223372036854775808 ∧
                      ∀ (ww121 : World), Ext no ww125 ww121 →
                      ∃ m123, m123 < m78 ∧ I2 m123 [.int .i64 (j74 + 1), .slice L75a L75n L75c, .int .i64 Epoch76] ww121)) ∧
                  (To113 = (-1) →
                    (-9223372036854775808 : Int) ≤ (j74 + 1) ∧ (j74 + 1) < 9223372036854775808 ∧
                    ∃ m124, m124 < m78 ∧ I2 m124 [.int .i64 (j74 + 1), .slice L75a L75n L75c, .int .i64 Epoch76] ww125))))) ∧
          ((L25n : Int) ≤ j74 →
            ∃ (I4 : Nat → List Value → World → Prop) (m129 : Nat), I4 m129 [.int .i64 1, .slice L75a L75n L75c, .int .i64 Epoch76] ww79 ∧ ∀ (m130 : Nat) (ww131 : World) (j126 : Int) (L127a : Option Addr) (L127n : Nat) (L127c : Nat) (Epoch128 : Int), I4 m130 [.int .i64 j126, .slice L127a L127n L127c, .int .i64 Epoch128] ww131 →
            (j126 < (L53n : Int) →
              (-9223372036854775808 : Int) ≤ (j126 - 1) ∧ (j126 - 1) < 9223372036854775808 ∧
              ∃ a134 : Addr, L53a = some a134 ∧
              0 ≤ ((j126 - 1) : Int) ∧ ((j126 - 1) : Int) < (L53n : Int) ∧
              ∃ (Who136 : Int), ww131.cell? ((a134.add (Int.toNat (j126 - 1) * 5)).add 0) = some (.int .i64 Who136) ∧
              0 ≤ (j126 : Int) ∧ (j126 : Int) < (L53n : Int) ∧
              ∃ (Who138 : Int), ww131.cell? ((a134.add (Int.toNat j126 * 5)).add 0) = some (.int .i64 Who138) ∧
              (Who136 ≥ Who138 →
                ∀ (ww133 : World), Ext no ww131 ww133 →
                R (.bool false) ww133) ∧
              (Who136 < Who138 →
                (-9223372036854775808 : Int) ≤ (j126 + 1) ∧ (j126 + 1) < 9223372036854775808 ∧
                ∀ (ww133 : World), Ext no ww131 ww133 →
                ∃ m140, m140 < m130 ∧ I4 m140 [.int .i64 (j126 + 1), .slice L127a L127n L127c, .int .i64 Epoch128] ww133)) ∧
            ((L53n : Int) ≤ j126 →
              (Epoch54 < Epoch26 →
                R (.bool false) ww131) ∧
              (Epoch26 ≤ Epoch54 →
                (-9223372036854775808 : Int) ≤ (Epoch54 - Epoch26) ∧ (Epoch54 - Epoch26) < 9223372036854775808 ∧
                ((Epoch54 - Epoch26) > 1 →
                  R (.bool false) ww131) ∧
                ((Epoch54 - Epoch26) ≤ 1 →
                  (-9223372036854775808 : Int) ≤ (i18 + 1) ∧ (i18 + 1) < 9223372036854775808 ∧
                  ∀ (ww144 : World), Ext (fun b => b = p17) ww131 ww144 →
                  ∃ m145, m145 < m22 ∧ I0 m145 [.int .i64 (i18 + 1), .slice L53a L53n L53c, .int .i64 Epoch54] ww144))))))) ∧
    ((l2n : Int) ≤ i18 →
      Calls Try.prog 10 #[] ww23 fun ee148 ww149 => ∃ (alive147 : Bool), ee148 = .returned (.bool alive147) ∧
      R (.bool alive147) ww149))

theorem cachettelaw12_MembersKeeps.up (publicv1 : Int) (l2a : Option Addr) (l2n : Nat) (l2c : Nat) {R : Value → World → Prop} {w : World} (h : cachettelaw12_MembersKeeps.N publicv1 l2a l2n l2c R w) : cachettelaw12_MembersKeeps.M publicv1 l2a l2n l2c R w := by
  unfold cachettelaw12_MembersKeeps.M
  unfold cachettelaw12_MembersKeeps.N at h
  refine h.mono fun ee4 ww5 h => ?_
  obtain ⟨light3, he, h⟩ := h
  refine ⟨light3, he, ?_⟩
  refine bif_of (fun c6 => ?_) (fun c6 => ?_)
  · have h := h.1 (not_t c6)
    refine h.mono fun ee8 ww9 h => ?_
    obtain ⟨alive7, he, h⟩ := h
    refine ⟨alive7, he, ?_⟩
    exact h
  · have h := h.2 (not_f c6)
    refine h.mono fun ee12 ww13 h => ?_
    obtain ⟨L10a, L10n, L10c, Epoch11, he, h⟩ := h
    refine ⟨L10a, L10n, L10c, Epoch11, he, ?_⟩
    refine thenW_in fun ww14 e14 => ?_
    have hb1 := Blk.of_new e14
    have hg1 := ((Ext.refl no ww13)).size
    have hx14 := (Ext.refl no ww13).x_alloc e14
    refine ⟨hb1.cani 0 rfl rfl, thenW_in fun ww15 e15 => ?_⟩
    have hx15 := hx14.x_set (q := ww13.heap.size) (i := 0) rfl (.inr hg1) e15
    have hb1 := hb1.seti 0 rfl e15
    refine ⟨hb1.cani 1 rfl rfl, thenW_in fun ww16 e16 => ?_⟩
    have hx16 := hx15.x_set (q := ww13.heap.size) (i := 1) rfl (.inr hg1) e16
    have hb1 := hb1.seti 1 rfl e16
    have h := h ww16 (ww13.heap.size) hx16 (Priv.cons hg1 hb1.lt Priv.nil)
    obtain ⟨I0, m21, h0, h⟩ := h
    refine ⟨fun k vs ww => ∃ (L19a : Option Addr) (L19n : Nat) (L19c : Nat) (Epoch20 : Int), Blk ww ww13.heap.size 28 [.slice L19a L19n L19c, .int .i64 Epoch20] ∧ I0 k (vs ++ [.slice L19a L19n L19c, .int .i64 Epoch20]) ww, m21, ⟨L10a, L10n, L10c, Epoch11, hb1, h0⟩, fun m22 ww23 i18 hI => ?_⟩
    obtain ⟨L19a, L19n, L19c, Epoch20, hb1, hI⟩ := hI
    have h := h m22 ww23 i18 L19a L19n L19c Epoch20 hI
    refine bif_of (fun c24 => ?_) (fun c24 => ?_)
    · have h := h.1 (of_decide_eq_true c24)
      refine ⟨L19a, L19n, L19c, Epoch20, ⟨hb1.celli 0 rfl rfl, hb1.celli 1 rfl rfl, trivial⟩, ?_⟩
      refine h.mono fun ee27 ww28 h => ?_
      obtain ⟨L25a, L25n, L25c, Epoch26, he, hk, h⟩ := h
      refine ⟨L25a, L25n, L25c, Epoch26, he, ?_⟩
      have hb1 := hk.blk hb1 (by simp)
      refine thenW_in fun ww29 e29 => ?_
      have hb2 := Blk.of_new e29
      have hg2 := ((Ext.refl no ww28)).size
      have hb1_2 := Nat.ne_of_lt hb1.lt
      have hb1 := hb1.x_alloc e29
      have hx29 := (Ext.refl no ww28).x_alloc e29
      refine ⟨hb2.cani 0 rfl rfl, thenW_in fun ww30 e30 => ?_⟩
      have hx30 := hx29.x_set (q := ww28.heap.size) (i := 0) rfl (.inr hg2) e30
      have hb1 := hb1.oth (q := ww28.heap.size) (i := 0) rfl hb1_2 e30
      have hb2 := hb2.seti 0 rfl e30
      refine ⟨hb2.cani 1 rfl rfl, thenW_in fun ww31 e31 => ?_⟩
      have hx31 := hx30.x_set (q := ww28.heap.size) (i := 1) rfl (.inr hg2) e31
      have hb1 := hb1.oth (q := ww28.heap.size) (i := 1) rfl hb1_2 e31
      have hb2 := hb2.seti 1 rfl e31
      refine thenW_in fun ww32 e32 => ?_
      have hx32 := hx31.x_drew e32
      have hb1 := hb1.x_drew e32
      have hb2 := hb2.x_drew e32
      refine ⟨L19a, L19n, L19c, Epoch20, ⟨hb1.celli 0 rfl rfl, hb1.celli 1 rfl rfl, trivial⟩, ?_⟩
      obtain ⟨a33, ha33, h⟩ := h
      refine elim_some ha33 ?_
      obtain ⟨hq1, hq2, h⟩ := h
      refine ⟨hq1, hq2, ?_⟩
      obtain ⟨xKind35, xWho36, xPublic37, xLimit38, xWraps39a, xWraps39n, xWraps39c, xOld40a, xOld40n, xOld40c, hc34, h⟩ := h
      refine ⟨xKind35, xWho36, xPublic37, xLimit38, xWraps39a, xWraps39n, xWraps39c, xOld40a, xOld40n, xOld40c, cellsAt_no (hx32) hc34, ?_⟩
      refine ⟨?_, ?_⟩
      · have h := h ww32 [ww28.heap.size] hx32 (Priv.cons hg2 hb2.lt Priv.nil)
        refine h.mono fun ee49 ww50 h => ?_
        obtain ⟨Kind43, Who44, Public45, Limit46, Wraps47a, Wraps47n, Wraps47c, Old48a, Old48n, Old48c, he, hkL, hk, h⟩ := h
        refine ⟨Kind43, Who44, Public45, Limit46, Wraps47a, Wraps47n, Wraps47c, Old48a, Old48n, Old48c, he, ?_⟩
        have hb2 := hkL.blk hb2 (by simp)
        have hb1 := hk.blk hb1 (by simp)
        refine ⟨⟨hb1.celli 0 rfl rfl, hb1.celli 1 rfl rfl, trivial⟩, ?_⟩
        refine ⟨?_, ?_⟩
        · have h := h ww50 [ww28.heap.size] (Ext.refl (fun b => b ∈ ([ww28.heap.size] : List Nat)) ww50) (PrivJ.cons (.inl (by simp)) hb2.lt PrivJ.nil)
          refine h.mono fun ee56 ww57 h => ?_
          obtain ⟨L53a, L53n, L53c, Epoch54, apply55, he, hkL, hk, h⟩ := h
          refine ⟨L53a, L53n, L53c, Epoch54, apply55, he, ?_⟩
          have hb2 := hkL.blk hb2 (by simp)
          have hb1 := hk.blk hb1 (by simp)
          refine thenW_in fun ww58 e58 => ?_
          have hb3 := Blk.of_new e58
          have hg3 := ((Ext.refl (fun b => b ∈ ([ww28.heap.size] : List Nat)) ww57)).size
          have hb1_3 := Nat.ne_of_lt hb1.lt
          have hb1 := hb1.x_alloc e58
          have hb2_3 := Nat.ne_of_lt hb2.lt
          have hb2 := hb2.x_alloc e58
          have hx58 := (Ext.refl (fun b => b ∈ ([ww28.heap.size] : List Nat)) ww57).x_alloc e58
          refine ⟨hb3.cani 0 rfl rfl, thenW_in fun ww59 e59 => ?_⟩
          have hx59 := hx58.x_set (q := ww57.heap.size) (i := 0) rfl (.inr hg3) e59
          have hb1 := hb1.oth (q := ww57.heap.size) (i := 0) rfl hb1_3 e59
          have hb2 := hb2.oth (q := ww57.heap.size) (i := 0) rfl hb2_3 e59
          have hb3 := hb3.seti 0 rfl e59
          refine ⟨hb3.cani 1 rfl rfl, thenW_in fun ww60 e60 => ?_⟩
          have hx60 := hx59.x_set (q := ww57.heap.size) (i := 1) rfl (.inr hg3) e60
          have hb1 := hb1.oth (q := ww57.heap.size) (i := 1) rfl hb1_3 e60
          have hb2 := hb2.oth (q := ww57.heap.size) (i := 1) rfl hb2_3 e60
          have hb3 := hb3.seti 1 rfl e60
          refine thenW_in fun ww61 e61 => ?_
          have hx61 := hx60.x_drew e61
          have hb1 := hb1.x_drew e61
          have hb2 := hb2.x_drew e61
          have hb3 := hb3.x_drew e61
          refine ⟨L19a, L19n, L19c, Epoch20, ⟨hb1.celli 0 rfl rfl, hb1.celli 1 rfl rfl, trivial⟩, ?_⟩
          refine ⟨L25a, L25n, L25c, Epoch26, ⟨hb2.celli 0 rfl rfl, hb2.celli 1 rfl rfl, trivial⟩, ?_⟩
          have h := h ww61 (ww28.heap.size) (ww57.heap.size) hx61 (PrivJ.cons (.inl (by simp)) hb2.lt (PrivJ.cons (.inr hg3) hb3.lt PrivJ.nil))
          refine h.mono fun ee66 ww67 h => ?_
          obtain ⟨L64a, L64n, L64c, Epoch65, he, hk, h⟩ := h
          refine ⟨L64a, L64n, L64c, Epoch65, he, ?_⟩
          have hb1 := hk.blk hb1 (by simp)
          have hb2 := hk.blk hb2 (by simp)
          have hb3 := hk.blk hb3 (by simp)
          refine ⟨⟨hb2.celli 0 rfl rfl, hb2.celli 1 rfl rfl, trivial⟩, ?_⟩
          refine h.mono fun ee69 ww70 h => ?_
          obtain ⟨same68, he, hk, h⟩ := h
          refine ⟨same68, he, ?_⟩
          have hb1 := hk.blk hb1 (by simp)
          have hb2 := hk.blk hb2 (by simp)
          have hb3 := hk.blk hb3 (by simp)
          refine bif_of (fun c71 => ?_) (fun c71 => ?_)
          · have h := h.1 (not_t c71)
            exact h
          · have h := h.2 (not_f c71)
            refine bif_of (fun c72 => ?_) (fun c72 => ?_)
            · have h := h.1 (bne_t c72)
              obtain ⟨hw1, hw2, h⟩ := h
              try rw [w64 hw1 hw2]
              obtain ⟨m73, hk, h⟩ := h
              exact ⟨m73, hk, L19a, L19n, L19c, Epoch20, hb1, h⟩
            · have h := h.2 (bne_f c72)
              obtain ⟨I2, m77, h0, h⟩ := h
              refine ⟨fun k vs ww => ∃ (L75a : Option Addr) (L75n : Nat) (L75c : Nat) (Epoch76 : Int), Blk ww ww13.heap.size 28 [.slice L75a L75n L75c, .int .i64 Epoch76] ∧ Blk ww ww28.heap.size 45 [.slice L25a L25n L25c, .int .i64 Epoch26] ∧ Blk ww ww57.heap.size 28 [.slice L53a L53n L53c, .int .i64 Epoch54] ∧ I2 k (vs ++ [.slice L75a L75n L75c, .int .i64 Epoch76]) ww, m77, ⟨L19a, L19n, L19c, Epoch20, hb1, hb2, hb3, h0⟩, fun m78 ww79 j74 hI => ?_⟩
              obtain ⟨L75a, L75n, L75c, Epoch76, hb1, hb2, hb3, hI⟩ := hI
              have h := h m78 ww79 j74 L75a L75n L75c Epoch76 hI
              refine ⟨L25a, L25n, L25c, hb2.celli 0 rfl rfl, ?_⟩
              refine bif_of (fun c80 => ?_) (fun c80 => ?_)
              · have h := h.1 (of_decide_eq_true c80)
                refine thenW_in fun ww81 e81 => ?_
                have hx81 := (Ext.refl no ww79).x_drew e81
                have hb1 := hb1.x_drew e81
                have hb2 := hb2.x_drew e81
                have hb3 := hb3.x_drew e81
                refine ⟨L53a, L53n, L53c, Epoch54, ⟨hb3.celli 0 rfl rfl, hb3.celli 1 rfl rfl, trivial⟩, ?_⟩
                refine ⟨L25a, L25n, L25c, hb2.celli 0 rfl rfl, ?_⟩
                obtain ⟨a82, ha82, h⟩ := h
                refine elim_some ha82 ?_
                obtain ⟨hq1, hq2, h⟩ := h
                refine ⟨hq1, hq2, ?_⟩
                obtain ⟨Who84, hc83, h⟩ := h
                refine ⟨Who84, (hx81).cell hc83 id, ?_⟩
                refine ⟨?_, ?_⟩
                · have h := h ww81 [] hx81 Priv.nil
                  refine h.mono fun ee93 ww94 h => ?_
                  obtain ⟨Who87, Public88, From89, To90, Limit91, find92, he, hkL, hk, h⟩ := h
                  refine ⟨Who87, Public88, From89, To90, Limit91, find92, he, ?_⟩
                  have hb1 := hk.blk hb1 (by simp)
                  have hb2 := hk.blk hb2 (by simp)
                  have hb3 := hk.blk hb3 (by simp)
                  refine thenW_in fun ww95 e95 => ?_
                  have hb4 := Blk.of_new e95
                  have hg4 := ((Ext.refl (fun b => b ∈ ([] : List Nat)) ww94)).size
                  have hb1_4 := Nat.ne_of_lt hb1.lt
                  have hb1 := hb1.x_alloc e95
                  have hb2_4 := Nat.ne_of_lt hb2.lt
                  have hb2 := hb2.x_alloc e95
                  have hb3_4 := Nat.ne_of_lt hb3.lt
                  have hb3 := hb3.x_alloc e95
                  have hx95 := (Ext.refl (fun b => b ∈ ([] : List Nat)) ww94).x_alloc e95
                  refine ⟨hb4.cani 0 rfl rfl, thenW_in fun ww96 e96 => ?_⟩
                  have hx96 := hx95.x_set (q := ww94.heap.size) (i := 0) rfl (.inr hg4) e96
                  have hb1 := hb1.oth (q := ww94.heap.size) (i := 0) rfl hb1_4 e96
                  have hb2 := hb2.oth (q := ww94.heap.size) (i := 0) rfl hb2_4 e96
                  have hb3 := hb3.oth (q := ww94.heap.size) (i := 0) rfl hb3_4 e96
                  have hb4 : Blk ww96 ww94.heap.size 49 [.int .i64 Who87, .int .u64 0, .int .i64 0, .int .i64 0, .int .i64 0] := hb4.seti 0 rfl e96
                  refine ⟨hb4.cani 1 rfl rfl, thenW_in fun ww97 e97 => ?_⟩
                  have hx97 := hx96.x_set (q := ww94.heap.size) (i := 1) rfl (.inr hg4) e97
                  have hb1 := hb1.oth (q := ww94.heap.size) (i := 1) rfl hb1_4 e97
                  have hb2 := hb2.oth (q := ww94.heap.size) (i := 1) rfl hb2_4 e97
                  have hb3 := hb3.oth (q := ww94.heap.size) (i := 1) rfl hb3_4 e97
                  have hb4 : Blk ww97 ww94.heap.size 49 [.int .i64 Who87, .int .u64 Public88, .int .i64 0, .int .i64 0, .int .i64 0] := hb4.seti 1 rfl e97
                  refine ⟨hb4.cani 2 rfl rfl, thenW_in fun ww98 e98 => ?_⟩
                  have hx98 := hx97.x_set (q := ww94.heap.size) (i := 2) rfl (.inr hg4) e98
                  have hb1 := hb1.oth (q := ww94.heap.size) (i := 2) rfl hb1_4 e98
                  have hb2 := hb2.oth (q := ww94.heap.size) (i := 2) rfl hb2_4 e98
                  have hb3 := hb3.oth (q := ww94.heap.size) (i := 2) rfl hb3_4 e98
                  have hb4 : Blk ww98 ww94.heap.size 49 [.int .i64 Who87, .int .u64 Public88, .int .i64 From89, .int .i64 0, .int .i64 0] := hb4.seti 2 rfl e98
                  refine ⟨hb4.cani 3 rfl rfl, thenW_in fun ww99 e99 => ?_⟩
                  have hx99 := hx98.x_set (q := ww94.heap.size) (i := 3) rfl (.inr hg4) e99
                  have hb1 := hb1.oth (q := ww94.heap.size) (i := 3) rfl hb1_4 e99
                  have hb2 := hb2.oth (q := ww94.heap.size) (i := 3) rfl hb2_4 e99
                  have hb3 := hb3.oth (q := ww94.heap.size) (i := 3) rfl hb3_4 e99
                  have hb4 : Blk ww99 ww94.heap.size 49 [.int .i64 Who87, .int .u64 Public88, .int .i64 From89, .int .i64 To90, .int .i64 0] := hb4.seti 3 rfl e99
                  refine ⟨hb4.cani 4 rfl rfl, thenW_in fun ww100 e100 => ?_⟩
                  have hx100 := hx99.x_set (q := ww94.heap.size) (i := 4) rfl (.inr hg4) e100
                  have hb1 := hb1.oth (q := ww94.heap.size) (i := 4) rfl hb1_4 e100
                  have hb2 := hb2.oth (q := ww94.heap.size) (i := 4) rfl hb2_4 e100
                  have hb3 := hb3.oth (q := ww94.heap.size) (i := 4) rfl hb3_4 e100
                  have hb4 : Blk ww100 ww94.heap.size 49 [.int .i64 Who87, .int .u64 Public88, .int .i64 From89, .int .i64 To90, .int .i64 Limit91] := hb4.seti 4 rfl e100
                  refine thenW_in fun ww101 e101 => ?_
                  have hx101 := hx100.x_drew e101
                  have hb1 := hb1.x_drew e101
                  have hb2 := hb2.x_drew e101
                  have hb3 := hb3.x_drew e101
                  have hb4 := hb4.x_drew e101
                  refine bif_of (fun c102 => ?_) (fun c102 => ?_)
                  · have h := h.1 (not_t c102)
                    have h := h ww101 hx101
                    exact h
                  · have h := h.2 (not_f c102)
                    refine ⟨Public88, hb4.celli 1 rfl rfl, ?_⟩
                    refine ⟨L25a, L25n, L25c, hb2.celli 0 rfl rfl, ?_⟩
                    refine elim_some ha82 ?_
                    obtain ⟨hq1, hq2, h⟩ := h
                    refine ⟨hq1, hq2, ?_⟩
                    have h := h ww101 hx101
                    obtain ⟨Public107, hc106, h⟩ := h
                    refine ⟨Public107, hc106, ?_⟩
                    refine bif_of (fun c108 => ?_) (fun c108 => ?_)
                    · have h := h.1 (bne_t c108)
                      exact h
                    · have h := h.2 (bne_f c108)
                      refine ⟨From89, hb4.celli 2 rfl rfl, ?_⟩
                      refine ⟨L25a, L25n, L25c, hb2.celli 0 rfl rfl, ?_⟩
                      refine elim_some ha82 ?_
                      obtain ⟨hq1, hq2, h⟩ := h
                      refine ⟨hq1, hq2, ?_⟩
                      obtain ⟨From110, hc109, h⟩ := h
                      refine ⟨From110, hc109, ?_⟩
                      refine bif_of (fun c111 => ?_) (fun c111 => ?_)
                      · have h := h.1 (bne_t c111)
                        exact h
                      · have h := h.2 (bne_f c111)
                        refine ⟨L25a, L25n, L25c, hb2.celli 0 rfl rfl, ?_⟩
                        refine elim_some ha82 ?_
                        obtain ⟨hq1, hq2, h⟩ := h
                        refine ⟨hq1, hq2, ?_⟩
                        obtain ⟨To113, hc112, h⟩ := h
                        refine ⟨To113, hc112, ?_⟩
                        refine bif_of (fun c114 => ?_) (fun c114 => ?_)
                        · have h := h.1 (bne_t c114)
                          refine ⟨Who87, Public88, From89, To90, Limit91, ⟨hb4.celli 0 rfl rfl, hb4.celli 1 rfl rfl, hb4.celli 2 rfl rfl, hb4.celli 3 rfl rfl, hb4.celli 4 rfl rfl, trivial⟩, ?_⟩
                          refine ⟨L25a, L25n, L25c, hb2.celli 0 rfl rfl, ?_⟩
                          refine elim_some ha82 ?_
                          obtain ⟨hq1, hq2, h⟩ := h
                          refine ⟨hq1, hq2, ?_⟩
                          obtain ⟨xWho116, xPublic117, xFrom118, xTo119, xLimit120, hc115, h⟩ := h
                          refine ⟨xWho116, xPublic117, xFrom118, xTo119, xLimit120, hc115, ?_⟩
                          refine (cachettelaw12_member.pure Who87 Public88 From89 To90 Limit91).mono fun ee ww121 ⟨he, hxx⟩ => ⟨((cachettelaw12_member.F Who87 Public88 From89 To90 Limit91).1), ((cachettelaw12_member.F Who87 Public88 From89 To90 Limit91).2.1), ((cachettelaw12_member.F Who87 Public88 From89 To90 Limit91).2.2.1), ((cachettelaw12_member.F Who87 Public88 From89 To90 Limit91).2.2.2.1), ((cachettelaw12_member.F Who87 Public88 From89 To90 Limit91).2.2.2.2), he, ?_⟩
                          have hx121 := (Ext.refl no ww101).trans hxx
                          have hb1 := hb1.ext hxx id
                          have hb2 := hb2.ext hxx id
                          have hb3 := hb3.ext hxx id
                          refine ⟨cellsAt_no (hx121) hc115, hb2.celli 0 rfl rfl, ?_⟩
                          refine ⟨_, eqT52_ne ((cachettelaw12_member.F Who87 Public88 From89 To90 Limit91).1) ((cachettelaw12_member.F Who87 Public88 From89 To90 Limit91).2.1) ((cachettelaw12_member.F Who87 Public88 From89 To90 Limit91).2.2.1) ((cachettelaw12_member.F Who87 Public88 From89 To90 Limit91).2.2.2.1) ((cachettelaw12_member.F Who87 Public88 From89 To90 Limit91).2.2.2.2) xWho116 xPublic117 xFrom118 xTo119 xLimit120 _, ?_⟩
                          refine bif_of (fun c122 => ?_) (fun c122 => ?_)
                          · have h := h.1 (of_decide_eq_false (not_t c122))
                            have h := h ww121 hx121
                            exact h
                          · have h := h.2 (of_decide_eq_true (not_f c122))
                            obtain ⟨hw1, hw2, h⟩ := h
                            try rw [w64 hw1 hw2]
                            have h := h ww121 hx121
                            obtain ⟨m123, hk, h⟩ := h
                            exact ⟨m123, hk, L75a, L75n, L75c, Epoch76, hb1, hb2, hb3, h⟩
                        · have h := h.2 (bne_f c114)
                          obtain ⟨hw1, hw2, h⟩ := h
                          try rw [w64 hw1 hw2]
                          obtain ⟨m124, hk, h⟩ := h
                          exact ⟨m124, hk, L75a, L75n, L75c, Epoch76, hb1, hb2, hb3, h⟩
                · refine thenW_in fun ww85 e85 => ?_
                  have hb4 := Blk.of_new e85
                  have hg4 := (hx81).size
                  have hb1_4 := Nat.ne_of_lt hb1.lt
                  have hb1 := hb1.x_alloc e85
                  have hb2_4 := Nat.ne_of_lt hb2.lt
                  have hb2 := hb2.x_alloc e85
                  have hb3_4 := Nat.ne_of_lt hb3.lt
                  have hb3 := hb3.x_alloc e85
                  have hx85 := hx81.x_alloc e85
                  refine ⟨(hx85).cell hc83 id, hb2.celli 0 rfl rfl, ⟨hb3.celli 0 rfl rfl, hb3.celli 1 rfl rfl, trivial⟩, ?_⟩
                  have h := h ww85 [ww81.heap.size] hx85 (Priv.cons hg4 hb4.lt Priv.nil)
                  refine h.mono fun ee94 ww95 h => ?_
                  obtain ⟨Who88, Public89, From90, To91, Limit92, find93, he, hkL, hk, h⟩ := h
                  refine ⟨Who88, Public89, From90, To91, Limit92, find93, he, ?_⟩
                  have hb4 := hkL.blk hb4 (by simp)
                  have hb1 := hk.blk hb1 (by simp)
                  have hb2 := hk.blk hb2 (by simp)
                  have hb3 := hk.blk hb3 (by simp)
                  refine ⟨hb4.cani 0 rfl rfl, thenW_in fun ww96 e96 => ?_⟩
                  have hx96 := (Ext.refl (fun b => b ∈ ([ww81.heap.size] : List Nat)) ww95).x_set (q := ww81.heap.size) (i := 0) rfl (.inl (by simp)) e96
                  have hb1 := hb1.oth (q := ww81.heap.size) (i := 0) rfl hb1_4 e96
                  have hb2 := hb2.oth (q := ww81.heap.size) (i := 0) rfl hb2_4 e96
                  have hb3 := hb3.oth (q := ww81.heap.size) (i := 0) rfl hb3_4 e96
                  have hb4 : Blk ww96 ww81.heap.size 49 [.int .i64 Who88, .int .u64 0, .int .i64 0, .int .i64 0, .int .i64 0] := hb4.seti 0 rfl e96
                  refine ⟨hb4.cani 1 rfl rfl, thenW_in fun ww97 e97 => ?_⟩
                  have hx97 := hx96.x_set (q := ww81.heap.size) (i := 1) rfl (.inl (by simp)) e97
                  have hb1 := hb1.oth (q := ww81.heap.size) (i := 1) rfl hb1_4 e97
                  have hb2 := hb2.oth (q := ww81.heap.size) (i := 1) rfl hb2_4 e97
                  have hb3 := hb3.oth (q := ww81.heap.size) (i := 1) rfl hb3_4 e97
                  have hb4 : Blk ww97 ww81.heap.size 49 [.int .i64 Who88, .int .u64 Public89, .int .i64 0, .int .i64 0, .int .i64 0] := hb4.seti 1 rfl e97
                  refine ⟨hb4.cani 2 rfl rfl, thenW_in fun ww98 e98 => ?_⟩
                  have hx98 := hx97.x_set (q := ww81.heap.size) (i := 2) rfl (.inl (by simp)) e98
                  have hb1 := hb1.oth (q := ww81.heap.size) (i := 2) rfl hb1_4 e98
                  have hb2 := hb2.oth (q := ww81.heap.size) (i := 2) rfl hb2_4 e98
                  have hb3 := hb3.oth (q := ww81.heap.size) (i := 2) rfl hb3_4 e98
                  have hb4 : Blk ww98 ww81.heap.size 49 [.int .i64 Who88, .int .u64 Public89, .int .i64 From90, .int .i64 0, .int .i64 0] := hb4.seti 2 rfl e98
                  refine ⟨hb4.cani 3 rfl rfl, thenW_in fun ww99 e99 => ?_⟩
                  have hx99 := hx98.x_set (q := ww81.heap.size) (i := 3) rfl (.inl (by simp)) e99
                  have hb1 := hb1.oth (q := ww81.heap.size) (i := 3) rfl hb1_4 e99
                  have hb2 := hb2.oth (q := ww81.heap.size) (i := 3) rfl hb2_4 e99
                  have hb3 := hb3.oth (q := ww81.heap.size) (i := 3) rfl hb3_4 e99
                  have hb4 : Blk ww99 ww81.heap.size 49 [.int .i64 Who88, .int .u64 Public89, .int .i64 From90, .int .i64 To91, .int .i64 0] := hb4.seti 3 rfl e99
                  refine ⟨hb4.cani 4 rfl rfl, thenW_in fun ww100 e100 => ?_⟩
                  have hx100 := hx99.x_set (q := ww81.heap.size) (i := 4) rfl (.inl (by simp)) e100
                  have hb1 := hb1.oth (q := ww81.heap.size) (i := 4) rfl hb1_4 e100
                  have hb2 := hb2.oth (q := ww81.heap.size) (i := 4) rfl hb2_4 e100
                  have hb3 := hb3.oth (q := ww81.heap.size) (i := 4) rfl hb3_4 e100
                  have hb4 : Blk ww100 ww81.heap.size 49 [.int .i64 Who88, .int .u64 Public89, .int .i64 From90, .int .i64 To91, .int .i64 Limit92] := hb4.seti 4 rfl e100
                  refine thenW_in fun ww101 e101 => ?_
                  have hx101 := hx100.x_drew e101
                  have hb1 := hb1.x_drew e101
                  have hb2 := hb2.x_drew e101
                  have hb3 := hb3.x_drew e101
                  have hb4 := hb4.x_drew e101
                  refine bif_of (fun c102 => ?_) (fun c102 => ?_)
                  · have h := h.1 (not_t c102)
                    have h := h ww101 hx101
                    exact h
                  · have h := h.2 (not_f c102)
                    refine ⟨Public89, hb4.celli 1 rfl rfl, ?_⟩
                    refine ⟨L25a, L25n, L25c, hb2.celli 0 rfl rfl, ?_⟩
                    refine elim_some ha82 ?_
                    obtain ⟨hq1, hq2, h⟩ := h
                    refine ⟨hq1, hq2, ?_⟩
                    have h := h ww101 hx101
                    obtain ⟨Public107, hc106, h⟩ := h
                    refine ⟨Public107, hc106, ?_⟩
                    refine bif_of (fun c108 => ?_) (fun c108 => ?_)
                    · have h := h.1 (bne_t c108)
                      exact h
                    · have h := h.2 (bne_f c108)
                      refine ⟨From90, hb4.celli 2 rfl rfl, ?_⟩
                      refine ⟨L25a, L25n, L25c, hb2.celli 0 rfl rfl, ?_⟩
                      refine elim_some ha82 ?_
                      obtain ⟨hq1, hq2, h⟩ := h
                      refine ⟨hq1, hq2, ?_⟩
                      obtain ⟨From110, hc109, h⟩ := h
                      refine ⟨From110, hc109, ?_⟩
                      refine bif_of (fun c111 => ?_) (fun c111 => ?_)
                      · have h := h.1 (bne_t c111)
                        exact h
                      · have h := h.2 (bne_f c111)
                        refine ⟨L25a, L25n, L25c, hb2.celli 0 rfl rfl, ?_⟩
                        refine elim_some ha82 ?_
                        obtain ⟨hq1, hq2, h⟩ := h
                        refine ⟨hq1, hq2, ?_⟩
                        obtain ⟨To113, hc112, h⟩ := h
                        refine ⟨To113, hc112, ?_⟩
                        refine bif_of (fun c114 => ?_) (fun c114 => ?_)
                        · have h := h.1 (bne_t c114)
                          refine ⟨Who88, Public89, From90, To91, Limit92, ⟨hb4.celli 0 rfl rfl, hb4.celli 1 rfl rfl, hb4.celli 2 rfl rfl, hb4.celli 3 rfl rfl, hb4.celli 4 rfl rfl, trivial⟩, ?_⟩
                          refine ⟨L25a, L25n, L25c, hb2.celli 0 rfl rfl, ?_⟩
                          refine elim_some ha82 ?_
                          obtain ⟨hq1, hq2, h⟩ := h
                          refine ⟨hq1, hq2, ?_⟩
                          obtain ⟨xWho116, xPublic117, xFrom118, xTo119, xLimit120, hc115, h⟩ := h
                          refine ⟨xWho116, xPublic117, xFrom118, xTo119, xLimit120, hc115, ?_⟩
                          refine (cachettelaw12_member.pure Who88 Public89 From90 To91 Limit92).mono fun ee ww121 ⟨he, hxx⟩ => ⟨((cachettelaw12_member.F Who88 Public89 From90 To91 Limit92).1), ((cachettelaw12_member.F Who88 Public89 From90 To91 Limit92).2.1), ((cachettelaw12_member.F Who88 Public89 From90 To91 Limit92).2.2.1), ((cachettelaw12_member.F Who88 Public89 From90 To91 Limit92).2.2.2.1), ((cachettelaw12_member.F Who88 Public89 From90 To91 Limit92).2.2.2.2), he, ?_⟩
                          have hx121 := (Ext.refl no ww101).trans hxx
                          have hb1 := hb1.ext hxx id
                          have hb2 := hb2.ext hxx id
                          have hb3 := hb3.ext hxx id
                          refine ⟨cellsAt_no (hx121) hc115, hb2.celli 0 rfl rfl, ?_⟩
                          refine ⟨_, eqT52_ne ((cachettelaw12_member.F Who88 Public89 From90 To91 Limit92).1) ((cachettelaw12_member.F Who88 Public89 From90 To91 Limit92).2.1) ((cachettelaw12_member.F Who88 Public89 From90 To91 Limit92).2.2.1) ((cachettelaw12_member.F Who88 Public89 From90 To91 Limit92).2.2.2.1) ((cachettelaw12_member.F Who88 Public89 From90 To91 Limit92).2.2.2.2) xWho116 xPublic117 xFrom118 xTo119 xLimit120 _, ?_⟩
                          refine bif_of (fun c122 => ?_) (fun c122 => ?_)
                          · have h := h.1 (of_decide_eq_false (not_t c122))
                            have h := h ww121 hx121
                            exact h
                          · have h := h.2 (of_decide_eq_true (not_f c122))
                            obtain ⟨hw1, hw2, h⟩ := h
                            try rw [w64 hw1 hw2]
                            have h := h ww121 hx121
                            obtain ⟨m123, hk, h⟩ := h
                            exact ⟨m123, hk, L75a, L75n, L75c, Epoch76, hb1, hb2, hb3, h⟩
                        · have h := h.2 (bne_f c114)
                          obtain ⟨hw1, hw2, h⟩ := h
                          try rw [w64 hw1 hw2]
                          obtain ⟨m124, hk, h⟩ := h
                          exact ⟨m124, hk, L75a, L75n, L75c, Epoch76, hb1, hb2, hb3, h⟩
              · have h := h.2 (Int.not_lt.1 (of_decide_eq_false c80))
                obtain ⟨I4, m129, h0, h⟩ := h
                refine ⟨fun k vs ww => ∃ (L127a : Option Addr) (L127n : Nat) (L127c : Nat) (Epoch128 : Int), Blk ww ww13.heap.size 28 [.slice L127a L127n L127c, .int .i64 Epoch128] ∧ Blk ww ww28.heap.size 45 [.slice L25a L25n L25c, .int .i64 Epoch26] ∧ Blk ww ww57.heap.size 28 [.slice L53a L53n L53c, .int .i64 Epoch54] ∧ I4 k (vs ++ [.slice L127a L127n L127c, .int .i64 Epoch128]) ww, m129, ⟨L75a, L75n, L75c, Epoch76, hb1, hb2, hb3, h0⟩, fun m130 ww131 j126 hI => ?_⟩
                obtain ⟨L127a, L127n, L127c, Epoch128, hb1, hb2, hb3, hI⟩ := hI
                have h := h m130 ww131 j126 L127a L127n L127c Epoch128 hI
                refine ⟨L53a, L53n, L53c, hb3.celli 0 rfl rfl, ?_⟩
                refine bif_of (fun c132 => ?_) (fun c132 => ?_)
                · have h := h.1 (of_decide_eq_true c132)
                  refine thenW_in fun ww133 e133 => ?_
                  have hx133 := (Ext.refl no ww131).x_drew e133
                  have hb1 := hb1.x_drew e133
                  have hb2 := hb2.x_drew e133
                  have hb3 := hb3.x_drew e133
                  refine ⟨L53a, L53n, L53c, hb3.celli 0 rfl rfl, ?_⟩
                  obtain ⟨hw1, hw2, h⟩ := h
                  try rw [w64 hw1 hw2]
                  obtain ⟨a134, ha134, h⟩ := h
                  refine elim_some ha134 ?_
                  obtain ⟨hq1, hq2, h⟩ := h
                  refine ⟨hq1, hq2, ?_⟩
                  obtain ⟨Who136, hc135, h⟩ := h
                  refine ⟨Who136, (hx133).cell hc135 id, ?_⟩
                  refine ⟨L53a, L53n, L53c, hb3.celli 0 rfl rfl, ?_⟩
                  refine elim_some ha134 ?_
                  obtain ⟨hq1, hq2, h⟩ := h
                  refine ⟨hq1, hq2, ?_⟩
                  obtain ⟨Who138, hc137, h⟩ := h
                  refine ⟨Who138, (hx133).cell hc137 id, ?_⟩
                  refine bif_of (fun c139 => ?_) (fun c139 => ?_)
                  · have h := h.1 (of_decide_eq_true c139)
                    have h := h ww133 hx133
                    exact h
                  · have h := h.2 (Int.not_le.1 (of_decide_eq_false c139))
                    obtain ⟨hw1, hw2, h⟩ := h
                    try rw [w64 hw1 hw2]
                    have h := h ww133 hx133
                    obtain ⟨m140, hk, h⟩ := h
                    exact ⟨m140, hk, L127a, L127n, L127c, Epoch128, hb1, hb2, hb3, h⟩
                · have h := h.2 (Int.not_lt.1 (of_decide_eq_false c132))
                  refine ⟨Epoch54, hb3.celli 1 rfl rfl, ?_⟩
                  refine ⟨Epoch26, hb2.celli 1 rfl rfl, ?_⟩
                  refine bif_of (fun c141 => ?_) (fun c141 => ?_)
                  · have h := h.1 (of_decide_eq_true c141)
                    exact h
                  · have h := h.2 (Int.not_lt.1 (of_decide_eq_false c141))
                    refine ⟨Epoch54, hb3.celli 1 rfl rfl, ?_⟩
                    refine ⟨Epoch26, hb2.celli 1 rfl rfl, ?_⟩
                    obtain ⟨hw1, hw2, h⟩ := h
                    try rw [w64 hw1 hw2]
                    refine bif_of (fun c142 => ?_) (fun c142 => ?_)
                    · have h := h.1 (of_decide_eq_true c142)
                      exact h
                    · have h := h.2 (Int.not_lt.1 (of_decide_eq_false c142))
                      refine ⟨L53a, L53n, L53c, Epoch54, ⟨hb3.celli 0 rfl rfl, hb3.celli 1 rfl rfl, trivial⟩, ?_⟩
                      have hm144 : Ext (fun b => b = ww13.heap.size) ww131 ww131 := ((Ext.refl no ww131)).none
                      refine ⟨hb1.cani 0 rfl rfl, thenW_in fun ww143 e143 => ?_⟩
                      have hx143 := hm144.x_set (q := ww13.heap.size) (i := 0) rfl (.inl rfl) e143
                      have hb1 := hb1.seti 0 rfl e143
                      refine ⟨hb1.cani 1 rfl rfl, thenW_in fun ww144 e144 => ?_⟩
                      have hx144 := hx143.x_set (q := ww13.heap.size) (i := 1) rfl (.inl rfl) e144
                      have hb1 := hb1.seti 1 rfl e144
                      obtain ⟨hw1, hw2, h⟩ := h
                      try rw [w64 hw1 hw2]
                      have h := h ww144 hx144
                      obtain ⟨m145, hk, h⟩ := h
                      exact ⟨m145, hk, L53a, L53n, L53c, Epoch54, hb1, h⟩
        · refine thenW_in fun ww51 e51 => ?_
          have hb3 := Blk.of_new e51
          have hg3 := ((Ext.refl (fun b => b ∈ ([ww28.heap.size] : List Nat)) ww50)).size
          have hb1_3 := Nat.ne_of_lt hb1.lt
          have hb1 := hb1.x_alloc e51
          have hb2_3 := Nat.ne_of_lt hb2.lt
          have hb2 := hb2.x_alloc e51
          have hx51 := (Ext.refl (fun b => b ∈ ([ww28.heap.size] : List Nat)) ww50).x_alloc e51
          refine ⟨⟨hb1.celli 0 rfl rfl, hb1.celli 1 rfl rfl, trivial⟩, ?_⟩
          have h := h ww51 [ww28.heap.size, ww50.heap.size] hx51 (PrivJ.cons (.inl (by simp)) hb2.lt (PrivJ.cons (.inr hg3) hb3.lt PrivJ.nil))
          refine h.mono fun ee57 ww58 h => ?_
          obtain ⟨L54a, L54n, L54c, Epoch55, apply56, he, hkL, hk, h⟩ := h
          refine ⟨L54a, L54n, L54c, Epoch55, apply56, he, ?_⟩
          have hb2 := hkL.blk hb2 (by simp)
          have hb3 := hkL.blk hb3 (by simp)
          have hb1 := hk.blk hb1 (by simp)
          refine ⟨hb3.cani 0 rfl rfl, thenW_in fun ww59 e59 => ?_⟩
          have hx59 := (Ext.refl (fun b => b ∈ ([ww28.heap.size, ww50.heap.size] : List Nat)) ww58).x_set (q := ww50.heap.size) (i := 0) rfl (.inl (by simp)) e59
          have hb1 := hb1.oth (q := ww50.heap.size) (i := 0) rfl hb1_3 e59
          have hb2 := hb2.oth (q := ww50.heap.size) (i := 0) rfl hb2_3 e59
          have hb3 := hb3.seti 0 rfl e59
          refine ⟨hb3.cani 1 rfl rfl, thenW_in fun ww60 e60 => ?_⟩
          have hx60 := hx59.x_set (q := ww50.heap.size) (i := 1) rfl (.inl (by simp)) e60
          have hb1 := hb1.oth (q := ww50.heap.size) (i := 1) rfl hb1_3 e60
          have hb2 := hb2.oth (q := ww50.heap.size) (i := 1) rfl hb2_3 e60
          have hb3 := hb3.seti 1 rfl e60
          refine thenW_in fun ww61 e61 => ?_
          have hx61 := hx60.x_drew e61
          have hb1 := hb1.x_drew e61
          have hb2 := hb2.x_drew e61
          have hb3 := hb3.x_drew e61
          refine ⟨L19a, L19n, L19c, Epoch20, ⟨hb1.celli 0 rfl rfl, hb1.celli 1 rfl rfl, trivial⟩, ?_⟩
          refine ⟨L25a, L25n, L25c, Epoch26, ⟨hb2.celli 0 rfl rfl, hb2.celli 1 rfl rfl, trivial⟩, ?_⟩
          have h := h ww61 (ww28.heap.size) (ww50.heap.size) hx61 (PrivJ.cons (.inl (by simp)) hb2.lt (PrivJ.cons (.inl (by simp)) hb3.lt PrivJ.nil))
          refine h.mono fun ee66 ww67 h => ?_
          obtain ⟨L64a, L64n, L64c, Epoch65, he, hk, h⟩ := h
          refine ⟨L64a, L64n, L64c, Epoch65, he, ?_⟩
          have hb1 := hk.blk hb1 (by simp)
          have hb2 := hk.blk hb2 (by simp)
          have hb3 := hk.blk hb3 (by simp)
          refine ⟨⟨hb2.celli 0 rfl rfl, hb2.celli 1 rfl rfl, trivial⟩, ?_⟩
          refine h.mono fun ee69 ww70 h => ?_
          obtain ⟨same68, he, hk, h⟩ := h
          refine ⟨same68, he, ?_⟩
          have hb1 := hk.blk hb1 (by simp)
          have hb2 := hk.blk hb2 (by simp)
          have hb3 := hk.blk hb3 (by simp)
          refine bif_of (fun c71 => ?_) (fun c71 => ?_)
          · have h := h.1 (not_t c71)
            exact h
          · have h := h.2 (not_f c71)
            refine bif_of (fun c72 => ?_) (fun c72 => ?_)
            · have h := h.1 (bne_t c72)
              obtain ⟨hw1, hw2, h⟩ := h
              try rw [w64 hw1 hw2]
              obtain ⟨m73, hk, h⟩ := h
              exact ⟨m73, hk, L19a, L19n, L19c, Epoch20, hb1, h⟩
            · have h := h.2 (bne_f c72)
              obtain ⟨I2, m77, h0, h⟩ := h
              refine ⟨fun k vs ww => ∃ (L75a : Option Addr) (L75n : Nat) (L75c : Nat) (Epoch76 : Int), Blk ww ww13.heap.size 28 [.slice L75a L75n L75c, .int .i64 Epoch76] ∧ Blk ww ww28.heap.size 45 [.slice L25a L25n L25c, .int .i64 Epoch26] ∧ Blk ww ww50.heap.size 28 [.slice L54a L54n L54c, .int .i64 Epoch55] ∧ I2 k (vs ++ [.slice L75a L75n L75c, .int .i64 Epoch76]) ww, m77, ⟨L19a, L19n, L19c, Epoch20, hb1, hb2, hb3, h0⟩, fun m78 ww79 j74 hI => ?_⟩
              obtain ⟨L75a, L75n, L75c, Epoch76, hb1, hb2, hb3, hI⟩ := hI
              have h := h m78 ww79 j74 L75a L75n L75c Epoch76 hI
              refine ⟨L25a, L25n, L25c, hb2.celli 0 rfl rfl, ?_⟩
              refine bif_of (fun c80 => ?_) (fun c80 => ?_)
              · have h := h.1 (of_decide_eq_true c80)
                refine thenW_in fun ww81 e81 => ?_
                have hx81 := (Ext.refl no ww79).x_drew e81
                have hb1 := hb1.x_drew e81
                have hb2 := hb2.x_drew e81
                have hb3 := hb3.x_drew e81
                refine ⟨L54a, L54n, L54c, Epoch55, ⟨hb3.celli 0 rfl rfl, hb3.celli 1 rfl rfl, trivial⟩, ?_⟩
                refine ⟨L25a, L25n, L25c, hb2.celli 0 rfl rfl, ?_⟩
                obtain ⟨a82, ha82, h⟩ := h
                refine elim_some ha82 ?_
                obtain ⟨hq1, hq2, h⟩ := h
                refine ⟨hq1, hq2, ?_⟩
                obtain ⟨Who84, hc83, h⟩ := h
                refine ⟨Who84, (hx81).cell hc83 id, ?_⟩
                refine ⟨?_, ?_⟩
                · have h := h ww81 [] hx81 Priv.nil
                  refine h.mono fun ee93 ww94 h => ?_
                  obtain ⟨Who87, Public88, From89, To90, Limit91, find92, he, hkL, hk, h⟩ := h
                  refine ⟨Who87, Public88, From89, To90, Limit91, find92, he, ?_⟩
                  have hb1 := hk.blk hb1 (by simp)
                  have hb2 := hk.blk hb2 (by simp)
                  have hb3 := hk.blk hb3 (by simp)
                  refine thenW_in fun ww95 e95 => ?_
                  have hb4 := Blk.of_new e95
                  have hg4 := ((Ext.refl (fun b => b ∈ ([] : List Nat)) ww94)).size
                  have hb1_4 := Nat.ne_of_lt hb1.lt
                  have hb1 := hb1.x_alloc e95
                  have hb2_4 := Nat.ne_of_lt hb2.lt
                  have hb2 := hb2.x_alloc e95
                  have hb3_4 := Nat.ne_of_lt hb3.lt
                  have hb3 := hb3.x_alloc e95
                  have hx95 := (Ext.refl (fun b => b ∈ ([] : List Nat)) ww94).x_alloc e95
                  refine ⟨hb4.cani 0 rfl rfl, thenW_in fun ww96 e96 => ?_⟩
                  have hx96 := hx95.x_set (q := ww94.heap.size) (i := 0) rfl (.inr hg4) e96
                  have hb1 := hb1.oth (q := ww94.heap.size) (i := 0) rfl hb1_4 e96
                  have hb2 := hb2.oth (q := ww94.heap.size) (i := 0) rfl hb2_4 e96
                  have hb3 := hb3.oth (q := ww94.heap.size) (i := 0) rfl hb3_4 e96
                  have hb4 : Blk ww96 ww94.heap.size 49 [.int .i64 Who87, .int .u64 0, .int .i64 0, .int .i64 0, .int .i64 0] := hb4.seti 0 rfl e96
                  refine ⟨hb4.cani 1 rfl rfl, thenW_in fun ww97 e97 => ?_⟩
                  have hx97 := hx96.x_set (q := ww94.heap.size) (i := 1) rfl (.inr hg4) e97
                  have hb1 := hb1.oth (q := ww94.heap.size) (i := 1) rfl hb1_4 e97
                  have hb2 := hb2.oth (q := ww94.heap.size) (i := 1) rfl hb2_4 e97
                  have hb3 := hb3.oth (q := ww94.heap.size) (i := 1) rfl hb3_4 e97
                  have hb4 : Blk ww97 ww94.heap.size 49 [.int .i64 Who87, .int .u64 Public88, .int .i64 0, .int .i64 0, .int .i64 0] := hb4.seti 1 rfl e97
                  refine ⟨hb4.cani 2 rfl rfl, thenW_in fun ww98 e98 => ?_⟩
                  have hx98 := hx97.x_set (q := ww94.heap.size) (i := 2) rfl (.inr hg4) e98
                  have hb1 := hb1.oth (q := ww94.heap.size) (i := 2) rfl hb1_4 e98
                  have hb2 := hb2.oth (q := ww94.heap.size) (i := 2) rfl hb2_4 e98
                  have hb3 := hb3.oth (q := ww94.heap.size) (i := 2) rfl hb3_4 e98
                  have hb4 : Blk ww98 ww94.heap.size 49 [.int .i64 Who87, .int .u64 Public88, .int .i64 From89, .int .i64 0, .int .i64 0] := hb4.seti 2 rfl e98
                  refine ⟨hb4.cani 3 rfl rfl, thenW_in fun ww99 e99 => ?_⟩
                  have hx99 := hx98.x_set (q := ww94.heap.size) (i := 3) rfl (.inr hg4) e99
                  have hb1 := hb1.oth (q := ww94.heap.size) (i := 3) rfl hb1_4 e99
                  have hb2 := hb2.oth (q := ww94.heap.size) (i := 3) rfl hb2_4 e99
                  have hb3 := hb3.oth (q := ww94.heap.size) (i := 3) rfl hb3_4 e99
                  have hb4 : Blk ww99 ww94.heap.size 49 [.int .i64 Who87, .int .u64 Public88, .int .i64 From89, .int .i64 To90, .int .i64 0] := hb4.seti 3 rfl e99
                  refine ⟨hb4.cani 4 rfl rfl, thenW_in fun ww100 e100 => ?_⟩
                  have hx100 := hx99.x_set (q := ww94.heap.size) (i := 4) rfl (.inr hg4) e100
                  have hb1 := hb1.oth (q := ww94.heap.size) (i := 4) rfl hb1_4 e100
                  have hb2 := hb2.oth (q := ww94.heap.size) (i := 4) rfl hb2_4 e100
                  have hb3 := hb3.oth (q := ww94.heap.size) (i := 4) rfl hb3_4 e100
                  have hb4 : Blk ww100 ww94.heap.size 49 [.int .i64 Who87, .int .u64 Public88, .int .i64 From89, .int .i64 To90, .int .i64 Limit91] := hb4.seti 4 rfl e100
                  refine thenW_in fun ww101 e101 => ?_
                  have hx101 := hx100.x_drew e101
                  have hb1 := hb1.x_drew e101
                  have hb2 := hb2.x_drew e101
                  have hb3 := hb3.x_drew e101
                  have hb4 := hb4.x_drew e101
                  refine bif_of (fun c102 => ?_) (fun c102 => ?_)
                  · have h := h.1 (not_t c102)
                    have h := h ww101 hx101
                    exact h
                  · have h := h.2 (not_f c102)
                    refine ⟨Public88, hb4.celli 1 rfl rfl, ?_⟩
                    refine ⟨L25a, L25n, L25c, hb2.celli 0 rfl rfl, ?_⟩
                    refine elim_some ha82 ?_
                    obtain ⟨hq1, hq2, h⟩ := h
                    refine ⟨hq1, hq2, ?_⟩
                    have h := h ww101 hx101
                    obtain ⟨Public107, hc106, h⟩ := h
                    refine ⟨Public107, hc106, ?_⟩
                    refine bif_of (fun c108 => ?_) (fun c108 => ?_)
                    · have h := h.1 (bne_t c108)
                      exact h
                    · have h := h.2 (bne_f c108)
                      refine ⟨From89, hb4.celli 2 rfl rfl, ?_⟩
                      refine ⟨L25a, L25n, L25c, hb2.celli 0 rfl rfl, ?_⟩
                      refine elim_some ha82 ?_
                      obtain ⟨hq1, hq2, h⟩ := h
                      refine ⟨hq1, hq2, ?_⟩
                      obtain ⟨From110, hc109, h⟩ := h
                      refine ⟨From110, hc109, ?_⟩
                      refine bif_of (fun c111 => ?_) (fun c111 => ?_)
                      · have h := h.1 (bne_t c111)
                        exact h
                      · have h := h.2 (bne_f c111)
                        refine ⟨L25a, L25n, L25c, hb2.celli 0 rfl rfl, ?_⟩
                        refine elim_some ha82 ?_
                        obtain ⟨hq1, hq2, h⟩ := h
                        refine ⟨hq1, hq2, ?_⟩
                        obtain ⟨To113, hc112, h⟩ := h
                        refine ⟨To113, hc112, ?_⟩
                        refine bif_of (fun c114 => ?_) (fun c114 => ?_)
                        · have h := h.1 (bne_t c114)
                          refine ⟨Who87, Public88, From89, To90, Limit91, ⟨hb4.celli 0 rfl rfl, hb4.celli 1 rfl rfl, hb4.celli 2 rfl rfl, hb4.celli 3 rfl rfl, hb4.celli 4 rfl rfl, trivial⟩, ?_⟩
                          refine ⟨L25a, L25n, L25c, hb2.celli 0 rfl rfl, ?_⟩
                          refine elim_some ha82 ?_
                          obtain ⟨hq1, hq2, h⟩ := h
                          refine ⟨hq1, hq2, ?_⟩
                          obtain ⟨xWho116, xPublic117, xFrom118, xTo119, xLimit120, hc115, h⟩ := h
                          refine ⟨xWho116, xPublic117, xFrom118, xTo119, xLimit120, hc115, ?_⟩
                          refine (cachettelaw12_member.pure Who87 Public88 From89 To90 Limit91).mono fun ee ww121 ⟨he, hxx⟩ => ⟨((cachettelaw12_member.F Who87 Public88 From89 To90 Limit91).1), ((cachettelaw12_member.F Who87 Public88 From89 To90 Limit91).2.1), ((cachettelaw12_member.F Who87 Public88 From89 To90 Limit91).2.2.1), ((cachettelaw12_member.F Who87 Public88 From89 To90 Limit91).2.2.2.1), ((cachettelaw12_member.F Who87 Public88 From89 To90 Limit91).2.2.2.2), he, ?_⟩
                          have hx121 := (Ext.refl no ww101).trans hxx
                          have hb1 := hb1.ext hxx id
                          have hb2 := hb2.ext hxx id
                          have hb3 := hb3.ext hxx id
                          refine ⟨cellsAt_no (hx121) hc115, hb2.celli 0 rfl rfl, ?_⟩
                          refine ⟨_, eqT52_ne ((cachettelaw12_member.F Who87 Public88 From89 To90 Limit91).1) ((cachettelaw12_member.F Who87 Public88 From89 To90 Limit91).2.1) ((cachettelaw12_member.F Who87 Public88 From89 To90 Limit91).2.2.1) ((cachettelaw12_member.F Who87 Public88 From89 To90 Limit91).2.2.2.1) ((cachettelaw12_member.F Who87 Public88 From89 To90 Limit91).2.2.2.2) xWho116 xPublic117 xFrom118 xTo119 xLimit120 _, ?_⟩
                          refine bif_of (fun c122 => ?_) (fun c122 => ?_)
                          · have h := h.1 (of_decide_eq_false (not_t c122))
                            have h := h ww121 hx121
                            exact h
                          · have h := h.2 (of_decide_eq_true (not_f c122))
                            obtain ⟨hw1, hw2, h⟩ := h
                            try rw [w64 hw1 hw2]
                            have h := h ww121 hx121
                            obtain ⟨m123, hk, h⟩ := h
                            exact ⟨m123, hk, L75a, L75n, L75c, Epoch76, hb1, hb2, hb3, h⟩
                        · have h := h.2 (bne_f c114)
                          obtain ⟨hw1, hw2, h⟩ := h
                          try rw [w64 hw1 hw2]
                          obtain ⟨m124, hk, h⟩ := h
                          exact ⟨m124, hk, L75a, L75n, L75c, Epoch76, hb1, hb2, hb3, h⟩
                · refine thenW_in fun ww85 e85 => ?_
                  have hb4 := Blk.of_new e85
                  have hg4 := (hx81).size
                  have hb1_4 := Nat.ne_of_lt hb1.lt
                  have hb1 := hb1.x_alloc e85
                  have hb2_4 := Nat.ne_of_lt hb2.lt
                  have hb2 := hb2.x_alloc e85
                  have hb3_4 := Nat.ne_of_lt hb3.lt
                  have hb3 := hb3.x_alloc e85
                  have hx85 := hx81.x_alloc e85
                  refine ⟨(hx85).cell hc83 id, hb2.celli 0 rfl rfl, ⟨hb3.celli 0 rfl rfl, hb3.celli 1 rfl rfl, trivial⟩, ?_⟩
                  have h := h ww85 [ww81.heap.size] hx85 (Priv.cons hg4 hb4.lt Priv.nil)
                  refine h.mono fun ee94 ww95 h => ?_
                  obtain ⟨Who88, Public89, From90, To91, Limit92, find93, he, hkL, hk, h⟩ := h
                  refine ⟨Who88, Public89, From90, To91, Limit92, find93, he, ?_⟩
                  have hb4 := hkL.blk hb4 (by simp)
                  have hb1 := hk.blk hb1 (by simp)
                  have hb2 := hk.blk hb2 (by simp)
                  have hb3 := hk.blk hb3 (by simp)
                  refine ⟨hb4.cani 0 rfl rfl, thenW_in fun ww96 e96 => ?_⟩
                  have hx96 := (Ext.refl (fun b => b ∈ ([ww81.heap.size] : List Nat)) ww95).x_set (q := ww81.heap.size) (i := 0) rfl (.inl (by simp)) e96
                  have hb1 := hb1.oth (q := ww81.heap.size) (i := 0) rfl hb1_4 e96
                  have hb2 := hb2.oth (q := ww81.heap.size) (i := 0) rfl hb2_4 e96
                  have hb3 := hb3.oth (q := ww81.heap.size) (i := 0) rfl hb3_4 e96
                  have hb4 : Blk ww96 ww81.heap.size 49 [.int .i64 Who88, .int .u64 0, .int .i64 0, .int .i64 0, .int .i64 0] := hb4.seti 0 rfl e96
                  refine ⟨hb4.cani 1 rfl rfl, thenW_in fun ww97 e97 => ?_⟩
                  have hx97 := hx96.x_set (q := ww81.heap.size) (i := 1) rfl (.inl (by simp)) e97
                  have hb1 := hb1.oth (q := ww81.heap.size) (i := 1) rfl hb1_4 e97
                  have hb2 := hb2.oth (q := ww81.heap.size) (i := 1) rfl hb2_4 e97
                  have hb3 := hb3.oth (q := ww81.heap.size) (i := 1) rfl hb3_4 e97
                  have hb4 : Blk ww97 ww81.heap.size 49 [.int .i64 Who88, .int .u64 Public89, .int .i64 0, .int .i64 0, .int .i64 0] := hb4.seti 1 rfl e97
                  refine ⟨hb4.cani 2 rfl rfl, thenW_in fun ww98 e98 => ?_⟩
                  have hx98 := hx97.x_set (q := ww81.heap.size) (i := 2) rfl (.inl (by simp)) e98
                  have hb1 := hb1.oth (q := ww81.heap.size) (i := 2) rfl hb1_4 e98
                  have hb2 := hb2.oth (q := ww81.heap.size) (i := 2) rfl hb2_4 e98
                  have hb3 := hb3.oth (q := ww81.heap.size) (i := 2) rfl hb3_4 e98
                  have hb4 : Blk ww98 ww81.heap.size 49 [.int .i64 Who88, .int .u64 Public89, .int .i64 From90, .int .i64 0, .int .i64 0] := hb4.seti 2 rfl e98
                  refine ⟨hb4.cani 3 rfl rfl, thenW_in fun ww99 e99 => ?_⟩
                  have hx99 := hx98.x_set (q := ww81.heap.size) (i := 3) rfl (.inl (by simp)) e99
                  have hb1 := hb1.oth (q := ww81.heap.size) (i := 3) rfl hb1_4 e99
                  have hb2 := hb2.oth (q := ww81.heap.size) (i := 3) rfl hb2_4 e99
                  have hb3 := hb3.oth (q := ww81.heap.size) (i := 3) rfl hb3_4 e99
                  have hb4 : Blk ww99 ww81.heap.size 49 [.int .i64 Who88, .int .u64 Public89, .int .i64 From90, .int .i64 To91, .int .i64 0] := hb4.seti 3 rfl e99
                  refine ⟨hb4.cani 4 rfl rfl, thenW_in fun ww100 e100 => ?_⟩
                  have hx100 := hx99.x_set (q := ww81.heap.size) (i := 4) rfl (.inl (by simp)) e100
                  have hb1 := hb1.oth (q := ww81.heap.size) (i := 4) rfl hb1_4 e100
                  have hb2 := hb2.oth (q := ww81.heap.size) (i := 4) rfl hb2_4 e100
                  have hb3 := hb3.oth (q := ww81.heap.size) (i := 4) rfl hb3_4 e100
                  have hb4 : Blk ww100 ww81.heap.size 49 [.int .i64 Who88, .int .u64 Public89, .int .i64 From90, .int .i64 To91, .int .i64 Limit92] := hb4.seti 4 rfl e100
                  refine thenW_in fun ww101 e101 => ?_
                  have hx101 := hx100.x_drew e101
                  have hb1 := hb1.x_drew e101
                  have hb2 := hb2.x_drew e101
                  have hb3 := hb3.x_drew e101
                  have hb4 := hb4.x_drew e101
                  refine bif_of (fun c102 => ?_) (fun c102 => ?_)
                  · have h := h.1 (not_t c102)
                    have h := h ww101 hx101
                    exact h
                  · have h := h.2 (not_f c102)
                    refine ⟨Public89, hb4.celli 1 rfl rfl, ?_⟩
                    refine ⟨L25a, L25n, L25c, hb2.celli 0 rfl rfl, ?_⟩
                    refine elim_some ha82 ?_
                    obtain ⟨hq1, hq2, h⟩ := h
                    refine ⟨hq1, hq2, ?_⟩
                    have h := h ww101 hx101
                    obtain ⟨Public107, hc106, h⟩ := h
                    refine ⟨Public107, hc106, ?_⟩
                    refine bif_of (fun c108 => ?_) (fun c108 => ?_)
                    · have h := h.1 (bne_t c108)
                      exact h
                    · have h := h.2 (bne_f c108)
                      refine ⟨From90, hb4.celli 2 rfl rfl, ?_⟩
                      refine ⟨L25a, L25n, L25c, hb2.celli 0 rfl rfl, ?_⟩
                      refine elim_some ha82 ?_
                      obtain ⟨hq1, hq2, h⟩ := h
                      refine ⟨hq1, hq2, ?_⟩
                      obtain ⟨From110, hc109, h⟩ := h
                      refine ⟨From110, hc109, ?_⟩
                      refine bif_of (fun c111 => ?_) (fun c111 => ?_)
                      · have h := h.1 (bne_t c111)
                        exact h
                      · have h := h.2 (bne_f c111)
                        refine ⟨L25a, L25n, L25c, hb2.celli 0 rfl rfl, ?_⟩
                        refine elim_some ha82 ?_
                        obtain ⟨hq1, hq2, h⟩ := h
                        refine ⟨hq1, hq2, ?_⟩
                        obtain ⟨To113, hc112, h⟩ := h
                        refine ⟨To113, hc112, ?_⟩
                        refine bif_of (fun c114 => ?_) (fun c114 => ?_)
                        · have h := h.1 (bne_t c114)
                          refine ⟨Who88, Public89, From90, To91, Limit92, ⟨hb4.celli 0 rfl rfl, hb4.celli 1 rfl rfl, hb4.celli 2 rfl rfl, hb4.celli 3 rfl rfl, hb4.celli 4 rfl rfl, trivial⟩, ?_⟩
                          refine ⟨L25a, L25n, L25c, hb2.celli 0 rfl rfl, ?_⟩
                          refine elim_some ha82 ?_
                          obtain ⟨hq1, hq2, h⟩ := h
                          refine ⟨hq1, hq2, ?_⟩
                          obtain ⟨xWho116, xPublic117, xFrom118, xTo119, xLimit120, hc115, h⟩ := h
                          refine ⟨xWho116, xPublic117, xFrom118, xTo119, xLimit120, hc115, ?_⟩
                          refine (cachettelaw12_member.pure Who88 Public89 From90 To91 Limit92).mono fun ee ww121 ⟨he, hxx⟩ => ⟨((cachettelaw12_member.F Who88 Public89 From90 To91 Limit92).1), ((cachettelaw12_member.F Who88 Public89 From90 To91 Limit92).2.1), ((cachettelaw12_member.F Who88 Public89 From90 To91 Limit92).2.2.1), ((cachettelaw12_member.F Who88 Public89 From90 To91 Limit92).2.2.2.1), ((cachettelaw12_member.F Who88 Public89 From90 To91 Limit92).2.2.2.2), he, ?_⟩
                          have hx121 := (Ext.refl no ww101).trans hxx
                          have hb1 := hb1.ext hxx id
                          have hb2 := hb2.ext hxx id
                          have hb3 := hb3.ext hxx id
                          refine ⟨cellsAt_no (hx121) hc115, hb2.celli 0 rfl rfl, ?_⟩
                          refine ⟨_, eqT52_ne ((cachettelaw12_member.F Who88 Public89 From90 To91 Limit92).1) ((cachettelaw12_member.F Who88 Public89 From90 To91 Limit92).2.1) ((cachettelaw12_member.F Who88 Public89 From90 To91 Limit92).2.2.1) ((cachettelaw12_member.F Who88 Public89 From90 To91 Limit92).2.2.2.1) ((cachettelaw12_member.F Who88 Public89 From90 To91 Limit92).2.2.2.2) xWho116 xPublic117 xFrom118 xTo119 xLimit120 _, ?_⟩
                          refine bif_of (fun c122 => ?_) (fun c122 => ?_)
                          · have h := h.1 (of_decide_eq_false (not_t c122))
                            have h := h ww121 hx121
                            exact h
                          · have h := h.2 (of_decide_eq_true (not_f c122))
                            obtain ⟨hw1, hw2, h⟩ := h
                            try rw [w64 hw1 hw2]
                            have h := h ww121 hx121
                            obtain ⟨m123, hk, h⟩ := h
                            exact ⟨m123, hk, L75a, L75n, L75c, Epoch76, hb1, hb2, hb3, h⟩
                        · have h := h.2 (bne_f c114)
                          obtain ⟨hw1, hw2, h⟩ := h
                          try rw [w64 hw1 hw2]
                          obtain ⟨m124, hk, h⟩ := h
                          exact ⟨m124, hk, L75a, L75n, L75c, Epoch76, hb1, hb2, hb3, h⟩
              · have h := h.2 (Int.not_lt.1 (of_decide_eq_false c80))
                obtain ⟨I4, m129, h0, h⟩ := h
                refine ⟨fun k vs ww => ∃ (L127a : Option Addr) (L127n : Nat) (L127c : Nat) (Epoch128 : Int), Blk ww ww13.heap.size 28 [.slice L127a L127n L127c, .int .i64 Epoch128] ∧ Blk ww ww28.heap.size 45 [.slice L25a L25n L25c, .int .i64 Epoch26] ∧ Blk ww ww50.heap.size 28 [.slice L54a L54n L54c, .int .i64 Epoch55] ∧ I4 k (vs ++ [.slice L127a L127n L127c, .int .i64 Epoch128]) ww, m129, ⟨L75a, L75n, L75c, Epoch76, hb1, hb2, hb3, h0⟩, fun m130 ww131 j126 hI => ?_⟩
                obtain ⟨L127a, L127n, L127c, Epoch128, hb1, hb2, hb3, hI⟩ := hI
                have h := h m130 ww131 j126 L127a L127n L127c Epoch128 hI
                refine ⟨L54a, L54n, L54c, hb3.celli 0 rfl rfl, ?_⟩
                refine bif_of (fun c132 => ?_) (fun c132 => ?_)
                · have h := h.1 (of_decide_eq_true c132)
                  refine thenW_in fun ww133 e133 => ?_
                  have hx133 := (Ext.refl no ww131).x_drew e133
                  have hb1 := hb1.x_drew e133
                  have hb2 := hb2.x_drew e133
                  have hb3 := hb3.x_drew e133
                  refine ⟨L54a, L54n, L54c, hb3.celli 0 rfl rfl, ?_⟩
                  obtain ⟨hw1, hw2, h⟩ := h
                  try rw [w64 hw1 hw2]
                  obtain ⟨a134, ha134, h⟩ := h
                  refine elim_some ha134 ?_
                  obtain ⟨hq1, hq2, h⟩ := h
                  refine ⟨hq1, hq2, ?_⟩
                  obtain ⟨Who136, hc135, h⟩ := h
                  refine ⟨Who136, (hx133).cell hc135 id, ?_⟩
                  refine ⟨L54a, L54n, L54c, hb3.celli 0 rfl rfl, ?_⟩
                  refine elim_some ha134 ?_
                  obtain ⟨hq1, hq2, h⟩ := h
                  refine ⟨hq1, hq2, ?_⟩
                  obtain ⟨Who138, hc137, h⟩ := h
                  refine ⟨Who138, (hx133).cell hc137 id, ?_⟩
                  refine bif_of (fun c139 => ?_) (fun c139 => ?_)
                  · have h := h.1 (of_decide_eq_true c139)
                    have h := h ww133 hx133
                    exact h
                  · have h := h.2 (Int.not_le.1 (of_decide_eq_false c139))
                    obtain ⟨hw1, hw2, h⟩ := h
                    try rw [w64 hw1 hw2]
                    have h := h ww133 hx133
                    obtain ⟨m140, hk, h⟩ := h
                    exact ⟨m140, hk, L127a, L127n, L127c, Epoch128, hb1, hb2, hb3, h⟩
                · have h := h.2 (Int.not_lt.1 (of_decide_eq_false c132))
                  refine ⟨Epoch55, hb3.celli 1 rfl rfl, ?_⟩
                  refine ⟨Epoch26, hb2.celli 1 rfl rfl, ?_⟩
                  refine bif_of (fun c141 => ?_) (fun c141 => ?_)
                  · have h := h.1 (of_decide_eq_true c141)
                    exact h
                  · have h := h.2 (Int.not_lt.1 (of_decide_eq_false c141))
                    refine ⟨Epoch55, hb3.celli 1 rfl rfl, ?_⟩
                    refine ⟨Epoch26, hb2.celli 1 rfl rfl, ?_⟩
                    obtain ⟨hw1, hw2, h⟩ := h
                    try rw [w64 hw1 hw2]
                    refine bif_of (fun c142 => ?_) (fun c142 => ?_)
                    · have h := h.1 (of_decide_eq_true c142)
                      exact h
                    · have h := h.2 (Int.not_lt.1 (of_decide_eq_false c142))
                      refine ⟨L54a, L54n, L54c, Epoch55, ⟨hb3.celli 0 rfl rfl, hb3.celli 1 rfl rfl, trivial⟩, ?_⟩
                      have hm144 : Ext (fun b => b = ww13.heap.size) ww131 ww131 := ((Ext.refl no ww131)).none
                      refine ⟨hb1.cani 0 rfl rfl, thenW_in fun ww143 e143 => ?_⟩
                      have hx143 := hm144.x_set (q := ww13.heap.size) (i := 0) rfl (.inl rfl) e143
                      have hb1 := hb1.seti 0 rfl e143
                      refine ⟨hb1.cani 1 rfl rfl, thenW_in fun ww144 e144 => ?_⟩
                      have hx144 := hx143.x_set (q := ww13.heap.size) (i := 1) rfl (.inl rfl) e144
                      have hb1 := hb1.seti 1 rfl e144
                      obtain ⟨hw1, hw2, h⟩ := h
                      try rw [w64 hw1 hw2]
                      have h := h ww144 hx144
                      obtain ⟨m145, hk, h⟩ := h
                      exact ⟨m145, hk, L54a, L54n, L54c, Epoch55, hb1, h⟩
      · refine thenW_in fun ww41 e41 => ?_
        have hb3 := Blk.of_new e41
        have hg3 := (hx32).size
        have hb1_3 := Nat.ne_of_lt hb1.lt
        have hb1 := hb1.x_alloc e41
        have hb2_3 := Nat.ne_of_lt hb2.lt
        have hb2 := hb2.x_alloc e41
        have hx41 := hx32.x_alloc e41
        refine ⟨cellsAt_no (hx41) hc34, ⟨hb1.celli 0 rfl rfl, hb1.celli 1 rfl rfl, trivial⟩, ?_⟩
        have h := h ww41 [ww28.heap.size, ww32.heap.size] hx41 (Priv.cons hg2 hb2.lt (Priv.cons hg3 hb3.lt Priv.nil))
        refine h.mono fun ee50 ww51 h => ?_
        obtain ⟨Kind44, Who45, Public46, Limit47, Wraps48a, Wraps48n, Wraps48c, Old49a, Old49n, Old49c, he, hkL, hk, h⟩ := h
        refine ⟨Kind44, Who45, Public46, Limit47, Wraps48a, Wraps48n, Wraps48c, Old49a, Old49n, Old49c, he, ?_⟩
        have hb2 := hkL.blk hb2 (by simp)
        have hb3 := hkL.blk hb3 (by simp)
        have hb1 := hk.blk hb1 (by simp)
        refine ⟨⟨hb1.celli 0 rfl rfl, hb1.celli 1 rfl rfl, trivial⟩, ?_⟩
        have h := h ww51 [ww28.heap.size, ww32.heap.size] (Ext.refl (fun b => b ∈ ([ww28.heap.size, ww32.heap.size] : List Nat)) ww51) (PrivJ.cons (.inl (by simp)) hb2.lt (PrivJ.cons (.inl (by simp)) hb3.lt PrivJ.nil))
        refine h.mono fun ee57 ww58 h => ?_
        obtain ⟨L54a, L54n, L54c, Epoch55, apply56, he, hkL, hk, h⟩ := h
        refine ⟨L54a, L54n, L54c, Epoch55, apply56, he, ?_⟩
        have hb2 := hkL.blk hb2 (by simp)
        have hb3 := hkL.blk hb3 (by simp)
        have hb1 := hk.blk hb1 (by simp)
        refine ⟨hb3.cani 0 rfl rfl, thenW_in fun ww59 e59 => ?_⟩
        have hx59 := (Ext.refl (fun b => b ∈ ([ww28.heap.size, ww32.heap.size] : List Nat)) ww58).x_set (q := ww32.heap.size) (i := 0) rfl (.inl (by simp)) e59
        have hb1 := hb1.oth (q := ww32.heap.size) (i := 0) rfl hb1_3 e59
        have hb2 := hb2.oth (q := ww32.heap.size) (i := 0) rfl hb2_3 e59
        have hb3 := hb3.seti 0 rfl e59
        refine ⟨hb3.cani 1 rfl rfl, thenW_in fun ww60 e60 => ?_⟩
        have hx60 := hx59.x_set (q := ww32.heap.size) (i := 1) rfl (.inl (by simp)) e60
        have hb1 := hb1.oth (q := ww32.heap.size) (i := 1) rfl hb1_3 e60
        have hb2 := hb2.oth (q := ww32.heap.size) (i := 1) rfl hb2_3 e60
        have hb3 := hb3.seti 1 rfl e60
        refine thenW_in fun ww61 e61 => ?_
        have hx61 := hx60.x_drew e61
        have hb1 := hb1.x_drew e61
        have hb2 := hb2.x_drew e61
        have hb3 := hb3.x_drew e61
        refine ⟨L19a, L19n, L19c, Epoch20, ⟨hb1.celli 0 rfl rfl, hb1.celli 1 rfl rfl, trivial⟩, ?_⟩
        refine ⟨L25a, L25n, L25c, Epoch26, ⟨hb2.celli 0 rfl rfl, hb2.celli 1 rfl rfl, trivial⟩, ?_⟩
        have h := h ww61 (ww28.heap.size) (ww32.heap.size) hx61 (PrivJ.cons (.inl (by simp)) hb2.lt (PrivJ.cons (.inl (by simp)) hb3.lt PrivJ.nil))
        refine h.mono fun ee66 ww67 h => ?_
        obtain ⟨L64a, L64n, L64c, Epoch65, he, hk, h⟩ := h
        refine ⟨L64a, L64n, L64c, Epoch65, he, ?_⟩
        have hb1 := hk.blk hb1 (by simp)
        have hb2 := hk.blk hb2 (by simp)
        have hb3 := hk.blk hb3 (by simp)
        refine ⟨⟨hb2.celli 0 rfl rfl, hb2.celli 1 rfl rfl, trivial⟩, ?_⟩
        refine h.mono fun ee69 ww70 h => ?_
        obtain ⟨same68, he, hk, h⟩ := h
        refine ⟨same68, he, ?_⟩
        have hb1 := hk.blk hb1 (by simp)
        have hb2 := hk.blk hb2 (by simp)
        have hb3 := hk.blk hb3 (by simp)
        refine bif_of (fun c71 => ?_) (fun c71 => ?_)
        · have h := h.1 (not_t c71)
          exact h
        · have h := h.2 (not_f c71)
          refine bif_of (fun c72 => ?_) (fun c72 => ?_)
          · have h := h.1 (bne_t c72)
            obtain ⟨hw1, hw2, h⟩ := h
            try rw [w64 hw1 hw2]
            obtain ⟨m73, hk, h⟩ := h
            exact ⟨m73, hk, L19a, L19n, L19c, Epoch20, hb1, h⟩
          · have h := h.2 (bne_f c72)
            obtain ⟨I2, m77, h0, h⟩ := h
            refine ⟨fun k vs ww => ∃ (L75a : Option Addr) (L75n : Nat) (L75c : Nat) (Epoch76 : Int), Blk ww ww13.heap.size 28 [.slice L75a L75n L75c, .int .i64 Epoch76] ∧ Blk ww ww28.heap.size 45 [.slice L25a L25n L25c, .int .i64 Epoch26] ∧ Blk ww ww32.heap.size 28 [.slice L54a L54n L54c, .int .i64 Epoch55] ∧ I2 k (vs ++ [.slice L75a L75n L75c, .int .i64 Epoch76]) ww, m77, ⟨L19a, L19n, L19c, Epoch20, hb1, hb2, hb3, h0⟩, fun m78 ww79 j74 hI => ?_⟩
            obtain ⟨L75a, L75n, L75c, Epoch76, hb1, hb2, hb3, hI⟩ := hI
            have h := h m78 ww79 j74 L75a L75n L75c Epoch76 hI
            refine ⟨L25a, L25n, L25c, hb2.celli 0 rfl rfl, ?_⟩
            refine bif_of (fun c80 => ?_) (fun c80 => ?_)
            · have h := h.1 (of_decide_eq_true c80)
              refine thenW_in fun ww81 e81 => ?_
              have hx81 := (Ext.refl no ww79).x_drew e81
              have hb1 := hb1.x_drew e81
              have hb2 := hb2.x_drew e81
              have hb3 := hb3.x_drew e81
              refine ⟨L54a, L54n, L54c, Epoch55, ⟨hb3.celli 0 rfl rfl, hb3.celli 1 rfl rfl, trivial⟩, ?_⟩
              refine ⟨L25a, L25n, L25c, hb2.celli 0 rfl rfl, ?_⟩
              obtain ⟨a82, ha82, h⟩ := h
              refine elim_some ha82 ?_
              obtain ⟨hq1, hq2, h⟩ := h
              refine ⟨hq1, hq2, ?_⟩
              obtain ⟨Who84, hc83, h⟩ := h
              refine ⟨Who84, (hx81).cell hc83 id, ?_⟩
              refine ⟨?_, ?_⟩
              · have h := h ww81 [] hx81 Priv.nil
                refine h.mono fun ee93 ww94 h => ?_
                obtain ⟨Who87, Public88, From89, To90, Limit91, find92, he, hkL, hk, h⟩ := h
                refine ⟨Who87, Public88, From89, To90, Limit91, find92, he, ?_⟩
                have hb1 := hk.blk hb1 (by simp)
                have hb2 := hk.blk hb2 (by simp)
                have hb3 := hk.blk hb3 (by simp)
                refine thenW_in fun ww95 e95 => ?_
                have hb4 := Blk.of_new e95
                have hg4 := ((Ext.refl (fun b => b ∈ ([] : List Nat)) ww94)).size
                have hb1_4 := Nat.ne_of_lt hb1.lt
                have hb1 := hb1.x_alloc e95
                have hb2_4 := Nat.ne_of_lt hb2.lt
                have hb2 := hb2.x_alloc e95
                have hb3_4 := Nat.ne_of_lt hb3.lt
                have hb3 := hb3.x_alloc e95
                have hx95 := (Ext.refl (fun b => b ∈ ([] : List Nat)) ww94).x_alloc e95
                refine ⟨hb4.cani 0 rfl rfl, thenW_in fun ww96 e96 => ?_⟩
                have hx96 := hx95.x_set (q := ww94.heap.size) (i := 0) rfl (.inr hg4) e96
                have hb1 := hb1.oth (q := ww94.heap.size) (i := 0) rfl hb1_4 e96
                have hb2 := hb2.oth (q := ww94.heap.size) (i := 0) rfl hb2_4 e96
                have hb3 := hb3.oth (q := ww94.heap.size) (i := 0) rfl hb3_4 e96
                have hb4 : Blk ww96 ww94.heap.size 49 [.int .i64 Who87, .int .u64 0, .int .i64 0, .int .i64 0, .int .i64 0] := hb4.seti 0 rfl e96
                refine ⟨hb4.cani 1 rfl rfl, thenW_in fun ww97 e97 => ?_⟩
                have hx97 := hx96.x_set (q := ww94.heap.size) (i := 1) rfl (.inr hg4) e97
                have hb1 := hb1.oth (q := ww94.heap.size) (i := 1) rfl hb1_4 e97
                have hb2 := hb2.oth (q := ww94.heap.size) (i := 1) rfl hb2_4 e97
                have hb3 := hb3.oth (q := ww94.heap.size) (i := 1) rfl hb3_4 e97
                have hb4 : Blk ww97 ww94.heap.size 49 [.int .i64 Who87, .int .u64 Public88, .int .i64 0, .int .i64 0, .int .i64 0] := hb4.seti 1 rfl e97
                refine ⟨hb4.cani 2 rfl rfl, thenW_in fun ww98 e98 => ?_⟩
                have hx98 := hx97.x_set (q := ww94.heap.size) (i := 2) rfl (.inr hg4) e98
                have hb1 := hb1.oth (q := ww94.heap.size) (i := 2) rfl hb1_4 e98
                have hb2 := hb2.oth (q := ww94.heap.size) (i := 2) rfl hb2_4 e98
                have hb3 := hb3.oth (q := ww94.heap.size) (i := 2) rfl hb3_4 e98
                have hb4 : Blk ww98 ww94.heap.size 49 [.int .i64 Who87, .int .u64 Public88, .int .i64 From89, .int .i64 0, .int .i64 0] := hb4.seti 2 rfl e98
                refine ⟨hb4.cani 3 rfl rfl, thenW_in fun ww99 e99 => ?_⟩
                have hx99 := hx98.x_set (q := ww94.heap.size) (i := 3) rfl (.inr hg4) e99
                have hb1 := hb1.oth (q := ww94.heap.size) (i := 3) rfl hb1_4 e99
                have hb2 := hb2.oth (q := ww94.heap.size) (i := 3) rfl hb2_4 e99
                have hb3 := hb3.oth (q := ww94.heap.size) (i := 3) rfl hb3_4 e99
                have hb4 : Blk ww99 ww94.heap.size 49 [.int .i64 Who87, .int .u64 Public88, .int .i64 From89, .int .i64 To90, .int .i64 0] := hb4.seti 3 rfl e99
                refine ⟨hb4.cani 4 rfl rfl, thenW_in fun ww100 e100 => ?_⟩
                have hx100 := hx99.x_set (q := ww94.heap.size) (i := 4) rfl (.inr hg4) e100
                have hb1 := hb1.oth (q := ww94.heap.size) (i := 4) rfl hb1_4 e100
                have hb2 := hb2.oth (q := ww94.heap.size) (i := 4) rfl hb2_4 e100
                have hb3 := hb3.oth (q := ww94.heap.size) (i := 4) rfl hb3_4 e100
                have hb4 : Blk ww100 ww94.heap.size 49 [.int .i64 Who87, .int .u64 Public88, .int .i64 From89, .int .i64 To90, .int .i64 Limit91] := hb4.seti 4 rfl e100
                refine thenW_in fun ww101 e101 => ?_
                have hx101 := hx100.x_drew e101
                have hb1 := hb1.x_drew e101
                have hb2 := hb2.x_drew e101
                have hb3 := hb3.x_drew e101
                have hb4 := hb4.x_drew e101
                refine bif_of (fun c102 => ?_) (fun c102 => ?_)
                · have h := h.1 (not_t c102)
                  have h := h ww101 hx101
                  exact h
                · have h := h.2 (not_f c102)
                  refine ⟨Public88, hb4.celli 1 rfl rfl, ?_⟩
                  refine ⟨L25a, L25n, L25c, hb2.celli 0 rfl rfl, ?_⟩
                  refine elim_some ha82 ?_
                  obtain ⟨hq1, hq2, h⟩ := h
                  refine ⟨hq1, hq2, ?_⟩
                  have h := h ww101 hx101
                  obtain ⟨Public107, hc106, h⟩ := h
                  refine ⟨Public107, hc106, ?_⟩
                  refine bif_of (fun c108 => ?_) (fun c108 => ?_)
                  · have h := h.1 (bne_t c108)
                    exact h
                  · have h := h.2 (bne_f c108)
                    refine ⟨From89, hb4.celli 2 rfl rfl, ?_⟩
                    refine ⟨L25a, L25n, L25c, hb2.celli 0 rfl rfl, ?_⟩
                    refine elim_some ha82 ?_
                    obtain ⟨hq1, hq2, h⟩ := h
                    refine ⟨hq1, hq2, ?_⟩
                    obtain ⟨From110, hc109, h⟩ := h
                    refine ⟨From110, hc109, ?_⟩
                    refine bif_of (fun c111 => ?_) (fun c111 => ?_)
                    · have h := h.1 (bne_t c111)
                      exact h
                    · have h := h.2 (bne_f c111)
                      refine ⟨L25a, L25n, L25c, hb2.celli 0 rfl rfl, ?_⟩
                      refine elim_some ha82 ?_
                      obtain ⟨hq1, hq2, h⟩ := h
                      refine ⟨hq1, hq2, ?_⟩
                      obtain ⟨To113, hc112, h⟩ := h
                      refine ⟨To113, hc112, ?_⟩
                      refine bif_of (fun c114 => ?_) (fun c114 => ?_)
                      · have h := h.1 (bne_t c114)
                        refine ⟨Who87, Public88, From89, To90, Limit91, ⟨hb4.celli 0 rfl rfl, hb4.celli 1 rfl rfl, hb4.celli 2 rfl rfl, hb4.celli 3 rfl rfl, hb4.celli 4 rfl rfl, trivial⟩, ?_⟩
                        refine ⟨L25a, L25n, L25c, hb2.celli 0 rfl rfl, ?_⟩
                        refine elim_some ha82 ?_
                        obtain ⟨hq1, hq2, h⟩ := h
                        refine ⟨hq1, hq2, ?_⟩
                        obtain ⟨xWho116, xPublic117, xFrom118, xTo119, xLimit120, hc115, h⟩ := h
                        refine ⟨xWho116, xPublic117, xFrom118, xTo119, xLimit120, hc115, ?_⟩
                        refine (cachettelaw12_member.pure Who87 Public88 From89 To90 Limit91).mono fun ee ww121 ⟨he, hxx⟩ => ⟨((cachettelaw12_member.F Who87 Public88 From89 To90 Limit91).1), ((cachettelaw12_member.F Who87 Public88 From89 To90 Limit91).2.1), ((cachettelaw12_member.F Who87 Public88 From89 To90 Limit91).2.2.1), ((cachettelaw12_member.F Who87 Public88 From89 To90 Limit91).2.2.2.1), ((cachettelaw12_member.F Who87 Public88 From89 To90 Limit91).2.2.2.2), he, ?_⟩
                        have hx121 := (Ext.refl no ww101).trans hxx
                        have hb1 := hb1.ext hxx id
                        have hb2 := hb2.ext hxx id
                        have hb3 := hb3.ext hxx id
                        refine ⟨cellsAt_no (hx121) hc115, hb2.celli 0 rfl rfl, ?_⟩
                        refine ⟨_, eqT52_ne ((cachettelaw12_member.F Who87 Public88 From89 To90 Limit91).1) ((cachettelaw12_member.F Who87 Public88 From89 To90 Limit91).2.1) ((cachettelaw12_member.F Who87 Public88 From89 To90 Limit91).2.2.1) ((cachettelaw12_member.F Who87 Public88 From89 To90 Limit91).2.2.2.1) ((cachettelaw12_member.F Who87 Public88 From89 To90 Limit91).2.2.2.2) xWho116 xPublic117 xFrom118 xTo119 xLimit120 _, ?_⟩
                        refine bif_of (fun c122 => ?_) (fun c122 => ?_)
                        · have h := h.1 (of_decide_eq_false (not_t c122))
                          have h := h ww121 hx121
                          exact h
                        · have h := h.2 (of_decide_eq_true (not_f c122))
                          obtain ⟨hw1, hw2, h⟩ := h
                          try rw [w64 hw1 hw2]
                          have h := h ww121 hx121
                          obtain ⟨m123, hk, h⟩ := h
                          exact ⟨m123, hk, L75a, L75n, L75c, Epoch76, hb1, hb2, hb3, h⟩
                      · have h := h.2 (bne_f c114)
                        obtain ⟨hw1, hw2, h⟩ := h
                        try rw [w64 hw1 hw2]
                        obtain ⟨m124, hk, h⟩ := h
                        exact ⟨m124, hk, L75a, L75n, L75c, Epoch76, hb1, hb2, hb3, h⟩
              · refine thenW_in fun ww85 e85 => ?_
                have hb4 := Blk.of_new e85
                have hg4 := (hx81).size
                have hb1_4 := Nat.ne_of_lt hb1.lt
                have hb1 := hb1.x_alloc e85
                have hb2_4 := Nat.ne_of_lt hb2.lt
                have hb2 := hb2.x_alloc e85
                have hb3_4 := Nat.ne_of_lt hb3.lt
                have hb3 := hb3.x_alloc e85
                have hx85 := hx81.x_alloc e85
                refine ⟨(hx85).cell hc83 id, hb2.celli 0 rfl rfl, ⟨hb3.celli 0 rfl rfl, hb3.celli 1 rfl rfl, trivial⟩, ?_⟩
                have h := h ww85 [ww81.heap.size] hx85 (Priv.cons hg4 hb4.lt Priv.nil)
                refine h.mono fun ee94 ww95 h => ?_
                obtain ⟨Who88, Public89, From90, To91, Limit92, find93, he, hkL, hk, h⟩ := h
                refine ⟨Who88, Public89, From90, To91, Limit92, find93, he, ?_⟩
                have hb4 := hkL.blk hb4 (by simp)
                have hb1 := hk.blk hb1 (by simp)
                have hb2 := hk.blk hb2 (by simp)
                have hb3 := hk.blk hb3 (by simp)
                refine ⟨hb4.cani 0 rfl rfl, thenW_in fun ww96 e96 => ?_⟩
                have hx96 := (Ext.refl (fun b => b ∈ ([ww81.heap.size] : List Nat)) ww95).x_set (q := ww81.heap.size) (i := 0) rfl (.inl (by simp)) e96
                have hb1 := hb1.oth (q := ww81.heap.size) (i := 0) rfl hb1_4 e96
                have hb2 := hb2.oth (q := ww81.heap.size) (i := 0) rfl hb2_4 e96
                have hb3 := hb3.oth (q := ww81.heap.size) (i := 0) rfl hb3_4 e96
                have hb4 : Blk ww96 ww81.heap.size 49 [.int .i64 Who88, .int .u64 0, .int .i64 0, .int .i64 0, .int .i64 0] := hb4.seti 0 rfl e96
                refine ⟨hb4.cani 1 rfl rfl, thenW_in fun ww97 e97 => ?_⟩
                have hx97 := hx96.x_set (q := ww81.heap.size) (i := 1) rfl (.inl (by simp)) e97
                have hb1 := hb1.oth (q := ww81.heap.size) (i := 1) rfl hb1_4 e97
                have hb2 := hb2.oth (q := ww81.heap.size) (i := 1) rfl hb2_4 e97
                have hb3 := hb3.oth (q := ww81.heap.size) (i := 1) rfl hb3_4 e97
                have hb4 : Blk ww97 ww81.heap.size 49 [.int .i64 Who88, .int .u64 Public89, .int .i64 0, .int .i64 0, .int .i64 0] := hb4.seti 1 rfl e97
                refine ⟨hb4.cani 2 rfl rfl, thenW_in fun ww98 e98 => ?_⟩
                have hx98 := hx97.x_set (q := ww81.heap.size) (i := 2) rfl (.inl (by simp)) e98
                have hb1 := hb1.oth (q := ww81.heap.size) (i := 2) rfl hb1_4 e98
                have hb2 := hb2.oth (q := ww81.heap.size) (i := 2) rfl hb2_4 e98
                have hb3 := hb3.oth (q := ww81.heap.size) (i := 2) rfl hb3_4 e98
                have hb4 : Blk ww98 ww81.heap.size 49 [.int .i64 Who88, .int .u64 Public89, .int .i64 From90, .int .i64 0, .int .i64 0] := hb4.seti 2 rfl e98
                refine ⟨hb4.cani 3 rfl rfl, thenW_in fun ww99 e99 => ?_⟩
                have hx99 := hx98.x_set (q := ww81.heap.size) (i := 3) rfl (.inl (by simp)) e99
                have hb1 := hb1.oth (q := ww81.heap.size) (i := 3) rfl hb1_4 e99
                have hb2 := hb2.oth (q := ww81.heap.size) (i := 3) rfl hb2_4 e99
                have hb3 := hb3.oth (q := ww81.heap.size) (i := 3) rfl hb3_4 e99
                have hb4 : Blk ww99 ww81.heap.size 49 [.int .i64 Who88, .int .u64 Public89, .int .i64 From90, .int .i64 To91, .int .i64 0] := hb4.seti 3 rfl e99
                refine ⟨hb4.cani 4 rfl rfl, thenW_in fun ww100 e100 => ?_⟩
                have hx100 := hx99.x_set (q := ww81.heap.size) (i := 4) rfl (.inl (by simp)) e100
                have hb1 := hb1.oth (q := ww81.heap.size) (i := 4) rfl hb1_4 e100
                have hb2 := hb2.oth (q := ww81.heap.size) (i := 4) rfl hb2_4 e100
                have hb3 := hb3.oth (q := ww81.heap.size) (i := 4) rfl hb3_4 e100
                have hb4 : Blk ww100 ww81.heap.size 49 [.int .i64 Who88, .int .u64 Public89, .int .i64 From90, .int .i64 To91, .int .i64 Limit92] := hb4.seti 4 rfl e100
                refine thenW_in fun ww101 e101 => ?_
                have hx101 := hx100.x_drew e101
                have hb1 := hb1.x_drew e101
                have hb2 := hb2.x_drew e101
                have hb3 := hb3.x_drew e101
                have hb4 := hb4.x_drew e101
                refine bif_of (fun c102 => ?_) (fun c102 => ?_)
                · have h := h.1 (not_t c102)
                  have h := h ww101 hx101
                  exact h
                · have h := h.2 (not_f c102)
                  refine ⟨Public89, hb4.celli 1 rfl rfl, ?_⟩
                  refine ⟨L25a, L25n, L25c, hb2.celli 0 rfl rfl, ?_⟩
                  refine elim_some ha82 ?_
                  obtain ⟨hq1, hq2, h⟩ := h
                  refine ⟨hq1, hq2, ?_⟩
                  have h := h ww101 hx101
                  obtain ⟨Public107, hc106, h⟩ := h
                  refine ⟨Public107, hc106, ?_⟩
                  refine bif_of (fun c108 => ?_) (fun c108 => ?_)
                  · have h := h.1 (bne_t c108)
                    exact h
                  · have h := h.2 (bne_f c108)
                    refine ⟨From90, hb4.celli 2 rfl rfl, ?_⟩
                    refine ⟨L25a, L25n, L25c, hb2.celli 0 rfl rfl, ?_⟩
                    refine elim_some ha82 ?_
                    obtain ⟨hq1, hq2, h⟩ := h
                    refine ⟨hq1, hq2, ?_⟩
                    obtain ⟨From110, hc109, h⟩ := h
                    refine ⟨From110, hc109, ?_⟩
                    refine bif_of (fun c111 => ?_) (fun c111 => ?_)
                    · have h := h.1 (bne_t c111)
                      exact h
                    · have h := h.2 (bne_f c111)
                      refine ⟨L25a, L25n, L25c, hb2.celli 0 rfl rfl, ?_⟩
                      refine elim_some ha82 ?_
                      obtain ⟨hq1, hq2, h⟩ := h
                      refine ⟨hq1, hq2, ?_⟩
                      obtain ⟨To113, hc112, h⟩ := h
                      refine ⟨To113, hc112, ?_⟩
                      refine bif_of (fun c114 => ?_) (fun c114 => ?_)
                      · have h := h.1 (bne_t c114)
                        refine ⟨Who88, Public89, From90, To91, Limit92, ⟨hb4.celli 0 rfl rfl, hb4.celli 1 rfl rfl, hb4.celli 2 rfl rfl, hb4.celli 3 rfl rfl, hb4.celli 4 rfl rfl, trivial⟩, ?_⟩
                        refine ⟨L25a, L25n, L25c, hb2.celli 0 rfl rfl, ?_⟩
                        refine elim_some ha82 ?_
                        obtain ⟨hq1, hq2, h⟩ := h
                        refine ⟨hq1, hq2, ?_⟩
                        obtain ⟨xWho116, xPublic117, xFrom118, xTo119, xLimit120, hc115, h⟩ := h
                        refine ⟨xWho116, xPublic117, xFrom118, xTo119, xLimit120, hc115, ?_⟩
                        refine (cachettelaw12_member.pure Who88 Public89 From90 To91 Limit92).mono fun ee ww121 ⟨he, hxx⟩ => ⟨((cachettelaw12_member.F Who88 Public89 From90 To91 Limit92).1), ((cachettelaw12_member.F Who88 Public89 From90 To91 Limit92).2.1), ((cachettelaw12_member.F Who88 Public89 From90 To91 Limit92).2.2.1), ((cachettelaw12_member.F Who88 Public89 From90 To91 Limit92).2.2.2.1), ((cachettelaw12_member.F Who88 Public89 From90 To91 Limit92).2.2.2.2), he, ?_⟩
                        have hx121 := (Ext.refl no ww101).trans hxx
                        have hb1 := hb1.ext hxx id
                        have hb2 := hb2.ext hxx id
                        have hb3 := hb3.ext hxx id
                        refine ⟨cellsAt_no (hx121) hc115, hb2.celli 0 rfl rfl, ?_⟩
                        refine ⟨_, eqT52_ne ((cachettelaw12_member.F Who88 Public89 From90 To91 Limit92).1) ((cachettelaw12_member.F Who88 Public89 From90 To91 Limit92).2.1) ((cachettelaw12_member.F Who88 Public89 From90 To91 Limit92).2.2.1) ((cachettelaw12_member.F Who88 Public89 From90 To91 Limit92).2.2.2.1) ((cachettelaw12_member.F Who88 Public89 From90 To91 Limit92).2.2.2.2) xWho116 xPublic117 xFrom118 xTo119 xLimit120 _, ?_⟩
                        refine bif_of (fun c122 => ?_) (fun c122 => ?_)
                        · have h := h.1 (of_decide_eq_false (not_t c122))
                          have h := h ww121 hx121
                          exact h
                        · have h := h.2 (of_decide_eq_true (not_f c122))
                          obtain ⟨hw1, hw2, h⟩ := h
                          try rw [w64 hw1 hw2]
                          have h := h ww121 hx121
                          obtain ⟨m123, hk, h⟩ := h
                          exact ⟨m123, hk, L75a, L75n, L75c, Epoch76, hb1, hb2, hb3, h⟩
                      · have h := h.2 (bne_f c114)
                        obtain ⟨hw1, hw2, h⟩ := h
                        try rw [w64 hw1 hw2]
                        obtain ⟨m124, hk, h⟩ := h
                        exact ⟨m124, hk, L75a, L75n, L75c, Epoch76, hb1, hb2, hb3, h⟩
            · have h := h.2 (Int.not_lt.1 (of_decide_eq_false c80))
              obtain ⟨I4, m129, h0, h⟩ := h
              refine ⟨fun k vs ww => ∃ (L127a : Option Addr) (L127n : Nat) (L127c : Nat) (Epoch128 : Int), Blk ww ww13.heap.size 28 [.slice L127a L127n L127c, .int .i64 Epoch128] ∧ Blk ww ww28.heap.size 45 [.slice L25a L25n L25c, .int .i64 Epoch26] ∧ Blk ww ww32.heap.size 28 [.slice L54a L54n L54c, .int .i64 Epoch55] ∧ I4 k (vs ++ [.slice L127a L127n L127c, .int .i64 Epoch128]) ww, m129, ⟨L75a, L75n, L75c, Epoch76, hb1, hb2, hb3, h0⟩, fun m130 ww131 j126 hI => ?_⟩
              obtain ⟨L127a, L127n, L127c, Epoch128, hb1, hb2, hb3, hI⟩ := hI
              have h := h m130 ww131 j126 L127a L127n L127c Epoch128 hI
              refine ⟨L54a, L54n, L54c, hb3.celli 0 rfl rfl, ?_⟩
              refine bif_of (fun c132 => ?_) (fun c132 => ?_)
              · have h := h.1 (of_decide_eq_true c132)
                refine thenW_in fun ww133 e133 => ?_
                have hx133 := (Ext.refl no ww131).x_drew e133
                have hb1 := hb1.x_drew e133
                have hb2 := hb2.x_drew e133
                have hb3 := hb3.x_drew e133
                refine ⟨L54a, L54n, L54c, hb3.celli 0 rfl rfl, ?_⟩
                obtain ⟨hw1, hw2, h⟩ := h
                try rw [w64 hw1 hw2]
                obtain ⟨a134, ha134, h⟩ := h
                refine elim_some ha134 ?_
                obtain ⟨hq1, hq2, h⟩ := h
                refine ⟨hq1, hq2, ?_⟩
                obtain ⟨Who136, hc135, h⟩ := h
                refine ⟨Who136, (hx133).cell hc135 id, ?_⟩
                refine ⟨L54a, L54n, L54c, hb3.celli 0 rfl rfl, ?_⟩
                refine elim_some ha134 ?_
                obtain ⟨hq1, hq2, h⟩ := h
                refine ⟨hq1, hq2, ?_⟩
                obtain ⟨Who138, hc137, h⟩ := h
                refine ⟨Who138, (hx133).cell hc137 id, ?_⟩
                refine bif_of (fun c139 => ?_) (fun c139 => ?_)
                · have h := h.1 (of_decide_eq_true c139)
                  have h := h ww133 hx133
                  exact h
                · have h := h.2 (Int.not_le.1 (of_decide_eq_false c139))
                  obtain ⟨hw1, hw2, h⟩ := h
                  try rw [w64 hw1 hw2]
                  have h := h ww133 hx133
                  obtain ⟨m140, hk, h⟩ := h
                  exact ⟨m140, hk, L127a, L127n, L127c, Epoch128, hb1, hb2, hb3, h⟩
              · have h := h.2 (Int.not_lt.1 (of_decide_eq_false c132))
                refine ⟨Epoch55, hb3.celli 1 rfl rfl, ?_⟩
                refine ⟨Epoch26, hb2.celli 1 rfl rfl, ?_⟩
                refine bif_of (fun c141 => ?_) (fun c141 => ?_)
                · have h := h.1 (of_decide_eq_true c141)
                  exact h
                · have h := h.2 (Int.not_lt.1 (of_decide_eq_false c141))
                  refine ⟨Epoch55, hb3.celli 1 rfl rfl, ?_⟩
                  refine ⟨Epoch26, hb2.celli 1 rfl rfl, ?_⟩
                  obtain ⟨hw1, hw2, h⟩ := h
                  try rw [w64 hw1 hw2]
                  refine bif_of (fun c142 => ?_) (fun c142 => ?_)
                  · have h := h.1 (of_decide_eq_true c142)
                    exact h
                  · have h := h.2 (Int.not_lt.1 (of_decide_eq_false c142))
                    refine ⟨L54a, L54n, L54c, Epoch55, ⟨hb3.celli 0 rfl rfl, hb3.celli 1 rfl rfl, trivial⟩, ?_⟩
                    have hm144 : Ext (fun b => b = ww13.heap.size) ww131 ww131 := ((Ext.refl no ww131)).none
                    refine ⟨hb1.cani 0 rfl rfl, thenW_in fun ww143 e143 => ?_⟩
                    have hx143 := hm144.x_set (q := ww13.heap.size) (i := 0) rfl (.inl rfl) e143
                    have hb1 := hb1.seti 0 rfl e143
                    refine ⟨hb1.cani 1 rfl rfl, thenW_in fun ww144 e144 => ?_⟩
                    have hx144 := hx143.x_set (q := ww13.heap.size) (i := 1) rfl (.inl rfl) e144
                    have hb1 := hb1.seti 1 rfl e144
                    obtain ⟨hw1, hw2, h⟩ := h
                    try rw [w64 hw1 hw2]
                    have h := h ww144 hx144
                    obtain ⟨m145, hk, h⟩ := h
                    exact ⟨m145, hk, L54a, L54n, L54c, Epoch55, hb1, h⟩
    · have h := h.2 (Int.not_lt.1 (of_decide_eq_false c24))
      refine h.mono fun ee148 ww149 h => ?_
      obtain ⟨alive147, he, h⟩ := h
      refine ⟨alive147, he, ?_⟩
      exact h

theorem cachettelaw12_MembersKeeps.go (publicv1 : Int) (l2a : Option Addr) (l2n : Nat) (l2c : Nat) {R : Value → World → Prop} {w : World} (h : cachettelaw12_MembersKeeps.N publicv1 l2a l2n l2c R w) : Calls Try.prog 4 #[.int .u64 publicv1, .slice l2a l2n l2c] w fun e w' => ∃ v, e = .returned v ∧ R v w' := cachettelaw12_MembersKeeps.ok publicv1 l2a l2n l2c (cachettelaw12_MembersKeeps.up publicv1 l2a l2n l2c h)
theorem cachettelaw12_MembersKeeps.run (publicv1 : Int) (l2a : Option Addr) (l2n : Nat) (l2c : Nat) {V : Value} {Q : World → Prop} {w : World} (h : cachettelaw12_MembersKeeps.N publicv1 l2a l2n l2c (fun v w' => v = V ∧ Q w') w) : Calls Try.prog 4 #[.int .u64 publicv1, .slice l2a l2n l2c] w (Ret V Q) := (cachettelaw12_MembersKeeps.go publicv1 l2a l2n l2c h).mono fun e w' ⟨v, he, hv, hq⟩ => ⟨by rw [he, hv], hq⟩

end Go.Proofs.Ytmhfoieeldiecaa

/- MembersKeeps. -/
set_option linter.unusedVariables false
set_option linter.unusedSimpArgs false
set_option maxRecDepth 20000
set_option maxHeartbeats 2000000
namespace Go.Proofs.Ytmhfoieeldiecaa
open Go Go.Mx Go.Proofs
open W (OwnB)
abbrev RRw (N : Nat) (w : World) (o : Own) (a : Option Addr) (c : Nat) (ml : List Mem) : Prop := LRow 52 5 N w o a ml.length c (ml.flatMap Mem.C)
section
variable {w w' w1 : World} {o o' o1 : Own} {a b : Option Addr} {c d N : Nat} {s t : MS} {m : Mem} {cg : Chg} {ml : List Mem}
theorem RRw.push (h : RRw N w o a c ml) (ok : Tags w o) (hl : ml.length < 1000000) (m : Mem) {q : Nat} (hb : Blk w q 52 m.C) (hq : N ≤ q) (hq' : q < w.heap.size) :
    ∃ a' n' c' w' o', (Builtin.append_ #[43, 43] 43 #[.slice a ml.length c, .slice (some (blk q)) 1 1]).run Try.prog w = .ok (.slice a' n' c') w' ∧ n' = (ml ++ [m]).length ∧ Step (fun j => N ≤ j) w o w' o' ∧ RRw N w' o' a' c' (ml ++ [m]) := by
  obtain ⟨i, hi, hz, hsz, hby⟩ := info_of inf52
  obtain ⟨a', c', w', o', hrun, s2, hrow, _⟩ := LRow.push (ty := 43) Try.underlying43 hi hz hsz hby rfl (by decide) h ok hq hq' (xa := some (blk q)) (m := 1) (xc := 1) (news := m.C) rfl (RowAt.of_blk hb) m.one (by omega) (by omega)
  exact ⟨a', _, c', w', o', hrun, by simp, s2, by unfold RRw; rw [List.length_append, List.flatMap_append]; simpa using hrow⟩
theorem State_spec (hr : Row w o a (s.ml.flatMap Mem.C)) (ok : Tags w o) (hl : s.ml.length < 1000) :
    Calls Try.prog 15 #[.agg #[.slice a s.ml.length c, .int .i64 s.ep]] w (fun x w' => ∃ o' a' c', x = .returned (.agg #[.slice a' s.ml.length c', .int .i64 s.ep]) ∧ Step no w o w' o' ∧ Row w' o' a' (s.ml.flatMap Mem.C) ∧ s.ml.length ≤ c') := by
  refine (cachettelaw12_State.go a s.ml.length c s.ep (R := fun v w' => ∃ o' a' c', v = (.agg #[.slice a' s.ml.length c', .int .i64 s.ep]) ∧ Step no w o w' o' ∧ Row w' o' a' (s.ml.flatMap Mem.C) ∧ s.ml.length ≤ c') ?_).mono fun x w' ⟨v, he, o', a', c', hv, hw⟩ => ⟨o', a', c', by rw [he, hv], hw⟩
  unfold cachettelaw12_State.N
  intro w15 p16 p17 p18 X15 hp
  obtain ⟨s15, M15⟩ := Step.priv X15 hp ok
  have g : ∀ p ∈ [p16, p17, p18], w.heap.size ≤ p := fun p h => (hp p h).1
  have hM15 : ∀ p ∈ [p16, p17, p18], p < w15.heap.size := fun p h => M15.lt h
  refine ⟨fun m vs w1 => ∃ (t : Nat) (a1 : Option Addr) (c1 : Nat) (o1 : Own), vs = [.int .i64 t, .slice none 0 0, .int .i64 0, .slice a1 (s.ml.take t).length c1, .int .i64 s.ep] ∧ m + t = s.ml.length ∧ Step no w o w1 o1 ∧ Step (fun j => w15.heap.size ≤ j ∨ j ∈ [p16, p17, p18]) w15 (tags w o [p16, p17, p18]) w1 o1 ∧ RRw w15.heap.size w1 o1 a1 c1 (s.ml.take t), s.ml.length, ⟨0, none, 0, _, rfl, rfl, s15, Step.refl _ s15.ok, LRow.nil _ _ _ _ _⟩, ?_⟩
  intro m w1 i0 k5a k5n k5c k6 k11a k11n k11c k12 hI
  obtain ⟨t, a1, c1, o1, hi, hm, s1, s15', r1⟩ := hI
  simp only [List.cons.injEq, Value.slice.injEq, Value.int.injEq, true_and, and_true] at hi
  obtain ⟨rfl, ⟨rfl, rfl, rfl⟩, rfl, ⟨rfl, rfl, rfl⟩, rfl⟩ := hi
  have M1 := M15.step s15'
  refine ⟨fun ht => ?_, fun ht w53 X53 => ?_⟩
  · have htl : t < s.ml.length := by omega
    have hg : s.ml[t]? = some s.ml[t] := List.getElem?_eq_getElem htl
    have htk : s.ml.take (t + 1) = s.ml.take t ++ [s.ml[t]] := by rw [List.take_add_one, hg]; rfl
    generalize s.ml[t] = x at *
    obtain ⟨ad, rfl⟩ := hr.1.faddr Mem.len (by decide) htl
    have hr1 := (hr.step s1).1
    refine ⟨ad, rfl, by omega, by omega, x.who, x.pub, x.fr, x.to_, x.lim, by rw [Int.toNat_natCast]; exact hr1.floads Mem.len hg, fun w42 q43 X42 hb hq hq' => ?_⟩
    have s42 := Step.of_no X42 s1.ok
    have h15 := s15'.size
    have hln : (s.ml.take t).length < 1000000 := by rw [List.length_take]; omega
    have r42 : RRw w15.heap.size w42 (grow w1 o1) k11a k11c (s.ml.take t) := LRow.step r1 s42 fun k h => h.elim
    obtain ⟨a', n', c', w45, o45, hrun, hn', s45, hrow⟩ := r42.push s42.ok hln x hb (by omega) hq'
    refine ⟨a', n', c', w45, hrun, (M1.step s42).keep s45 (fun p hp' => by have := hM15 p hp'; omega), by omega, by omega, fun w46 X46 => ?_⟩
    have s46 := Step.stores X46 s45.ok ((((M1.step s42).step s45)).sub (M := [p18]) (by simp)) (by simp)
    have r46 : RRw w15.heap.size w46 _ a' c' (s.ml.take t ++ [x]) := LRow.step hrow s46 fun k hk => .inl (hM15 k (by simp at hk ⊢; omega))
    have h15w := s15.size
    refine ⟨m - 1, by omega, t + 1, a', c', _, by rw [hn', htk]; rfl, by omega, ((s1.trans s42).trans' s45 fun j hj => .inr (by omega)).trans' s46 fun j hj => .inr (g j (by simp at hj ⊢; omega)), (s15'.trans (s42.none.trans (s45.mono fun j hj _ => .inl hj))).trans (s46.mono fun j hj _ => .inr (by simp at hj ⊢; omega)), by rw [htk]; exact r46⟩
  · have htt : t = s.ml.length := by omega
    subst htt
    rw [List.take_length] at r1 ⊢
    have s53 := Step.stores X53 s1.ok (M1.sub (M := [p17]) (by simp)) (by simp)
    have sF : Step no w o w53 _ := s1.trans' s53 fun j hj => .inr (g j (by simp at hj ⊢; omega))
    have r53 : RRw w15.heap.size w53 _ k11a k11c s.ml := LRow.step r1 s53 fun k hk => .inl (hM15 k (by simp at hk ⊢; omega))
    exact ⟨_, k11a, k11c, rfl, noStep (K := no) sF, r53.give sF s15.size, r53.le⟩
theorem refSame_spec (ha : RowAt w a (s.ml.flatMap Mem.C)) (hb : RowAt w b (t.ml.flatMap Mem.C)) (hl : s.ml.length < 1000000) :
    Calls Try.prog 16 #[.agg #[.slice a s.ml.length c, .int .i64 s.ep], .agg #[.slice b t.ml.length d, .int .i64 t.ep]] w (Ret (.bool (decide (s.ml = t.ml ∧ s.ep = t.ep))) fun w' => Ext no w w') := by
  refine cachetteref12_Same.run a s.ml.length c s.ep b t.ml.length d t.ep ?_
  unfold cachetteref12_Same.N
  refine ⟨fun hne w6 X => ⟨?_, X⟩, fun heq => ⟨fun hne w6 X => ⟨?_, X⟩, fun hep w6 X6 => ?_⟩⟩
  · congr 1; rw [eq_comm, decide_eq_false_iff_not]; intro h; rw [h.1] at hne; exact hne rfl
  · congr 1; rw [eq_comm, decide_eq_false_iff_not]; exact fun h => hne h.2
  refine ⟨fun q vs w1 => ∃ u : Nat, vs = [.int .i64 u] ∧ q + u = s.ml.length ∧ Ext no w w1 ∧ s.ml.take u = t.ml.take u, s.ml.length, ⟨0, rfl, rfl, X6, rfl⟩, ?_⟩
  rintro q w1 i ⟨u, hi, hq, X1, hn⟩
  simp only [List.cons.injEq, Value.int.injEq, true_and, and_true] at hi
  subst hi
  refine ⟨fun hu => ?_, fun hu => ?_⟩
  · have h1 : u < s.ml.length := by omega
    have h2 : u < t.ml.length := by omega
    have hg : s.ml[u]? = some s.ml[u] := List.getElem?_eq_getElem h1
    have hgm : t.ml[u]? = some t.ml[u] := List.getElem?_eq_getElem h2
    generalize s.ml[u] = x at *
    generalize t.ml[u] = y at *
    obtain ⟨ad, rfl⟩ := ha.faddr Mem.len (by decide) h1
    obtain ⟨bd, rfl⟩ := hb.faddr Mem.len (by decide) h2
    refine ⟨ad, rfl, by omega, by omega, x.who, x.pub, x.fr, x.to_, x.lim, by rw [Int.toNat_natCast]; exact (ha.no X1).floads Mem.len hg, bd, rfl, by omega, by omega, y.who, y.pub, y.fr, y.to_, y.lim, by rw [Int.toNat_natCast]; exact (hb.no X1).floads Mem.len hgm, fun h w20 X20 => ⟨?_, X1.trans X20⟩, fun h => ⟨by omega, by omega, fun w20 X20 => ⟨q - 1, by omega, u + 1, rfl, by omega, X1.trans X20, ?_⟩⟩⟩
    · congr 1; rw [eq_comm, decide_eq_false_iff_not]
      rintro ⟨h2, _⟩
      have h3 := congrArg (fun l => l[u]?) h2
      simp only [hg, hgm, Option.some.injEq] at h3
      subst h3
      exact h ⟨rfl, rfl, rfl, rfl, rfl⟩
    · obtain ⟨e1, e2, e3, e4, e5⟩ := h
      have : x = y := by cases x; cases y; simp only at e1 e2 e3 e4 e5; subst e1; subst e2; subst e3; subst e4; subst e5; rfl
      rw [List.take_add_one, List.take_add_one, hn, hg, hgm, this]
  · have : u = s.ml.length := by omega
    subst this
    rw [List.take_length, List.take_of_length_le (by omega)] at hn
    exact ⟨by rw [decide_eq_true ⟨hn, hep⟩], X1⟩
theorem keeps_law (hs : s.ok) (h : (applyM s cg).2 = 0) : (∀ m ∈ s.ml, ∃ m', m' ∈ (applyM s cg).1.ml ∧ m'.who = m.who ∧ m'.pub = m.pub ∧ m'.fr = m.fr ∧ (m.to_ ≠ -1 → m' = m)) ∧ s.ep ≤ (applyM s cg).1.ep ∧ (applyM s cg).1.ep ≤ s.ep + 1 := by
  obtain ⟨_, hh⟩ := apply_out h
  rcases hh with ⟨_, h1, e⟩ | ⟨_, h1, e⟩ | ⟨_, _, h1, e⟩
  · obtain ⟨q1, q2⟩ := invite_out h1
    rw [e, q2]
    refine ⟨fun m hm => ⟨m, ?_, rfl, rfl, rfl, fun _ => rfl⟩, Int.le_refl _, by show s.ep ≤ s.ep + 1; omega⟩
    rw [← List.take_append_drop (findI s.ml cg.who) s.ml] at hm
    rcases List.mem_append.1 hm with h | h
    · exact List.mem_append.2 (.inl h)
    · exact List.mem_append.2 (.inr (List.mem_cons_of_mem _ h))
  · obtain ⟨x, q1, q2, q3, q4⟩ := revoke_out h1
    rw [e, q4]
    refine ⟨fun m hm => ?_, Int.le_refl _, by show s.ep ≤ s.ep + 1; omega⟩
    obtain ⟨j, hj⟩ := List.getElem?_of_mem hm
    by_cases hne : findI s.ml cg.who = j
    · rw [← hne, q1] at hj; cases hj
      exact ⟨_, List.mem_of_getElem? (i := findI s.ml cg.who) (List.getElem?_set_self (List.getElem?_eq_some_iff.1 q1).1), rfl, rfl, rfl, fun h => absurd q3 h⟩
    · exact ⟨m, List.mem_of_getElem? (i := j) (by rw [List.getElem?_set_ne hne]; exact hj), rfl, rfl, rfl, fun _ => rfl⟩
  · obtain ⟨q1, q2⟩ := begin_out h1
    rw [e, q1]
    exact ⟨fun m hm => ⟨m, hm, rfl, rfl, rfl, fun _ => rfl⟩, by show s.ep ≤ s.ep + 1; omega, Int.le_refl _⟩
theorem MembersKeeps_spec (W : World) {pb : Int} {la : Option Addr} {lc : Nat} {l : List CR} (hl : RowAt W la (l.flatMap CR.C)) (hlg : ∀ p ∈ l, p.good W) :
    Calls Try.prog 4 #[.int .u64 pb, .slice la l.length lc] W (Ret (.bool true) fun w' => Ext no W w') := by
  refine cachettelaw12_MembersKeeps.run _ _ _ _ ?_
  unfold cachettelaw12_MembersKeeps.N
  refine (light12_spec hl (fun p hp => (hlg p hp).ws)).mono fun e w9 ⟨he, hw⟩ => ⟨_, he, fun _ => ?_, fun hL => ?_⟩
  · subst hw
    exact (alive12_spec _).mono fun e w9 ⟨he, X⟩ => ⟨_, he, rfl, X⟩
  subst hw
  obtain ⟨hl1, hl2⟩ := light12_of hL
  have ok0 : Tags w9 (fun _ => none) := fun b j _ h => by cases h
  have fin : ∀ {w1 w' : World} {o1 : Own}, Step no w9 (fun _ => none) w1 o1 → Ext no w1 w' → Ext no w9 w' := fun s X => (s.ext.mono fun b ⟨_, _, h⟩ _ => h).trans X
  refine (New_spec ok0 pb).mono fun x w24 ⟨o24, a24, c24, hx, s24, r24, _⟩ => ⟨_, _, _, _, hx, fun w27 p28 X27 hp28 => ?_⟩
  obtain ⟨s27', M27⟩ := Step.priv X27 hp28 s24.ok
  have s27 := s24.trans s27'
  have g28 : w9.heap.size ≤ p28 := by have := (hp28 p28 (by simp)).1; have := s24.size; omega
  have start : MI w9 [p28] (newM pb) a24 w27 _ := ⟨s27, r24.step s27', newM_ok pb, M27⟩
  refine ⟨fun m vs w1 => ∃ (t : Nat) (s : MS) (a1 : Option Addr) (c1 : Nat) (o1 : Own), vs = [.int .i64 t, .slice a1 s.ml.length c1, .int .i64 s.ep] ∧ m + t = l.length ∧ MI w9 [p28] s a1 w1 o1, l.length, ⟨0, newM pb, a24, c24, _, rfl, rfl, start⟩, ?_⟩
  rintro m w34 i0 ra rn rc re ⟨t, s, a1, c1, o34, hi, hm', I⟩
  simp only [List.cons.injEq, Value.slice.injEq, Value.int.injEq, true_and, and_true] at hi
  obtain ⟨rfl, ⟨rfl, rfl, rfl⟩, rfl⟩ := hi
  have hle := I.ok.le
  have he0 := I.ok.ep0
  have he1 := I.ok.ep1
  refine ⟨fun ht => ?_, fun ht => ?_⟩
  rotate_left
  · exact (alive12_spec _).mono fun e w149 ⟨he, X⟩ => ⟨_, he, rfl, fin I.st X⟩
  have htl : t < l.length := by omega
  have hg : l[t]? = some l[t] := List.getElem?_eq_getElem htl
  have hxg := hlg _ (List.getElem_mem htl)
  have hxl := hl2 _ (List.getElem_mem htl)
  generalize l[t] = x at *
  refine (State_spec I.row I.st.ok (by omega)).mono fun e w28 ⟨o28, wa, wc, hx, s28', rwas, _⟩ => ⟨_, _, _, _, hx, I.mine.keep s28' fun _ _ => id, ?_⟩
  have s28 := I.st.trans s28'
  obtain ⟨ad, rfl⟩ := hl.faddr CR.len (by decide) htl
  have hl34 := ((noW12 hl).step s28).1
  refine ⟨ad, rfl, by omega, by omega, x.kd, x.who, x.pub, x.lim, x.wa, x.l.length, x.wc, x.oa, x.old.length, x.oc, by rw [Int.toNat_natCast]; exact hl34.floads CR.len hg, ?_⟩
  refine ownApply s28.ok (I.row.step s28') I.ok ((noW12 hxg.ws).step s28) (by omega) (by omega) (I.mine.step s28') fun w61 o61 L55 a' c' s61 MQ ML hL r61 w146 p62 p63 X146 hp146 => ?_
  obtain ⟨s146', M146⟩ := Step.join X146 s61.ok ML hp146
  have s28146 := s61.trans' s146' fun i hi => .inr (hL i hi)
  have s146 := s28.trans s28146
  have g62 : ∀ p ∈ [p62, p63], w28.heap.size ≤ p := fun p hp => by
    rcases (hp146 p hp).1 with h | h
    · exact hL p h
    · have := s61.size; omega
  have MQ146 : Mine [p28, p62, p63] w146 _ := (MQ.step s146').app M146
  have r146 := (I.row.step s28').step s28146
  have rt146 := r61.step s146'
  refine (State_spec r146 s146.ok (by omega)).mono fun e w67 ⟨o67, na, nc, hx, s67', rnow, _⟩ => ⟨_, _, _, _, hx, MQ146.keep s67' fun _ _ => id, ?_⟩
  have s67 := s146.trans s67'
  have rwas67 := ((rwas.step s28146).step s67')
  refine (refSame_spec (s := s) (t := s) rnow.1 rwas67.1 (by omega)).mono fun e w70 ⟨hx, X70⟩ => ⟨_, hx, X70.kept, fun h => absurd h (by simp), fun _ => ?_⟩
  have s70' := Step.of_no X70 s67.ok
  have s70 := s67.trans s70'
  have s14670 := s67'.trans s70'
  have MQ70 := MQ146.step s14670
  refine ⟨fun hne => ⟨by omega, by omega, m - 1, by omega, t + 1, s, _, _, _, rfl, by omega, s70, r146.step s14670, I.ok, MQ70.sub (by simp)⟩, fun h0 => ?_⟩
  obtain ⟨law1, law2, law3⟩ := keeps_law I.ok h0
  have okT := applyM_ok I.ok h0
  generalize (applyM s x.cg).1 = t1 at *
  have rt70 := rt146.step s14670
  have rwas70 := rwas67.step s70'
  have hleT := okT.le
  refine ⟨fun m2 vs w1 => ∃ (u : Nat) (o1 : Own), vs = [.int .i64 u, .slice ra s.ml.length rc, .int .i64 s.ep] ∧ m2 + u = s.ml.length ∧ Step no w70 (grow w67 o67) w1 o1, s.ml.length, ⟨0, _, rfl, rfl, Step.refl _ s70.ok⟩, ?_⟩
  rintro m2 w79 i0 qa qn qc qe ⟨u, o79, hi, hm2, s79⟩
  simp only [List.cons.injEq, Value.slice.injEq, Value.int.injEq, true_and, and_true] at hi
  obtain ⟨rfl, ⟨rfl, rfl, rfl⟩, rfl⟩ := hi
  refine ⟨fun hu => ?_, fun hu => ?_⟩
  · have hul : u < s.ml.length := by omega
    have hgu : s.ml[u]? = some s.ml[u] := List.getElem?_eq_getElem hul
    have hum := List.getElem_mem hul
    generalize s.ml[u] = y at *
    have rw79 := rwas70.step s79
    obtain ⟨bd, rfl⟩ := rwas.1.faddr Mem.len (by decide) hul
    refine ⟨bd, rfl, by omega, by omega, y.who, by rw [Int.toNat_natCast]; exact rw79.1.fcell Mem.len hgu 0 rfl, fun w86 L85 X86 hp86 => ?_⟩
    obtain ⟨s86, M86⟩ := Step.priv X86 hp86 s79.ok
    obtain ⟨y', hy1, hy2, hy3, hy4, hy5⟩ := law1 y hum
    have hF : findM t1.ml y.who = (y', true) := by rw [← hy2]; exact findM_some okT.sorted hy1
    refine (Find_spec ((rt70.step s79).step s86) s86.ok okT.sorted (by omega) t1.ep y.who).mono fun e w94 ⟨hx, o94, s94⟩ => ⟨_, _, _, _, _, _, hx, M86.keep s94 fun _ _ => id, ((MQ70.step s79).step s86).keep s94 fun _ _ => id, ?_⟩
    rw [hF]
    refine ⟨fun h => (by cases h), fun _ => ⟨by omega, by omega, fun w125 X125 => ?_⟩⟩
    have s125' := Step.joins X125 s94.ok (M86.step s94)
    have s79125 := (s86.trans s94).trans' s125' fun i hi => .inr (hp86 i hi).1
    have rw125 := rw79.step s79125
    have next : ∀ {w' : World} {o' : Own}, Step no w70 (grow w67 o67) w' o' → ∃ m3, m3 < m2 ∧ ∃ (u' : Nat) (o1 : Own), [Value.int .i64 ((u : Int) + 1), .slice qa s.ml.length qc, .int .i64 s.ep] = [.int .i64 u', .slice qa s.ml.length qc, .int .i64 s.ep] ∧ m3 + u' = s.ml.length ∧ Step no w70 (grow w67 o67) w' o1 := fun h => ⟨m2 - 1, by omega, u + 1, _, rfl, by omega, h⟩
    refine ⟨y.pub, by rw [Int.toNat_natCast]; exact rw125.1.fcell Mem.len hgu 1 rfl, fun h => absurd hy3 h, fun _ => ⟨by omega, by omega, y.fr, by rw [Int.toNat_natCast]; exact rw125.1.fcell Mem.len hgu 2 rfl, fun h => absurd hy4 h, fun _ => ⟨by omega, by omega, y.to_, by rw [Int.toNat_natCast]; exact rw125.1.fcell Mem.len hgu 3 rfl, fun hto => ⟨by omega, by omega, y.who, y.pub, y.fr, y.to_, y.lim, by rw [Int.toNat_natCast]; exact rw125.1.floads Mem.len hgu, fun h => absurd ?_ h, fun _ => ⟨by omega, by omega, fun w121 X121 => next ((s79.trans s79125).trans (Step.of_no X121 s125'.ok))⟩⟩, fun _ => ⟨by omega, by omega, next (s79.trans s79125)⟩⟩⟩⟩
    have := hy5 hto
    subst this
    exact ⟨rfl, rfl, rfl, rfl, rfl⟩
  have huu : u = s.ml.length := by omega
  refine ⟨fun m3 vs w1 => ∃ (v : Nat) (o1 : Own), vs = [.int .i64 v, .slice qa s.ml.length qc, .int .i64 s.ep] ∧ m3 + v = t1.ml.length + 1 ∧ 1 ≤ v ∧ Step no w79 o79 w1 o1, t1.ml.length, ⟨1, o79, rfl, by omega, by omega, Step.refl _ s79.ok⟩, ?_⟩
  rintro m3 w131 i0 ya yn yc ye ⟨v, o131, hi, hm3, hv1, s131⟩
  simp only [List.cons.injEq, Value.slice.injEq, Value.int.injEq, true_and, and_true] at hi
  obtain ⟨rfl, ⟨rfl, rfl, rfl⟩, rfl⟩ := hi
  have rt131 := (rt70.step s79).step s131
  refine ⟨fun hv => ?_, fun hv => ⟨fun h => by omega, fun _ => ⟨by omega, by omega, fun h => by omega, fun _ => ⟨by omega, by omega, fun w144 X144 => ?_⟩⟩⟩⟩
  · have hv2 : v < t1.ml.length := by omega
    have hv3 : v - 1 < t1.ml.length := by omega
    have g1 : t1.ml[v]? = some t1.ml[v] := List.getElem?_eq_getElem hv2
    have g2 : t1.ml[v - 1]? = some t1.ml[v - 1] := List.getElem?_eq_getElem hv3
    have hlt := okT.sorted.get g2 g1 (by omega)
    generalize t1.ml[v] = z1 at *
    generalize t1.ml[v - 1] = z2 at *
    obtain ⟨cd, rfl⟩ := r61.1.faddr Mem.len (by decide) hv2
    have e1 : ((v : Int) - 1).toNat = v - 1 := by omega
    refine ⟨by omega, by omega, cd, rfl, by omega, by omega, z2.who, by rw [e1]; exact rt131.1.fcell Mem.len g2 0 rfl, by omega, by omega, z1.who, by rw [Int.toNat_natCast]; exact rt131.1.fcell Mem.len g1 0 rfl, fun h => by omega, fun _ => ⟨by omega, by omega, fun w133 X133 => ⟨m3 - 1, by omega, v + 1, _, rfl, by omega, by omega, s131.trans (Step.of_no X133 s131.ok)⟩⟩⟩
  · have MQ131 := (MQ70.step s79).step s131
    have s144 := Step.stores X144 s131.ok (MQ131.sub (M := [p28]) (by simp)) (by simp)
    have sA : Step no w9 (fun _ => none) w144 _ := ((s70.trans s79).trans s131).trans' s144 fun i hi => .inr (by simp at hi; omega)
    exact ⟨m - 1, by omega, t + 1, t1, _, _, _, rfl, by omega, sA, rt131.step s144, okT, (MQ131.step s144).sub (by simp)⟩
theorem MembersKeeps_walk (W : World) (n0 : Int) (a1 : Option Addr) (len1 cap1 : Nat) (w0 : (Lit.int .u64 n0).wf = true) (o1 : CRsQ W [.slice a1 len1 cap1]) :
    Calls Try.prog 4 #[.int .u64 n0, .slice a1 len1 cap1] W (Ret (.bool true) fun w' => Ext no W w') := by
  obtain ⟨_, c1, l, e1, q1, q2, r1, f1⟩ := o1
  cases e1
  exact MembersKeeps_spec W r1 f1
end
end Go.Proofs.Ytmhfoieeldiecaa
