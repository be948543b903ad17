/- OraclePlays. -/
import Derived.Test.YtgagmbmkpfjbbaaOraZ
import Derived.Test.YtgagmbmkpfjbbaaOraH
import Derived.Test.YtgagmbmkpfjbbaaMxX
set_option linter.unusedVariables false
set_option linter.unusedSimpArgs false
set_option maxRecDepth 20000
set_option maxHeartbeats 2000000
namespace Go.Proofs.Ytgagmbmkpfjbbaa
open Go Go.Mx Go.Proofs
/-- cachettelaw03.Light -/
def cachettelaw03_Light.M (draws1a : Option Addr) (draws1n : Nat) (draws1c : Nat) (l2a : Option Addr) (l2n : Nat) (l2c : Nat) (R : Value → World → Prop) (w : World) : Prop :=
  bif decide ((draws1n : Int) > 100) then (
  R (.bool false) w) else (
  bif decide ((l2n : Int) > 60) then (
  R (.bool false) w) else (
  ∃ (I0 : Nat → List Value → World → Prop) (m4 : Nat), I0 m4 [.int .i64 0] w ∧ ∀ (m5 : Nat) (ww6 : World) (i3 : Int), I0 m5 [.int .i64 i3] ww6 →
  bif decide (i3 < (l2n : Int)) then (
  l2a.elim False fun a7 =>
  0 ≤ (i3 : Int) ∧ (i3 : Int) < (l2n : Int) ∧
  ∃ (A8a : Option Addr) (A8n : Nat) (A8c : Nat), ww6.cell? ((a7.add (Int.toNat i3 * 5)).add 3) = some (.slice A8a A8n A8c) ∧
  bif decide ((A8n : Int) > 300) then (
  R (.bool false) ww6) else (
  l2a.elim False fun a9 =>
  0 ≤ (i3 : Int) ∧ (i3 : Int) < (l2n : Int) ∧
  ∃ (B10a : Option Addr) (B10n : Nat) (B10c : Nat), ww6.cell? ((a9.add (Int.toNat i3 * 5)).add 4) = some (.slice B10a B10n B10c) ∧
  bif decide ((B10n : Int) > 1500) then (
  R (.bool false) ww6) else (
  ∃ m11, m11 < m5 ∧ I0 m11 [.int .i64 (IntKind.i64.wrap (i3 + 1))] ww6))) else (
  R (.bool true) ww6)))

theorem cachettelaw03_Light.eq (draws1a : Option Addr) (draws1n : Nat) (draws1c : Nat) (l2a : Option Addr) (l2n : Nat) (l2c : Nat) (R : Value → World → Prop) (w : World) : mfunc Try.prog [(0, [1], [(5, (.one (.int .i64)))])] 13 [.slice draws1a draws1n draws1c, .slice l2a l2n l2c] R w = cachettelaw03_Light.M draws1a draws1n draws1c l2a l2n l2c R w := by kernel_rfl
theorem cachettelaw03_Light.ok (draws1a : Option Addr) (draws1n : Nat) (draws1c : Nat) (l2a : Option Addr) (l2n : Nat) (l2c : Nat) {R : Value → World → Prop} {w : World} (h : cachettelaw03_Light.M draws1a draws1n draws1c l2a l2n l2c R w) : Calls Try.prog 13 #[.slice draws1a draws1n draws1c, .slice l2a l2n l2c] w fun e w' => ∃ v, e = .returned v ∧ R v w' :=
  mfunc_ok follows (H := [(0, [1], [(5, (.one (.int .i64)))])]) (args := [.slice draws1a draws1n draws1c, .slice l2a l2n l2c]) (by rw [cachettelaw03_Light.eq]; exact h)

def cachettelaw03_Light.N (draws1a : Option Addr) (draws1n : Nat) (draws1c : Nat) (l2a : Option Addr) (l2n : Nat) (l2c : Nat) (R : Value → World → Prop) (w : World) : Prop :=
  ((draws1n : Int) > 100 →
    R (.bool false) w) ∧
  ((draws1n : Int) ≤ 100 →
    ((l2n : Int) > 60 →
      R (.bool false) w) ∧
    ((l2n : Int) ≤ 60 →
      ∃ (I0 : Nat → List Value → World → Prop) (m6 : Nat), I0 m6 [.int .i64 0] w ∧ ∀ (m7 : Nat) (ww8 : World) (i5 : Int), I0 m7 [.int .i64 i5] ww8 →
      (i5 < (l2n : Int) →
        ∃ a10 : Addr, l2a = some a10 ∧
        0 ≤ (i5 : Int) ∧ (i5 : Int) < (l2n : Int) ∧
        ∃ (A12a : Option Addr) (A12n : Nat) (A12c : Nat), ww8.cell? ((a10.add (Int.toNat i5 * 5)).add 3) = some (.slice A12a A12n A12c) ∧
        ((A12n : Int) > 300 →
          R (.bool false) ww8) ∧
        ((A12n : Int) ≤ 300 →
          0 ≤ (i5 : Int) ∧ (i5 : Int) < (l2n : Int) ∧
          ∃ (B15a : Option Addr) (B15n : Nat) (B15c : Nat), ww8.cell? ((a10.add (Int.toNat i5 * 5)).add 4) = some (.slice B15a B15n B15c) ∧
          ((B15n : Int) > 1500 →
            R (.bool false) ww8) ∧
          ((B15n : Int) ≤ 1500 →
            (-9223372036854775808 : Int) ≤ (i5 + 1) ∧ (i5 + 1) < 9223372036854775808 ∧
            ∃ m17, m17 < m7 ∧ I0 m17 [.int .i64 (i5 + 1)] ww8))) ∧
      ((l2n : Int) ≤ i5 →
        R (.bool true) ww8)))

theorem cachettelaw03_Light.up (draws1a : Option Addr) (draws1n : Nat) (draws1c : Nat) (l2a : Option Addr) (l2n : Nat) (l2c : Nat) {R : Value → World → Prop} {w : World} (h : cachettelaw03_Light.N draws1a draws1n draws1c l2a l2n l2c R w) : cachettelaw03_Light.M draws1a draws1n draws1c l2a l2n l2c R w := by
  unfold cachettelaw03_Light.M
  unfold cachettelaw03_Light.N at h
  refine bif_of (fun c3 => ?_) (fun c3 => ?_)
  · have h := h.1 (of_decide_eq_true c3)
    exact h
  · have h := h.2 (Int.not_lt.1 (of_decide_eq_false c3))
    refine bif_of (fun c4 => ?_) (fun c4 => ?_)
    · have h := h.1 (of_decide_eq_true c4)
      exact h
    · have h := h.2 (Int.not_lt.1 (of_decide_eq_false c4))
      obtain ⟨I0, m6, h0, h⟩ := h
      refine ⟨I0, m6, h0, fun m7 ww8 i5 hI => ?_⟩
      have h := h m7 ww8 i5 hI
      refine bif_of (fun c9 => ?_) (fun c9 => ?_)
      · have h := h.1 (of_decide_eq_true c9)
        obtain ⟨a10, ha10, h⟩ := h
        refine elim_some ha10 ?_
        obtain ⟨hq1, hq2, h⟩ := h
        refine ⟨hq1, hq2, ?_⟩
        obtain ⟨A12a, A12n, A12c, hc11, h⟩ := h
        refine ⟨A12a, A12n, A12c, hc11, ?_⟩
        refine bif_of (fun c13 => ?_) (fun c13 => ?_)
        · have h := h.1 (of_decide_eq_true c13)
          exact h
        · have h := h.2 (Int.not_lt.1 (of_decide_eq_false c13))
          refine elim_some ha10 ?_
          obtain ⟨hq1, hq2, h⟩ := h
          refine ⟨hq1, hq2, ?_⟩
          obtain ⟨B15a, B15n, B15c, hc14, h⟩ := h
          refine ⟨B15a, B15n, B15c, hc14, ?_⟩
          refine bif_of (fun c16 => ?_) (fun c16 => ?_)
          · have h := h.1 (of_decide_eq_true c16)
            exact h
          · have h := h.2 (Int.not_lt.1 (of_decide_eq_false c16))
            obtain ⟨hw1, hw2, h⟩ := h
            try rw [w64 hw1 hw2]
            obtain ⟨m17, hk, h⟩ := h
            exact ⟨m17, hk, h⟩
      · have h := h.2 (Int.not_lt.1 (of_decide_eq_false c9))
        exact h

theorem cachettelaw03_Light.go (draws1a : Option Addr) (draws1n : Nat) (draws1c : Nat) (l2a : Option Addr) (l2n : Nat) (l2c : Nat) {R : Value → World → Prop} {w : World} (h : cachettelaw03_Light.N draws1a draws1n draws1c l2a l2n l2c R w) : Calls Try.prog 13 #[.slice draws1a draws1n draws1c, .slice l2a l2n l2c] w fun e w' => ∃ v, e = .returned v ∧ R v w' := cachettelaw03_Light.ok draws1a draws1n draws1c l2a l2n l2c (cachettelaw03_Light.up draws1a draws1n draws1c l2a l2n l2c h)
theorem cachettelaw03_Light.run (draws1a : Option Addr) (draws1n : Nat) (draws1c : Nat) (l2a : Option Addr) (l2n : Nat) (l2c : Nat) {V : Value} {Q : World → Prop} {w : World} (h : cachettelaw03_Light.N draws1a draws1n draws1c l2a l2n l2c (fun v w' => v = V ∧ Q w') w) : Calls Try.prog 13 #[.slice draws1a draws1n draws1c, .slice l2a l2n l2c] w (Ret V Q) := (cachettelaw03_Light.go draws1a draws1n draws1c l2a l2n l2c h).mono fun e w' ⟨v, he, hv, hq⟩ => ⟨by rw [he, hv], hq⟩

/-- cachettelaw03.OraclePlays -/
def cachettelaw03_OraclePlays.M (draws1a : Option Addr) (draws1n : Nat) (draws1c : Nat) (l2a : Option Addr) (l2n : Nat) (l2c : Nat) (R : Value → World → Prop) (w : World) : Prop :=
  Calls Try.prog 13 #[.slice draws1a draws1n draws1c, .slice l2a l2n l2c] w fun ee4 ww5 => ∃ (light3 : Bool), ee4 = .returned (.bool light3) ∧
  bif !light3 then (
  Calls Try.prog 6 #[] ww5 fun ee7 ww8 => ∃ (alive6 : Bool), ee7 = .returned (.bool alive6) ∧
  R (.bool alive6) ww8) else (
  Calls Try.prog 7 #[.slice draws1a draws1n draws1c] ww5 fun ee10 ww11 => ∃ (new9 : Option Addr), ee10 = .returned (.pointer new9) ∧
  thenW (ww11.alloc (.cells #[.slice draws1a draws1n draws1c, .slice none 0 0] 44)) fun ww12 =>
  thenW (ww12.alloc (.cells #[.pointer new9, .pointer (some (blk ww11.heap.size)), .slice none 0 0, .slice none 0 0] 47)) fun ww13 =>
  ∃ (o14 : Option Addr), ww13.cell? ((blk ww12.heap.size).add 0) = some (.pointer o14) ∧
  bif Option.isNone o14 then (
  R (.bool false) ww13) else (
  Calls Try.prog 6 #[] ww13 fun ee16 ww17 => ∃ (alive15 : Bool), ee16 = .returned (.bool alive15) ∧
  bif !alive15 then (
  R (.bool false) ww17) else (
  ∃ (I0 : Nat → List Value → World → Prop) (m19 : Nat), I0 m19 [.int .i64 0] ww17 ∧ ∀ (m20 : Nat) (ww21 : World) (i18 : Int), I0 m20 [.int .i64 i18] ww21 →
  bif decide (i18 < (l2n : Int)) then (
  thenW (ww21.drew) fun ww22 =>
  l2a.elim False fun a23 =>
  0 ≤ (i18 : Int) ∧ (i18 : Int) < (l2n : Int) ∧
  ∃ (xKind24 : Int) (xX25 : Int) (xY26 : Int) (xA27a : Option Addr) (xA27n : Nat) (xA27c : Nat) (xB28a : Option Addr) (xB28n : Nat) (xB28c : Nat), cellsAt ww22 (a23.add (Int.toNat i18 * 5)) [.int .i64 xKind24, .int .u64 xX25, .int .u64 xY26, .slice xA27a xA27n xA27c, .slice xB28a xB28n xB28c] 0 ∧
  Calls Try.prog 14 #[.pointer (some (blk ww12.heap.size)), .agg #[.int .i64 xKind24, .int .u64 xX25, .int .u64 xY26, .slice xA27a xA27n xA27c, .slice xB28a xB28n xB28c]] ww22 fun ee30 ww31 => ∃ (dov29 : Bool), ee30 = .returned (.bool dov29) ∧
  bif !dov29 then (
  R (.bool false) ww31) else (
  ∃ (o32 : Option Addr), ww31.cell? ((blk ww12.heap.size).add 0) = some (.pointer o32) ∧
  ∃ (m33 : Option Addr), ww31.cell? ((blk ww12.heap.size).add 1) = some (.pointer m33) ∧
  m33.elim False fun a34 =>
  ∃ (L35a : Option Addr) (L35n : Nat) (L35c : Nat), ww31.cell? (a34.add 1) = some (.slice L35a L35n L35c) ∧
  Calls Try.prog 15 #[.pointer o32] ww31 fun ee37 ww38 => ∃ (used36 : Int), ee37 = .returned (.int .i64 used36) ∧
  ww38.cell? (a34.add 1) = some (.slice L35a L35n L35c) ∧
  ww38.cell? ((blk ww12.heap.size).add 1) = some (.pointer m33) ∧
  bif used36 != (L35n : Int) then (
  R (.bool false) ww38) else (
  ∃ m39, m39 < m20 ∧ I0 m39 [.int .i64 (IntKind.i64.wrap (i18 + 1))] ww38))) else (
  R (.bool true) ww21))))

theorem cachettelaw03_OraclePlays.eq (draws1a : Option Addr) (draws1n : Nat) (draws1c : Nat) (l2a : Option Addr) (l2n : Nat) (l2c : Nat) (R : Value → World → Prop) (w : World) : mfunc Try.prog [(0, [1, 5], [(6, (.one (.int .i64)))])] 5 [.slice draws1a draws1n draws1c, .slice l2a l2n l2c] R w = cachettelaw03_OraclePlays.M draws1a draws1n draws1c l2a l2n l2c R w := by kernel_rfl
theorem cachettelaw03_OraclePlays.ok (draws1a : Option Addr) (draws1n : Nat) (draws1c : Nat) (l2a : Option Addr) (l2n : Nat) (l2c : Nat) {R : Value → World → Prop} {w : World} (h : cachettelaw03_OraclePlays.M draws1a draws1n draws1c l2a l2n l2c R w) : Calls Try.prog 5 #[.slice draws1a draws1n draws1c, .slice l2a l2n l2c] w fun e w' => ∃ v, e = .returned v ∧ R v w' :=
  mfunc_ok follows (H := [(0, [1, 5], [(6, (.one (.int .i64)))])]) (args := [.slice draws1a draws1n draws1c, .slice l2a l2n l2c]) (by rw [cachettelaw03_OraclePlays.eq]; exact h)

def cachettelaw03_OraclePlays.N (draws1a : Option Addr) (draws1n : Nat) (draws1c : Nat) (l2a : Option Addr) (l2n : Nat) (l2c : Nat) (R : Value → World → Prop) (w : World) : Prop :=
  Calls Try.prog 13 #[.slice draws1a draws1n draws1c, .slice l2a l2n l2c] w fun ee4 ww5 => ∃ (light3 : Bool), ee4 = .returned (.bool light3) ∧
  (light3 = false →
    Calls Try.prog 6 #[] ww5 fun ee8 ww9 => ∃ (alive7 : Bool), ee8 = .returned (.bool alive7) ∧
    R (.bool alive7) ww9) ∧
  (light3 = true →
    Calls Try.prog 7 #[.slice draws1a draws1n draws1c] ww5 fun ee11 ww12 => ∃ (new10 : Option Addr), ee11 = .returned (.pointer new10) ∧
    ∀ (ww13 : World) (q14 : Nat), Ext no ww12 ww13 → Blk ww13 q14 44 [.slice draws1a draws1n draws1c, .slice none 0 0] → ww12.heap.size ≤ q14 → q14 < ww13.heap.size →
    ∀ (ww15 : World) (q16 : Nat), Ext no ww13 ww15 → Blk ww15 q16 47 [.pointer new10, .pointer (some (blk q14)), .slice none 0 0, .slice none 0 0] → ww13.heap.size ≤ q16 → q16 < ww15.heap.size →
    ∃ (o18 : Option Addr), ww15.cell? ((blk q16).add 0) = some (.pointer o18) ∧
    (o18 = none →
      R (.bool false) ww15) ∧
    (o18 ≠ none →
      Calls Try.prog 6 #[] ww15 fun ee21 ww22 => ∃ (alive20 : Bool), ee21 = .returned (.bool alive20) ∧
      (alive20 = false →
        R (.bool false) ww22) ∧
      (alive20 = true →
        ∃ (I0 : Nat → List Value → World → Prop) (m25 : Nat), I0 m25 [.int .i64 0] ww22 ∧ ∀ (m26 : Nat) (ww27 : World) (i24 : Int), I0 m26 [.int .i64 i24] ww27 →
        (i24 < (l2n : Int) →
          ∃ a30 : Addr, l2a = some a30 ∧
          0 ≤ (i24 : Int) ∧ (i24 : Int) < (l2n : Int) ∧
          ∃ (xKind32 : Int) (xX33 : Int) (xY34 : Int) (xA35a : Option Addr) (xA35n : Nat) (xA35c : Nat) (xB36a : Option Addr) (xB36n : Nat) (xB36c : Nat), cellsAt ww27 (a30.add (Int.toNat i24 * 5)) [.int .i64 xKind32, .int .u64 xX33, .int .u64 xY34, .slice xA35a xA35n xA35c, .slice xB36a xB36n xB36c] 0 ∧
          ∀ (ww29 : World), Ext no ww27 ww29 →
          Calls Try.prog 14 #[.pointer (some (blk q16)), .agg #[.int .i64 xKind32, .int .u64 xX33, .int .u64 xY34, .slice xA35a xA35n xA35c, .slice xB36a xB36n xB36c]] ww29 fun ee38 ww39 => ∃ (dov37 : Bool), ee38 = .returned (.bool dov37) ∧
          (dov37 = false →
            R (.bool false) ww39) ∧
          (dov37 = true →
            ∃ (o42 : Option Addr), ww39.cell? ((blk q16).add 0) = some (.pointer o42) ∧
            ∃ (m44 : Option Addr), ww39.cell? ((blk q16).add 1) = some (.pointer m44) ∧
            ∃ a45 : Addr, m44 = some a45 ∧
            ∃ (L47a : Option Addr) (L47n : Nat) (L47c : Nat), ww39.cell? (a45.add 1) = some (.slice L47a L47n L47c) ∧
            Calls Try.prog 15 #[.pointer o42] ww39 fun ee49 ww50 => ∃ (used48 : Int), ee49 = .returned (.int .i64 used48) ∧
            ww50.cell? (a45.add 1) = some (.slice L47a L47n L47c) ∧
            ww50.cell? ((blk q16).add 1) = some (.pointer m44) ∧
            (used48 ≠ (L47n : Int) →
              R (.bool false) ww50) ∧
            (used48 = (L47n : Int) →
              (-9223372036854775808 : Int) ≤ (i24 + 1) ∧ (i24 + 1) < 9223372036854775808 ∧
              ∃ m54, m54 < m26 ∧ I0 m54 [.int .i64 (i24 + 1)] ww50))) ∧
        ((l2n : Int) ≤ i24 →
          R (.bool true) ww27))))

theorem cachettelaw03_OraclePlays.up (draws1a : Option Addr) (draws1n : Nat) (draws1c : Nat) (l2a : Option Addr) (l2n : Nat) (l2c : Nat) {R : Value → World → Prop} {w : World} (h : cachettelaw03_OraclePlays.N draws1a draws1n draws1c l2a l2n l2c R w) : cachettelaw03_OraclePlays.M draws1a draws1n draws1c l2a l2n l2c R w := by
  unfold cachettelaw03_OraclePlays.M
  unfold cachettelaw03_OraclePlays.N at h
  refine h.mono fun ee4 ww5 h => ?_
  obtain ⟨light3, he, h⟩ := h
  refine ⟨light3, he, ?_⟩
  refine bif_of (fun c6 => ?_) (fun c6 => ?_)
  · have h := h.1 (not_t c6)
    refine h.mono fun ee8 ww9 h => ?_
    obtain ⟨alive7, he, h⟩ := h
    refine ⟨alive7, he, ?_⟩
    exact h
  · have h := h.2 (not_f c6)
    refine h.mono fun ee11 ww12 h => ?_
    obtain ⟨new10, he, h⟩ := h
    refine ⟨new10, he, ?_⟩
    refine thenW_in fun ww13 e13 => ?_
    have h := h ww13 ww12.heap.size ((Ext.refl no ww12).x_alloc e13) (Blk.of_new e13) ((Ext.refl no ww12)).size (size_lt_alloc e13)
    refine thenW_in fun ww15 e15 => ?_
    have h := h ww15 ww13.heap.size ((Ext.refl no ww13).x_alloc e15) (Blk.of_new e15) ((Ext.refl no ww13)).size (size_lt_alloc e15)
    obtain ⟨o18, hc17, h⟩ := h
    refine ⟨o18, hc17, ?_⟩
    refine bif_of (fun c19 => ?_) (fun c19 => ?_)
    · have h := h.1 (isNone_t c19)
      exact h
    · have h := h.2 (isNone_f c19)
      refine h.mono fun ee21 ww22 h => ?_
      obtain ⟨alive20, he, h⟩ := h
      refine ⟨alive20, he, ?_⟩
      refine bif_of (fun c23 => ?_) (fun c23 => ?_)
      · have h := h.1 (not_t c23)
        exact h
      · have h := h.2 (not_f c23)
        obtain ⟨I0, m25, h0, h⟩ := h
        refine ⟨I0, m25, h0, fun m26 ww27 i24 hI => ?_⟩
        have h := h m26 ww27 i24 hI
        refine bif_of (fun c28 => ?_) (fun c28 => ?_)
        · have h := h.1 (of_decide_eq_true c28)
          refine thenW_in fun ww29 e29 => ?_
          have hx29 := (Ext.refl no ww27).x_drew e29
          obtain ⟨a30, ha30, h⟩ := h
          refine elim_some ha30 ?_
          obtain ⟨hq1, hq2, h⟩ := h
          refine ⟨hq1, hq2, ?_⟩
          obtain ⟨xKind32, xX33, xY34, xA35a, xA35n, xA35c, xB36a, xB36n, xB36c, hc31, h⟩ := h
          refine ⟨xKind32, xX33, xY34, xA35a, xA35n, xA35c, xB36a, xB36n, xB36c, cellsAt_no (hx29) hc31, ?_⟩
          have h := h ww29 hx29
          refine h.mono fun ee38 ww39 h => ?_
          obtain ⟨dov37, he, h⟩ := h
          refine ⟨dov37, he, ?_⟩
          refine bif_of (fun c40 => ?_) (fun c40 => ?_)
          · have h := h.1 (not_t c40)
            exact h
          · have h := h.2 (not_f c40)
            obtain ⟨o42, hc41, h⟩ := h
            refine ⟨o42, hc41, ?_⟩
            obtain ⟨m44, hc43, h⟩ := h
            refine ⟨m44, hc43, ?_⟩
            obtain ⟨a45, ha45, h⟩ := h
            refine elim_some ha45 ?_
            obtain ⟨L47a, L47n, L47c, hc46, h⟩ := h
            refine ⟨L47a, L47n, L47c, hc46, ?_⟩
            refine h.mono fun ee49 ww50 h => ?_
            obtain ⟨used48, he, h⟩ := h
            refine ⟨used48, he, ?_⟩
            obtain ⟨ho51, ho52, h⟩ := h
            refine ⟨ho51, ho52, ?_⟩
            refine bif_of (fun c53 => ?_) (fun c53 => ?_)
            · have h := h.1 (bne_t c53)
              exact h
            · have h := h.2 (bne_f c53)
              obtain ⟨hw1, hw2, h⟩ := h
              try rw [w64 hw1 hw2]
              obtain ⟨m54, hk, h⟩ := h
              exact ⟨m54, hk, h⟩
        · have h := h.2 (Int.not_lt.1 (of_decide_eq_false c28))
          exact h

theorem cachettelaw03_OraclePlays.go (draws1a : Option Addr) (draws1n : Nat) (draws1c : Nat) (l2a : Option Addr) (l2n : Nat) (l2c : Nat) {R : Value → World → Prop} {w : World} (h : cachettelaw03_OraclePlays.N draws1a draws1n draws1c l2a l2n l2c R w) : Calls Try.prog 5 #[.slice draws1a draws1n draws1c, .slice l2a l2n l2c] w fun e w' => ∃ v, e = .returned v ∧ R v w' := cachettelaw03_OraclePlays.ok draws1a draws1n draws1c l2a l2n l2c (cachettelaw03_OraclePlays.up draws1a draws1n draws1c l2a l2n l2c h)
theorem cachettelaw03_OraclePlays.run (draws1a : Option Addr) (draws1n : Nat) (draws1c : Nat) (l2a : Option Addr) (l2n : Nat) (l2c : Nat) {V : Value} {Q : World → Prop} {w : World} (h : cachettelaw03_OraclePlays.N draws1a draws1n draws1c l2a l2n l2c (fun v w' => v = V ∧ Q w') w) : Calls Try.prog 5 #[.slice draws1a draws1n draws1c, .slice l2a l2n l2c] w (Ret V Q) := (cachettelaw03_OraclePlays.go draws1a draws1n draws1c l2a l2n l2c h).mono fun e w' ⟨v, he, hv, hq⟩ => ⟨by rw [he, hv], hq⟩

/-- a call that is handed in. -/
structure OpR where
  kd : Int
  x : Int
  y : Int
  aa : Option Addr
  ac : Nat
  A : List UInt8
  ba : Option Addr
  bc : Nat
  B : List UInt8
def OpR.C (p : OpR) : List Value := [.int .i64 p.kd, .int .u64 p.x, .int .u64 p.y, .slice p.aa p.A.length p.ac, .slice p.ba p.B.length p.bc]
theorem OpR.len (p : OpR) : p.C.length = 5 := rfl
structure OpR.good (W : World) (p : OpR) : Prop where
  x : 0 ≤ p.x ∧ p.x < 18446744073709551616
  y : 0 ≤ p.y ∧ p.y < 18446744073709551616
  la : p.A.length ≤ p.ac
  ra : RowAt W p.aa (bytesV p.A)
  lb : p.B.length ≤ p.bc
  rb : RowAt W p.ba (bytesV p.B)
theorem opens_op : Opens Try.prog 50 fun W cs => ∃ p : OpR, cs = p.C ∧ p.good W :=
  (opens_seq (qs := [(1, _), (1, _), (1, _), (1, _), (1, _)]) (size := 5) Try.underlying50 (by kernel_rfl)
    ⟨⟨rfl, by kernel_rfl, opens_int Try.underlying3⟩, ⟨rfl, by kernel_rfl, opens_int Try.underlying27⟩, ⟨rfl, by kernel_rfl, opens_int Try.underlying27⟩,
     ⟨rfl, by kernel_rfl, opens_bytes Try.underlying23 (by kernel_rfl) Try.underlying5⟩, ⟨rfl, by kernel_rfl, opens_bytes Try.underlying23 (by kernel_rfl) Try.underlying5⟩, rfl⟩).mono
    fun W cs ⟨_, _, e0, _, ⟨kd, q0, _⟩, _, _, e1, _, ⟨x, q1, fx⟩, _, _, e2, _, ⟨y, q2, fy⟩, _, _, e3, _, ⟨aa, ac, A, q3, la, _, ra⟩, _, _, e4, _, ⟨ba, bc, B, q4, lb, _, rb⟩, q5⟩ => by
      subst q0; subst q1; subst q2; subst q3; subst q4; subst q5; subst e4; subst e3; subst e2; subst e1; subst e0
      exact ⟨⟨kd, x, y, aa, ac, A, ba, bc, B⟩, rfl, wf_u64 fx, wf_u64 fy, la, ra, lb, rb⟩
def OpsQ (W : World) (cs : List Value) : Prop := ∃ (a : Option Addr) (c : Nat) (l : List OpR), cs = [.slice a l.length c] ∧ l.length ≤ c ∧ c ≤ maxLen ∧ RowAt W a (l.flatMap OpR.C) ∧ ∀ x ∈ l, x.good W
theorem opens_ops : Opens Try.prog 38 OpsQ := opens_rows (size := 5) Try.underlying38 (by kernel_rfl) opens_op
def lightL (d : List Int) (l : List OpR) : Bool := decide (d.length ≤ 100) && decide (l.length ≤ 60) && l.all fun p => decide (p.A.length ≤ 300) && decide (p.B.length ≤ 1500)
section
variable {w W : World} {da la : Option Addr} {dc lc : Nat} {d : List Int} {l : List OpR}
theorem Light_spec (hl : RowAt w la (l.flatMap OpR.C)) : Calls Try.prog 13 #[.slice da d.length dc, .slice la l.length lc] w (Ret (.bool (lightL d l)) fun w' => w' = w) := by
  refine cachettelaw03_Light.run _ _ _ _ _ _ ?_
  unfold cachettelaw03_Light.N
  refine ⟨fun h => ⟨by unfold lightL; rw [show decide (d.length ≤ 100) = false by simp; omega]; rfl, rfl⟩, fun h1 => ⟨fun h => ⟨by unfold lightL; rw [show decide (l.length ≤ 60) = false by simp; omega]; simp, rfl⟩, fun h2 => ?_⟩⟩
  refine ⟨fun q vs w1 => ∃ t : Nat, vs = [.int .i64 t] ∧ q + t = l.length ∧ w1 = w ∧ (l.take t).all (fun p => decide (p.A.length ≤ 300) && decide (p.B.length ≤ 1500)) = true, l.length, ⟨0, rfl, rfl, rfl, rfl⟩, ?_⟩
  rintro q w1 i ⟨t, hi, hq, rfl, hn⟩
  simp only [List.cons.injEq, Value.int.injEq, true_and, and_true] at hi
  subst hi
  refine ⟨fun ht => ?_, fun ht => ?_⟩
  · have htl : t < l.length := by omega
    have hg : l[t]? = some l[t] := List.getElem?_eq_getElem htl
    obtain ⟨ad, rfl⟩ := hl.faddr OpR.len (by decide) htl
    have no : ¬ (l[t].A.length ≤ 300 ∧ l[t].B.length ≤ 1500) → lightL d l = false := fun h => by
      unfold lightL
      rw [show (l.all fun p => decide (p.A.length ≤ 300) && decide (p.B.length ≤ 1500)) = false by rw [List.all_eq_false]; exact ⟨l[t], List.getElem_mem htl, by simpa using h⟩]; simp
    refine ⟨ad, rfl, by omega, by omega, _, _, _, by rw [Int.toNat_natCast]; exact hl.fcell OpR.len hg 3 rfl, fun hA => ⟨by rw [no (by omega)], rfl⟩, fun hA => ⟨by omega, by omega, _, _, _, by rw [Int.toNat_natCast]; exact hl.fcell OpR.len hg 4 rfl, fun hB => ⟨by rw [no (by omega)], rfl⟩, fun hB => ⟨by omega, by omega, q - 1, by omega, t + 1, rfl, by omega, rfl, ?_⟩⟩⟩
    rw [List.take_add_one, hg, List.all_append, hn]
    simp; omega
  · obtain rfl : t = l.length := by omega
    rw [List.take_length] at hn
    refine ⟨?_, rfl⟩
    unfold lightL
    rw [hn, decide_eq_true (show d.length ≤ 100 by omega), decide_eq_true (show l.length ≤ 60 by omega)]
    rfl
theorem OraclePlays_spec (W : World) (hd : RowAt W da (d.map u64V)) (hdc : d.length ≤ dc) (hdr : ∀ x ∈ d, 0 ≤ x ∧ x < 18446744073709551616) (hl : RowAt W la (l.flatMap OpR.C)) (hg : ∀ p ∈ l, p.good W) :
    Calls Try.prog 5 #[.slice da d.length dc, .slice la l.length lc] W (Ret (.bool true) fun w' => Ext no W w') := by
  refine cachettelaw03_OraclePlays.run _ _ _ _ _ _ ?_
  unfold cachettelaw03_OraclePlays.N
  refine (Light_spec hl).mono fun e w5 ⟨he, hw⟩ => ⟨_, he, fun _ => ?_, fun hL => ?_⟩
  · subst hw
    exact (alive_spec _).mono fun e w9 ⟨he, X⟩ => ⟨_, he, rfl, X⟩
  subst hw
  unfold lightL at hL
  simp only [Bool.and_eq_true, decide_eq_true_eq, List.all_eq_true] at hL
  obtain ⟨⟨hL1, hL2⟩, hL3⟩ := hL
  have ok0 : Tags w5 (fun _ => none) := fun b j _ h => by cases h
  have R0 : ∀ {a : Option Addr} {cs : List Value}, RowAt w5 a cs → Row w5 (fun _ => none) a cs := fun h => ⟨h, fun _ _ _ => rfl⟩
  refine (NewO (c := dc) ok0 hd (by omega)).mono fun v w12 ⟨k, o12, hx, hk, s12, P12⟩ => ⟨_, hx, fun w13 j X13 hb13 hj hj' => ?_⟩
  obtain ⟨o13, s13', R13⟩ := ROrc.init X13 hb13 hj hj' s12.ok ((R0 hd).step s12) hdc
  have s13 := s12.trans s13'
  have hkl := P12.lt
  have hkj : k ≠ j := by omega
  have T13 : Two w13 o13 k j (OS.init d) d [] 0 := ⟨P12.step s13' id, R13, Sim.init hdr, OInv.init hdr, ⟨hdr, by simp, fun r hr => by cases hr⟩, s13.ok, hkj⟩
  intro w15 q X15 hb15 hq hq'
  have s15' := (Step.of_no X15 s13.ok)
  have l13 := X13.size
  have l15 := X15.size
  have T15 := T13.step s15'
  have s15a := s15'.tag hq hq'
  have hqk : q ≠ k := by omega
  have hqj : q ≠ j := by omega
  have P15 : PlI w15 (tag (grow w13 o13) q q) q k j (OS.init d) d [] 0 [] [] := ⟨T13.step s15a, ⟨tag_self, ⟨none, 0, none, 0, hb15, Grows.nil _ _ _ _ _, Grows.nil _ _ _ _ _, fun ad h => (by cases h), fun ad h => (by cases h), fun x y h => (by cases h)⟩, fun x hx => (by cases hx), fun x hx => (by cases hx)⟩, hqk, hqj⟩
  have s15 := s13.trans s15a
  refine ⟨_, P15.cell0, fun h => (by cases h), fun _ => ?_⟩
  refine (alive_spec w15).mono fun e w22 ⟨he, X22⟩ => ⟨_, he, fun h => (by cases h), fun _ => ?_⟩
  have s22' := Step.of_no X22 s15.ok
  have s22 := s15.trans s22'
  refine ⟨fun m vs w1 => ∃ t : Nat, vs = [.int .i64 t] ∧ m + t = l.length ∧ ∃ (o1 : Own) (S : OS) (d' : List Int) (L : List RRow) (hs : List Int) (ts : List TB), Step no w5 (fun _ => none) w1 o1 ∧ PlI w1 o1 q k j S d' L (2 * t) hs ts ∧ hs.length ≤ 2 * t ∧ ts.length ≤ 2 * t, l.length, ⟨0, rfl, rfl, _, _, _, _, _, _, s22, P15.step s22', by simp, by simp⟩, ?_⟩
  rintro m w1 i ⟨t, hi, hm, o1, S, d', L, hs, ts, s1, P1, h1, h2⟩
  simp only [List.cons.injEq, Value.int.injEq, true_and, and_true] at hi
  subst hi
  refine ⟨fun ht => ?_, fun ht => ⟨rfl, s1.ext.mono fun b ⟨_, _, h⟩ _ => h⟩⟩
  have htl : t < l.length := by omega
  have hgt : l[t]? = some l[t] := List.getElem?_eq_getElem htl
  have hl1 := (R0 hl).step s1
  obtain ⟨ad, rfl⟩ := hl.faddr OpR.len (by decide) htl
  obtain ⟨g1, g2, g3, g4, g5, g6⟩ := hg _ (List.getElem_mem htl)
  have lg := hL3 _ (List.getElem_mem htl)
  generalize l[t] = p at *
  have hld := RowAt.floads OpR.len hl1.1 hgt
  refine ⟨ad, rfl, by omega, by omega, p.kd, p.x, p.y, p.aa, p.A.length, p.ac, p.ba, p.B.length, p.bc, by rw [Int.toNat_natCast]; exact hld, fun w29 X29 => ?_⟩
  have s29 := Step.of_no X29 s1.ok
  have P29 := P1.step s29
  refine (do_spec P29 (by omega) (by omega) (by omega) p.kd g1.1 g1.2 g2.1 g2.2 (((R0 g4).step s1).step s29) g3 (by omega) (((R0 g6).step s1).step s29) g5 (by omega)).mono fun e w39 ⟨he, o39, S9, d9, L9, hs9, ts9, _, s39, P39, q1, q2⟩ => ⟨_, he, fun h => (by cases h), fun _ => ?_⟩
  obtain ⟨R9, hR9, R9p⟩ := P39.two.r
  have r39 := P39.two.r
  obtain ⟨da', dc', ra', rc', hb39, _⟩ := R9p.at_
  refine ⟨_, P39.cell0, _, P39.cell1, _, rfl, ra', R9.length, rc', hb39.cella (i := 1) rfl, ?_⟩
  refine (UsedO P39.two.p).mono fun e w50 ⟨he, hw⟩ => ⟨_, he, ?_⟩
  subst hw
  refine ⟨hb39.cella (i := 1) rfl, P39.cell1, fun h => absurd ?_ h, fun _ => ⟨by omega, by omega, m - 1, by omega, t + 1, rfl, by omega, o39, S9, d9, L9, hs9, ts9, ?_, P39, by omega, by omega⟩⟩
  · rw [P39.two.sim.us, hR9]; simp
  · exact s1.trans' (s29.none.trans s39) fun i hi => .inr (by omega)
theorem OraclePlays_walk (W : World) (a0 : Option Addr) (len0 cap0 : Nat) (a1 : Option Addr) (len1 cap1 : Nat) (o0 : IntsQ .u64 W [.slice a0 len0 cap0]) (o1 : OpsQ W [.slice a1 len1 cap1]) :
    Calls Try.prog 5 #[.slice a0 len0 cap0, .slice a1 len1 cap1] W (Ret (.bool true) fun w' => Ext no W w') := by
  obtain ⟨_, c0, d, e0, l0, _, r0, f0⟩ := o0
  obtain ⟨_, c1, l, e1, l1, _, r1, f1⟩ := o1
  cases e0; cases e1
  exact OraclePlays_spec W r0 l0 (fun x hx => wf_u64 (f0 x hx)) r1 f1
end
end Go.Proofs.Ytgagmbmkpfjbbaa
