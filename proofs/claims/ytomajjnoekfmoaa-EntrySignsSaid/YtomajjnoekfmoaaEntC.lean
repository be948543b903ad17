/- Entries that are the same; EntryBack. -/
import Derived.Test.YtomajjnoekfmoaaEntB
set_option linter.unusedVariables false
set_option linter.unusedSimpArgs false
set_option maxRecDepth 20000
namespace Go.Proofs.Ytomajjnoekfmoaa
open Go Go.Mx Go.Proofs
open W (OwnB Rd RdR GivesW numR countR doneR zig unzig intR)
/-- cachettelaw06.light -/
def cachettelaw06_light.M (eWriter1 : Int) (eIndex2 : Int) (ePrev3 : Int) (eAtT4 : Int) (eAtW5 : Int) (eEpoch6 : Int) (eBody7a : Option Addr) (eBody7n : Nat) (eBody7c : Nat) (eSig8 : Int) (R : Value → World → Prop) (w : World) : Prop :=
  thenW (w.alloc (.cells #[.int .i64 eWriter1, .int .i64 eIndex2, .int .u64 ePrev3, .int .i64 eAtT4, .int .i64 eAtW5, .int .i64 eEpoch6, .slice eBody7a eBody7n eBody7c, .int .u64 eSig8] 27)) fun ww9 =>
  ∃ (Body10a : Option Addr) (Body10n : Nat) (Body10c : Nat), ww9.cell? ((blk w.heap.size).add 6) = some (.slice Body10a Body10n Body10c) ∧
  R (.bool (decide ((Body10n : Int) ≤ 1500))) ww9

theorem cachettelaw06_light.eq (eWriter1 : Int) (eIndex2 : Int) (ePrev3 : Int) (eAtT4 : Int) (eAtW5 : Int) (eEpoch6 : Int) (eBody7a : Option Addr) (eBody7n : Nat) (eBody7c : Nat) (eSig8 : Int) (R : Value → World → Prop) (w : World) : mfunc Try.prog [] 8 [.agg #[.int .i64 eWriter1, .int .i64 eIndex2, .int .u64 ePrev3, .int .i64 eAtT4, .int .i64 eAtW5, .int .i64 eEpoch6, .slice eBody7a eBody7n eBody7c, .int .u64 eSig8]] R w = cachettelaw06_light.M eWriter1 eIndex2 ePrev3 eAtT4 eAtW5 eEpoch6 eBody7a eBody7n eBody7c eSig8 R w := by kernel_rfl
theorem cachettelaw06_light.ok (eWriter1 : Int) (eIndex2 : Int) (ePrev3 : Int) (eAtT4 : Int) (eAtW5 : Int) (eEpoch6 : Int) (eBody7a : Option Addr) (eBody7n : Nat) (eBody7c : Nat) (eSig8 : Int) {R : Value → World → Prop} {w : World} (h : cachettelaw06_light.M eWriter1 eIndex2 ePrev3 eAtT4 eAtW5 eEpoch6 eBody7a eBody7n eBody7c eSig8 R w) : Calls Try.prog 8 #[.agg #[.int .i64 eWriter1, .int .i64 eIndex2, .int .u64 ePrev3, .int .i64 eAtT4, .int .i64 eAtW5, .int .i64 eEpoch6, .slice eBody7a eBody7n eBody7c, .int .u64 eSig8]] w fun e w' => ∃ v, e = .returned v ∧ R v w' :=
  mfunc_ok follows (H := []) (args := [.agg #[.int .i64 eWriter1, .int .i64 eIndex2, .int .u64 ePrev3, .int .i64 eAtT4, .int .i64 eAtW5, .int .i64 eEpoch6, .slice eBody7a eBody7n eBody7c, .int .u64 eSig8]]) (by rw [cachettelaw06_light.eq]; exact h)

def cachettelaw06_light.N (eWriter1 : Int) (eIndex2 : Int) (ePrev3 : Int) (eAtT4 : Int) (eAtW5 : Int) (eEpoch6 : Int) (eBody7a : Option Addr) (eBody7n : Nat) (eBody7c : Nat) (eSig8 : Int) (R : Value → World → Prop) (w : World) : Prop :=
  ∀ (ww9 : World), Ext no w ww9 →
  R (.bool (decide ((eBody7n : Int) ≤ 1500))) ww9

theorem cachettelaw06_light.up (eWriter1 : Int) (eIndex2 : Int) (ePrev3 : Int) (eAtT4 : Int) (eAtW5 : Int) (eEpoch6 : Int) (eBody7a : Option Addr) (eBody7n : Nat) (eBody7c : Nat) (eSig8 : Int) {R : Value → World → Prop} {w : World} (h : cachettelaw06_light.N eWriter1 eIndex2 ePrev3 eAtT4 eAtW5 eEpoch6 eBody7a eBody7n eBody7c eSig8 R w) : cachettelaw06_light.M eWriter1 eIndex2 ePrev3 eAtT4 eAtW5 eEpoch6 eBody7a eBody7n eBody7c eSig8 R w := by
  unfold cachettelaw06_light.M
  unfold cachettelaw06_light.N at h
  refine thenW_in fun ww9 e9 => ?_
  have hb1 := Blk.of_new e9
  have hg1 := ((Ext.refl no w)).size
  have hx9 := (Ext.refl no w).x_alloc e9
  refine ⟨eBody7a, eBody7n, eBody7c, hb1.celli 6 rfl rfl, ?_⟩
  have h := h ww9 hx9
  exact h

theorem cachettelaw06_light.go (eWriter1 : Int) (eIndex2 : Int) (ePrev3 : Int) (eAtT4 : Int) (eAtW5 : Int) (eEpoch6 : Int) (eBody7a : Option Addr) (eBody7n : Nat) (eBody7c : Nat) (eSig8 : Int) {R : Value → World → Prop} {w : World} (h : cachettelaw06_light.N eWriter1 eIndex2 ePrev3 eAtT4 eAtW5 eEpoch6 eBody7a eBody7n eBody7c eSig8 R w) : Calls Try.prog 8 #[.agg #[.int .i64 eWriter1, .int .i64 eIndex2, .int .u64 ePrev3, .int .i64 eAtT4, .int .i64 eAtW5, .int .i64 eEpoch6, .slice eBody7a eBody7n eBody7c, .int .u64 eSig8]] w fun e w' => ∃ v, e = .returned v ∧ R v w' := cachettelaw06_light.ok eWriter1 eIndex2 ePrev3 eAtT4 eAtW5 eEpoch6 eBody7a eBody7n eBody7c eSig8 (cachettelaw06_light.up eWriter1 eIndex2 ePrev3 eAtT4 eAtW5 eEpoch6 eBody7a eBody7n eBody7c eSig8 h)
theorem cachettelaw06_light.run (eWriter1 : Int) (eIndex2 : Int) (ePrev3 : Int) (eAtT4 : Int) (eAtW5 : Int) (eEpoch6 : Int) (eBody7a : Option Addr) (eBody7n : Nat) (eBody7c : Nat) (eSig8 : Int) {V : Value} {Q : World → Prop} {w : World} (h : cachettelaw06_light.N eWriter1 eIndex2 ePrev3 eAtT4 eAtW5 eEpoch6 eBody7a eBody7n eBody7c eSig8 (fun v w' => v = V ∧ Q w') w) : Calls Try.prog 8 #[.agg #[.int .i64 eWriter1, .int .i64 eIndex2, .int .u64 ePrev3, .int .i64 eAtT4, .int .i64 eAtW5, .int .i64 eEpoch6, .slice eBody7a eBody7n eBody7c, .int .u64 eSig8]] w (Ret V Q) := (cachettelaw06_light.go eWriter1 eIndex2 ePrev3 eAtT4 eAtW5 eEpoch6 eBody7a eBody7n eBody7c eSig8 h).mono fun e w' ⟨v, he, hv, hq⟩ => ⟨by rw [he, hv], hq⟩

def cachettelaw06_light.F (eWriter1 : Int) (eIndex2 : Int) (ePrev3 : Int) (eAtT4 : Int) (eAtW5 : Int) (eEpoch6 : Int) (eBody7a : Option Addr) (eBody7n : Nat) (eBody7c : Nat) (eSig8 : Int) : Bool :=
  (decide ((eBody7n : Int) ≤ 1500))
theorem cachettelaw06_light.pure (eWriter1 : Int) (eIndex2 : Int) (ePrev3 : Int) (eAtT4 : Int) (eAtW5 : Int) (eEpoch6 : Int) (eBody7a : Option Addr) (eBody7n : Nat) (eBody7c : Nat) (eSig8 : Int) {w : World} : Calls Try.prog 8 #[.agg #[.int .i64 eWriter1, .int .i64 eIndex2, .int .u64 ePrev3, .int .i64 eAtT4, .int .i64 eAtW5, .int .i64 eEpoch6, .slice eBody7a eBody7n eBody7c, .int .u64 eSig8]] w (Ret (.bool (cachettelaw06_light.F eWriter1 eIndex2 ePrev3 eAtT4 eAtW5 eEpoch6 eBody7a eBody7n eBody7c eSig8)) fun w' => Ext no w w') := by
  refine cachettelaw06_light.run eWriter1 eIndex2 ePrev3 eAtT4 eAtW5 eEpoch6 eBody7a eBody7n eBody7c eSig8 ?_
  unfold cachettelaw06_light.N
  intro w' hx; exact ⟨by unfold cachettelaw06_light.F; rfl, hx⟩

/-- cachettelaw06.alive -/
def cachettelaw06_alive.M  (R : Value → World → Prop) (w : World) : Prop :=
  thenW (w.alloc (.cells #[.int .u8 120] 5)) fun ww1 =>
  ∃ (c2a : Option Addr) (c2n : Nat) (c2c : Nat) (ww3 : World), (convert 25 25 (.slice (some (blk w.heap.size)) 1 1)).run Try.prog ww1 = .ok (.slice c2a c2n c2c) ww3 ∧
  Calls Try.prog 10 #[.agg #[.int .i64 1, .int .i64 0, .int .u64 0, .int .i64 5, .int .i64 1, .int .i64 0, .slice c2a c2n c2c, .int .u64 9]] ww3 fun ee6 ww7 => ∃ (bytes4a : Option Addr) (bytes4n : Nat) (bytes4c : Nat) (bytes5 : Int), ee6 = .returned (.tuple #[.slice bytes4a bytes4n bytes4c, .int .i64 bytes5]) ∧
  thenW (ww7.alloc (.cells #[.int .u8 1, .int .u8 0, .int .u8 0, .int .u8 10, .int .u8 1, .int .u8 0, .int .u8 1, .int .u8 120, .int .u8 9] 5)) fun ww8 =>
  Calls Try.prog 12 #[.slice (some (blk ww7.heap.size)) 9 9] ww8 fun ee18 ww19 => ∃ (Writer9 : Int) (Index10 : Int) (Prev11 : Int) (AtT12 : Int) (AtW13 : Int) (Epoch14 : Int) (Body15a : Option Addr) (Body15n : Nat) (Body15c : Nat) (Sig16 : Int) (read17 : Int), ee18 = .returned (.tuple #[.agg #[.int .i64 Writer9, .int .i64 Index10, .int .u64 Prev11, .int .i64 AtT12, .int .i64 AtW13, .int .i64 Epoch14, .slice Body15a Body15n Body15c, .int .u64 Sig16], .int .i64 read17]) ∧
  thenW (ww19.alloc (.cells #[.int .i64 0, .int .i64 0, .int .u64 0, .int .i64 0, .int .i64 0, .int .i64 0, .slice none 0 0, .int .u64 0] 27)) fun ww20 =>
  canStore ww20 ((blk ww19.heap.size).add 0) ∧
  thenW (ww20.setCell ((blk ww19.heap.size).add 0) (.int .i64 Writer9)) fun ww21 =>
  canStore ww21 ((blk ww19.heap.size).add 1) ∧
  thenW (ww21.setCell ((blk ww19.heap.size).add 1) (.int .i64 Index10)) fun ww22 =>
  canStore ww22 ((blk ww19.heap.size).add 2) ∧
  thenW (ww22.setCell ((blk ww19.heap.size).add 2) (.int .u64 Prev11)) fun ww23 =>
  canStore ww23 ((blk ww19.heap.size).add 3) ∧
  thenW (ww23.setCell ((blk ww19.heap.size).add 3) (.int .i64 AtT12)) fun ww24 =>
  canStore ww24 ((blk ww19.heap.size).add 4) ∧
  thenW (ww24.setCell ((blk ww19.heap.size).add 4) (.int .i64 AtW13)) fun ww25 =>
  canStore ww25 ((blk ww19.heap.size).add 5) ∧
  thenW (ww25.setCell ((blk ww19.heap.size).add 5) (.int .i64 Epoch14)) fun ww26 =>
  canStore ww26 ((blk ww19.heap.size).add 6) ∧
  thenW (ww26.setCell ((blk ww19.heap.size).add 6) (.slice Body15a Body15n Body15c)) fun ww27 =>
  canStore ww27 ((blk ww19.heap.size).add 7) ∧
  thenW (ww27.setCell ((blk ww19.heap.size).add 7) (.int .u64 Sig16)) fun ww28 =>
  bif bytes5 == 0 then (
  bif read17 == 0 then (
  thenW (ww28.alloc (.cells #[.int .u8 1, .int .u8 0, .int .u8 0, .int .u8 10, .int .u8 1, .int .u8 0, .int .u8 1, .int .u8 120, .int .u8 9] 5)) fun ww29 =>
  Calls Try.prog 14 #[.slice bytes4a bytes4n bytes4c, .slice (some (blk ww28.heap.size)) 9 9] ww29 fun ee31 ww32 => ∃ (same30 : Bool), ee31 = .returned (.bool same30) ∧
  bif same30 then (
  ∃ (Writer33 : Int), ww32.cell? ((blk ww19.heap.size).add 0) = some (.int .i64 Writer33) ∧
  bif Writer33 == 1 then (
  ∃ (Sig34 : Int), ww32.cell? ((blk ww19.heap.size).add 7) = some (.int .u64 Sig34) ∧
  bif Sig34 == 9 then (
  ∃ (T35 : Int), ww32.cell? (((blk ww19.heap.size).add 3).add 0) = some (.int .i64 T35) ∧
  R (.bool (T35 == 5)) ww32) else (
  R (.bool false) ww32)) else (
  R (.bool false) ww32)) else (
  R (.bool false) ww32)) else (
  R (.bool false) ww28)) else (
  R (.bool false) ww28)

theorem cachettelaw06_alive.eq  (R : Value → World → Prop) (w : World) : mfunc Try.prog [] 9 [] R w = cachettelaw06_alive.M  R w := by kernel_rfl
theorem cachettelaw06_alive.ok  {R : Value → World → Prop} {w : World} (h : cachettelaw06_alive.M  R w) : Calls Try.prog 9 #[] w fun e w' => ∃ v, e = .returned v ∧ R v w' :=
  mfunc_ok follows (H := []) (args := []) (by rw [cachettelaw06_alive.eq]; exact h)

def cachettelaw06_alive.N  (R : Value → World → Prop) (w : World) : Prop :=
  ∀ (ww1 : World) (q2 : Nat), Ext no w ww1 → Blk ww1 q2 5 [.int .u8 120] → w.heap.size ≤ q2 → q2 < ww1.heap.size →
  ∃ (c3a : Option Addr) (c3n : Nat) (c3c : Nat) (ww4 : World), (convert 25 25 (.slice (some (blk q2)) 1 1)).run Try.prog ww1 = .ok (.slice c3a c3n c3c) ww4 ∧
  Calls Try.prog 10 #[.agg #[.int .i64 1, .int .i64 0, .int .u64 0, .int .i64 5, .int .i64 1, .int .i64 0, .slice c3a c3n c3c, .int .u64 9]] ww4 fun ee7 ww8 => ∃ (bytes5a : Option Addr) (bytes5n : Nat) (bytes5c : Nat) (bytes6 : Int), ee7 = .returned (.tuple #[.slice bytes5a bytes5n bytes5c, .int .i64 bytes6]) ∧
  ∀ (ww9 : World) (q10 : Nat), Ext no ww8 ww9 → Blk ww9 q10 5 [.int .u8 1, .int .u8 0, .int .u8 0, .int .u8 10, .int .u8 1, .int .u8 0, .int .u8 1, .int .u8 120, .int .u8 9] → ww8.heap.size ≤ q10 → q10 < ww9.heap.size →
  Calls Try.prog 12 #[.slice (some (blk q10)) 9 9] ww9 fun ee20 ww21 => ∃ (Writer11 : Int) (Index12 : Int) (Prev13 : Int) (AtT14 : Int) (AtW15 : Int) (Epoch16 : Int) (Body17a : Option Addr) (Body17n : Nat) (Body17c : Nat) (Sig18 : Int) (read19 : Int), ee20 = .returned (.tuple #[.agg #[.int .i64 Writer11, .int .i64 Index12, .int .u64 Prev13, .int .i64 AtT14, .int .i64 AtW15, .int .i64 Epoch16, .slice Body17a Body17n Body17c, .int .u64 Sig18], .int .i64 read19]) ∧
  (bytes6 = 0 →
    (read19 = 0 →
      ∀ (ww33 : World) (q34 : Nat) (p35 : Nat), Ext no ww21 ww33 → Blk ww33 q34 5 [.int .u8 1, .int .u8 0, .int .u8 0, .int .u8 10, .int .u8 1, .int .u8 0, .int .u8 1, .int .u8 120, .int .u8 9] → ww21.heap.size ≤ q34 → q34 < ww33.heap.size → Privq ww21 q34 [p35] →
      Calls Try.prog 14 #[.slice bytes5a bytes5n bytes5c, .slice (some (blk q34)) 9 9] ww33 fun ee37 ww38 => ∃ (same36 : Bool), ee37 = .returned (.bool same36) ∧
      Keep [p35] ww33 ww38 ∧
      (same36 = true →
        (Writer11 = 1 →
          (Sig18 = 9 →
            R (.bool (AtT14 == 5)) ww38) ∧
          (Sig18 ≠ 9 →
            R (.bool false) ww38)) ∧
        (Writer11 ≠ 1 →
          R (.bool false) ww38)) ∧
      (same36 = false →
        R (.bool false) ww38)) ∧
    (read19 ≠ 0 →
      ∀ (ww30 : World), Ext no ww21 ww30 →
      R (.bool false) ww30)) ∧
  (bytes6 ≠ 0 →
    ∀ (ww30 : World), Ext no ww21 ww30 →
    R (.bool false) ww30)

theorem cachettelaw06_alive.up  {R : Value → World → Prop} {w : World} (h : cachettelaw06_alive.N  R w) : cachettelaw06_alive.M  R w := by
  unfold cachettelaw06_alive.M
  unfold cachettelaw06_alive.N at h
  refine thenW_in fun ww1 e1 => ?_
  have h := h ww1 w.heap.size ((Ext.refl no w).x_alloc e1) (Blk.of_new e1) ((Ext.refl no w)).size (size_lt_alloc e1)
  obtain ⟨c3a, c3n, c3c, ww4, hr, h⟩ := h
  refine ⟨c3a, c3n, c3c, ww4, hr, ?_⟩
  refine h.mono fun ee7 ww8 h => ?_
  obtain ⟨bytes5a, bytes5n, bytes5c, bytes6, he, h⟩ := h
  refine ⟨bytes5a, bytes5n, bytes5c, bytes6, he, ?_⟩
  refine thenW_in fun ww9 e9 => ?_
  have h := h ww9 ww8.heap.size ((Ext.refl no ww8).x_alloc e9) (Blk.of_new e9) ((Ext.refl no ww8)).size (size_lt_alloc e9)
  refine h.mono fun ee20 ww21 h => ?_
  obtain ⟨Writer11, Index12, Prev13, AtT14, AtW15, Epoch16, Body17a, Body17n, Body17c, Sig18, read19, he, h⟩ := h
  refine ⟨Writer11, Index12, Prev13, AtT14, AtW15, Epoch16, Body17a, Body17n, Body17c, Sig18, read19, he, ?_⟩
  refine thenW_in fun ww22 e22 => ?_
  have hb1 := Blk.of_new e22
  have hg1 := ((Ext.refl no ww21)).size
  have hx22 := (Ext.refl no ww21).x_alloc e22
  refine ⟨hb1.cani 0 rfl rfl, thenW_in fun ww23 e23 => ?_⟩
  have hx23 := hx22.x_set (q := ww21.heap.size) (i := 0) rfl (.inr hg1) e23
  have hb1 := hb1.seti 0 rfl e23
  refine ⟨hb1.cani 1 rfl rfl, thenW_in fun ww24 e24 => ?_⟩
  have hx24 := hx23.x_set (q := ww21.heap.size) (i := 1) rfl (.inr hg1) e24
  have hb1 := hb1.seti 1 rfl e24
  refine ⟨hb1.cani 2 rfl rfl, thenW_in fun ww25 e25 => ?_⟩
  have hx25 := hx24.x_set (q := ww21.heap.size) (i := 2) rfl (.inr hg1) e25
  have hb1 := hb1.seti 2 rfl e25
  refine ⟨hb1.cani 3 rfl rfl, thenW_in fun ww26 e26 => ?_⟩
  have hx26 := hx25.x_set (q := ww21.heap.size) (i := 3) rfl (.inr hg1) e26
  have hb1 := hb1.seti 3 rfl e26
  refine ⟨hb1.cani 4 rfl rfl, thenW_in fun ww27 e27 => ?_⟩
  have hx27 := hx26.x_set (q := ww21.heap.size) (i := 4) rfl (.inr hg1) e27
  have hb1 := hb1.seti 4 rfl e27
  refine ⟨hb1.cani 5 rfl rfl, thenW_in fun ww28 e28 => ?_⟩
  have hx28 := hx27.x_set (q := ww21.heap.size) (i := 5) rfl (.inr hg1) e28
  have hb1 := hb1.seti 5 rfl e28
  refine ⟨hb1.cani 6 rfl rfl, thenW_in fun ww29 e29 => ?_⟩
  have hx29 := hx28.x_set (q := ww21.heap.size) (i := 6) rfl (.inr hg1) e29
  have hb1 := hb1.seti 6 rfl e29
  refine ⟨hb1.cani 7 rfl rfl, thenW_in fun ww30 e30 => ?_⟩
  have hx30 := hx29.x_set (q := ww21.heap.size) (i := 7) rfl (.inr hg1) e30
  have hb1 := hb1.seti 7 rfl e30
  refine bif_of (fun c31 => ?_) (fun c31 => ?_)
  · have h := h.1 (beq_t c31)
    refine bif_of (fun c32 => ?_) (fun c32 => ?_)
    · have h := h.1 (beq_t c32)
      refine thenW_in fun ww33 e33 => ?_
      have hl1 := hb1.lt
      have hb1 := hb1.x_alloc e33
      have h := h ww33 ww30.heap.size (ww21.heap.size) (hx30.x_alloc e33) (Blk.of_new e33) (hx30).size (size_lt_alloc e33) (Privq.cons hg1 hl1 Privq.nil)
      refine h.mono fun ee37 ww38 h => ?_
      obtain ⟨same36, he, hk, h⟩ := h
      refine ⟨same36, he, ?_⟩
      have hb1 := hk.blk hb1 (by simp)
      refine bif_of (fun c39 => ?_) (fun c39 => ?_)
      · have h := h.1 c39
        refine ⟨Writer11, hb1.celli 0 rfl rfl, ?_⟩
        refine bif_of (fun c40 => ?_) (fun c40 => ?_)
        · have h := h.1 (beq_t c40)
          refine ⟨Sig18, hb1.celli 7 rfl rfl, ?_⟩
          refine bif_of (fun c41 => ?_) (fun c41 => ?_)
          · have h := h.1 (beq_t c41)
            refine ⟨AtT14, hb1.celli 3 rfl rfl, ?_⟩
            exact h
          · have h := h.2 (beq_f c41)
            exact h
        · have h := h.2 (beq_f c40)
          exact h
      · have h := h.2 c39
        exact h
    · have h := h.2 (beq_f c32)
      have h := h ww30 hx30
      exact h
  · have h := h.2 (beq_f c31)
    have h := h ww30 hx30
    exact h

theorem cachettelaw06_alive.go  {R : Value → World → Prop} {w : World} (h : cachettelaw06_alive.N  R w) : Calls Try.prog 9 #[] w fun e w' => ∃ v, e = .returned v ∧ R v w' := cachettelaw06_alive.ok  (cachettelaw06_alive.up  h)
theorem cachettelaw06_alive.run  {V : Value} {Q : World → Prop} {w : World} (h : cachettelaw06_alive.N  (fun v w' => v = V ∧ Q w') w) : Calls Try.prog 9 #[] w (Ret V Q) := (cachettelaw06_alive.go  h).mono fun e w' ⟨v, he, hv, hq⟩ => ⟨by rw [he, hv], hq⟩

/-- bytes of a literal. -/
theorem litB {w w1 : World} {t e : TypeId} (hs : Try.prog.underlying t = some (.slice e)) (he : Try.prog.underlying e = some (.int .u8)) (bs : List UInt8) {q : Nat} (X : Ext no w w1) (hb : Blk w1 q e (bytesV bs)) (hq : w.heap.size ≤ q) :
    ∃ w2, (convert t t (.slice (some (blk q)) bs.length bs.length)).run Try.prog w1 = .ok (.slice (some (blk q)) bs.length bs.length) w2 ∧ RowAt w2 (some (blk q)) (bytesV bs) ∧ Ext no w w2 :=
  ⟨_, conv_mark hs he hb, (RowAt.of_blk hb).freeze _ _, X.freeze (.inr hq) _⟩
section
variable {w w' : World} {a : Option Addr} {c N p : Nat} {bs : List UInt8} {k : Int}
theorem Equal_spec {b : Option Addr} {d : Nat} {x y : List UInt8} (ha : RowAt w a (bytesV x)) (hb : RowAt w b (bytesV y)) :
    Calls Try.prog 43 #[.slice a x.length c, .slice b y.length d] w (Ret (.bool (decide (x = y))) fun w' => w' = w) := by
  refine bytes_Equal.run _ _ _ _ _ _ ?_
  unfold bytes_Equal.N
  refine ⟨_, conv_str Try.underlying25 Try.underlying5 Try.underlying9 ha, _, conv_str Try.underlying25 Try.underlying5 Try.underlying9 hb, ?_, rfl⟩
  have key := bytes_beq x y
  have e : ∀ s : List UInt8, (ByteArray.mk s.toArray).toList = s := fun s => by
    simp
  congr 1
  rw [e, e, Bool.eq_iff_iff]
  simp
def sameE (e f : Ent) : Bool := decide (e = f)
theorem ESame_spec {e f : Ent} {b : Option Addr} {d : Nat} (ha : RowAt w a (bytesV e.body)) (hb : RowAt w b (bytesV f.body)) :
    Calls Try.prog 13 #[entV e a c, entV f b d] w (Ret (.bool (decide (e = f))) fun w' => Ext no w w') := by
  refine entry_Same.run _ _ _ _ _ _ _ _ _ _ _ _ _ _ _ _ _ _ _ _ ?_
  unfold entry_Same.N
  intro w19 p20 p21 X hp
  refine (Equal_spec (ha.no X) (hb.no X)).mono fun x w24 ⟨he, hw⟩ => ⟨_, he, by subst hw; exact Keep.refl _ _, ?_⟩
  subst hw
  obtain ⟨e1, e2, e3, e4, e5, e6, e7, e8⟩ := e
  obtain ⟨f1, f2, f3, f4, f5, f6, f7, f8⟩ := f
  simp only [Ent.mk.injEq]
  refine ⟨fun h => ?_, fun h => ?_⟩
  · have h := of_decide_eq_true h
    subst h
    refine ⟨fun c1 => ⟨fun c2 => ⟨fun c3 => ⟨fun c4 => ⟨fun c5 => ?_, fun c5 => ?_⟩, fun c4 => ?_⟩, fun c3 => ?_⟩, fun c2 => ?_⟩, fun c1 => ?_⟩ <;> refine ⟨?_, X⟩
    · congr 1; rw [Bool.eq_iff_iff, beq_iff_eq, decide_eq_true_eq]; exact ⟨fun h => ⟨c1, c2, c3, c4.1, c4.2, c5, rfl, h⟩, fun h => h.2.2.2.2.2.2.2⟩
    · rw [decide_eq_false fun h => c5 h.2.2.2.2.2.1]
    · rw [decide_eq_false fun h => c4 ⟨h.2.2.2.1, h.2.2.2.2.1⟩]
    · rw [decide_eq_false fun h => c3 h.2.2.1]
    · rw [decide_eq_false fun h => c2 h.2.1]
    · rw [decide_eq_false fun h => c1 h.1]
  · have h := of_decide_eq_false h
    exact ⟨by rw [decide_eq_false fun q => h q.2.2.2.2.2.2.1], X⟩
theorem alive6_spec (w : World) : Calls Try.prog 9 #[] w (Ret (.bool true) fun w' => Ext no w w') := by
  refine cachettelaw06_alive.run ?_
  unfold cachettelaw06_alive.N
  intro w1 q2 X1 hb1 hq1 hq1'
  obtain ⟨w4, hr4, hrow4, X4⟩ := litB Try.underlying25 Try.underlying5 [120] X1 hb1 hq1
  refine ⟨_, _, _, w4, hr4, ?_⟩
  have hE : entRight ⟨1, 0, 0, 5, 1, 0, [120], 9⟩ = true := by decide
  have hL : bytesL ⟨1, 0, 0, 5, 1, 0, [120], 9⟩ = [1, 0, 0, 10, 1, 0, 1, 120, 9] := by decide
  have hf : Ent.fit ⟨1, 0, 0, 5, 1, 0, [120], 9⟩ := ⟨by decide, by decide, by decide, by decide⟩
  refine (EBytes_spec (e := ⟨1, 0, 0, 5, 1, 0, [120], 9⟩) (fun _ => hf) hrow4).mono fun x w8 ⟨X8, hor⟩ => ?_
  rcases hor with ⟨h, _⟩ | ⟨_, a1, c1, he, hO⟩
  · rw [hE] at h; cases h
  rw [hL] at he hO
  refine ⟨_, _, _, _, he, fun w9 q10 X9 hb9 hq9 hq9' => ?_⟩
  have hrd := readE_write hE hf
  rw [hL] at hrd
  refine (Read_spec (bs := [1, 0, 0, 10, 1, 0, 1, 120, 9]) (c := 9) (RowAt.of_blk hb9) (by decide) (by decide)).mono fun x w21 ⟨ra, rc, he, hra, hro, X21⟩ => ?_
  rw [hrd] at he
  refine ⟨_, _, _, _, _, _, _, _, _, _, _, he, fun _ => ⟨fun _ => ?_, fun h => absurd rfl h⟩, fun h => absurd rfl h⟩
  intro w33 q34 p35 X33 hb33 hq33 hq33' hp
  have Y := (((X4.trans X8).trans X9).trans X21).trans X33
  refine (W.sameB_spec (x := [1, 0, 0, 10, 1, 0, 1, 120, 9]) (y := [1, 0, 0, 10, 1, 0, 1, 120, 9]) (d := 9) (((hO.no X9).no X21).no X33).row (RowAt.of_blk hb33) (by decide)).mono fun x w38 ⟨he, X38⟩ => ⟨_, he, X38.kept, fun _ => ⟨fun _ => ⟨fun _ => ⟨rfl, Y.trans X38⟩, fun h => absurd rfl h⟩, fun h => absurd rfl h⟩, fun h => ?_⟩
  simp at h
end
end Go.Proofs.Ytomajjnoekfmoaa
