/- Entries: sums, signatures, and whether they hold (the program's). -/
import Derived.Test.YtnppbflccbpoeaaZB
import Derived.Test.YtnppbflccbpoeaaZA
set_option linter.unusedVariables false
set_option linter.unusedSimpArgs false
set_option maxRecDepth 20000
namespace Go.Proofs.Ytnppbflccbpoeaa
open Go Go.Mx Go.Proofs
open W (OwnB GivesW numR countR doneR zig unzig intR)
/-- bytes.Clone -/
def bytes_Clone.M (b1a : Option Addr) (b1n : Nat) (b1c : Nat) (R : Value → World → Prop) (w : World) : Prop :=
  bif Option.isNone b1a then (
  R (.slice none 0 0) w) else (
  thenW (w.alloc (.cells #[] 5)) fun ww2 =>
  ∃ (a3a : Option Addr) (a3n : Nat) (a3c : Nat) (ww4 : World), (Builtin.append_ #[24, 24] 24 #[.slice (some (blk w.heap.size)) 0 0, .slice b1a b1n b1c]).run Try.prog ww2 = .ok (.slice a3a a3n a3c) ww4 ∧
  R (.slice a3a a3n a3c) ww4)

theorem bytes_Clone.eq (b1a : Option Addr) (b1n : Nat) (b1c : Nat) (R : Value → World → Prop) (w : World) : mfunc Try.prog [] 59 [.slice b1a b1n b1c] R w = bytes_Clone.M b1a b1n b1c R w := by kernel_rfl
theorem bytes_Clone.ok (b1a : Option Addr) (b1n : Nat) (b1c : Nat) {R : Value → World → Prop} {w : World} (h : bytes_Clone.M b1a b1n b1c R w) : Calls Try.prog 59 #[.slice b1a b1n b1c] w fun e w' => ∃ v, e = .returned v ∧ R v w' :=
  mfunc_ok follows (H := []) (args := [.slice b1a b1n b1c]) (by rw [bytes_Clone.eq]; exact h)

def bytes_Clone.N (b1a : Option Addr) (b1n : Nat) (b1c : Nat) (R : Value → World → Prop) (w : World) : Prop :=
  (b1a = none →
    R (.slice none 0 0) w) ∧
  (b1a ≠ none →
    ∀ (ww3 : World) (q4 : Nat), Ext no w ww3 → Blk ww3 q4 5 [] → w.heap.size ≤ q4 → q4 < ww3.heap.size →
    ∃ (a5a : Option Addr) (a5n : Nat) (a5c : Nat) (ww6 : World), (Builtin.append_ #[24, 24] 24 #[.slice (some (blk q4)) 0 0, .slice b1a b1n b1c]).run Try.prog ww3 = .ok (.slice a5a a5n a5c) ww6 ∧
    R (.slice a5a a5n a5c) ww6)

theorem bytes_Clone.up (b1a : Option Addr) (b1n : Nat) (b1c : Nat) {R : Value → World → Prop} {w : World} (h : bytes_Clone.N b1a b1n b1c R w) : bytes_Clone.M b1a b1n b1c R w := by
  unfold bytes_Clone.M
  unfold bytes_Clone.N at h
  refine bif_of (fun c2 => ?_) (fun c2 => ?_)
  · have h := h.1 (isNone_t c2)
    exact h
  · have h := h.2 (isNone_f c2)
    refine thenW_in fun ww3 e3 => ?_
    have h := h ww3 w.heap.size ((Ext.refl no w).x_alloc e3) (Blk.of_new e3) ((Ext.refl no w)).size (size_lt_alloc e3)
    obtain ⟨a5a, a5n, a5c, ww6, hr, h⟩ := h
    refine ⟨a5a, a5n, a5c, ww6, hr, ?_⟩
    exact h

theorem bytes_Clone.go (b1a : Option Addr) (b1n : Nat) (b1c : Nat) {R : Value → World → Prop} {w : World} (h : bytes_Clone.N b1a b1n b1c R w) : Calls Try.prog 59 #[.slice b1a b1n b1c] w fun e w' => ∃ v, e = .returned v ∧ R v w' := bytes_Clone.ok b1a b1n b1c (bytes_Clone.up b1a b1n b1c h)
theorem bytes_Clone.run (b1a : Option Addr) (b1n : Nat) (b1c : Nat) {V : Value} {Q : World → Prop} {w : World} (h : bytes_Clone.N b1a b1n b1c (fun v w' => v = V ∧ Q w') w) : Calls Try.prog 59 #[.slice b1a b1n b1c] w (Ret V Q) := (bytes_Clone.go b1a b1n b1c h).mono fun e w' ⟨v, he, hv, hq⟩ => ⟨by rw [he, hv], hq⟩

/-- entry.Sum -/
def entry_Sum.M (o1 : Option Addr) (eWriter2 : Int) (eIndex3 : Int) (ePrev4 : Int) (eAtT5 : Int) (eAtW6 : Int) (eEpoch7 : Int) (eBody8a : Option Addr) (eBody8n : Nat) (eBody8c : Nat) (eSig9 : Int) (R : Value → World → Prop) (w : World) : Prop :=
  thenW (w.alloc (.cells #[.int .i64 eWriter2, .int .i64 eIndex3, .int .u64 ePrev4, .int .i64 eAtT5, .int .i64 eAtW6, .int .i64 eEpoch7, .slice eBody8a eBody8n eBody8c, .int .u64 eSig9] 39)) fun ww10 =>
  ∃ (xWriter11 : Int) (xIndex12 : Int) (xPrev13 : Int) (xAtT14 : Int) (xAtW15 : Int) (xEpoch16 : Int) (xBody17a : Option Addr) (xBody17n : Nat) (xBody17c : Nat) (xSig18 : Int), cellsAt ww10 (blk w.heap.size) [.int .i64 xWriter11, .int .i64 xIndex12, .int .u64 xPrev13, .int .i64 xAtT14, .int .i64 xAtW15, .int .i64 xEpoch16, .slice xBody17a xBody17n xBody17c, .int .u64 xSig18] 0 ∧
  Calls Try.prog 69 #[.agg #[.int .i64 xWriter11, .int .i64 xIndex12, .int .u64 xPrev13, .int .i64 xAtT14, .int .i64 xAtW15, .int .i64 xEpoch16, .slice xBody17a xBody17n xBody17c, .int .u64 xSig18]] ww10 fun ee21 ww22 => ∃ (bytes19a : Option Addr) (bytes19n : Nat) (bytes19c : Nat) (bytes20 : Int), ee21 = .returned (.tuple #[.slice bytes19a bytes19n bytes19c, .int .i64 bytes20]) ∧
  bif bytes20 != 0 then (
  R (.tuple #[.int .u64 0, .int .i64 bytes20]) ww22) else (
  bif Option.isNone o1 then (
  R (.tuple #[.int .u64 0, .int .i64 23]) ww22) else (
  Calls Try.prog 70 #[.pointer o1, .slice bytes19a bytes19n bytes19c] ww22 fun ee24 ww25 => ∃ (hash23 : Int), ee24 = .returned (.int .u64 hash23) ∧
  R (.tuple #[.int .u64 hash23, .int .i64 0]) ww25))

theorem entry_Sum.eq (o1 : Option Addr) (eWriter2 : Int) (eIndex3 : Int) (ePrev4 : Int) (eAtT5 : Int) (eAtW6 : Int) (eEpoch7 : Int) (eBody8a : Option Addr) (eBody8n : Nat) (eBody8c : Nat) (eSig9 : Int) (R : Value → World → Prop) (w : World) : mfunc Try.prog [] 51 [.pointer o1, .agg #[.int .i64 eWriter2, .int .i64 eIndex3, .int .u64 ePrev4, .int .i64 eAtT5, .int .i64 eAtW6, .int .i64 eEpoch7, .slice eBody8a eBody8n eBody8c, .int .u64 eSig9]] R w = entry_Sum.M o1 eWriter2 eIndex3 ePrev4 eAtT5 eAtW6 eEpoch7 eBody8a eBody8n eBody8c eSig9 R w := by kernel_rfl
theorem entry_Sum.ok (o1 : Option Addr) (eWriter2 : Int) (eIndex3 : Int) (ePrev4 : Int) (eAtT5 : Int) (eAtW6 : Int) (eEpoch7 : Int) (eBody8a : Option Addr) (eBody8n : Nat) (eBody8c : Nat) (eSig9 : Int) {R : Value → World → Prop} {w : World} (h : entry_Sum.M o1 eWriter2 eIndex3 ePrev4 eAtT5 eAtW6 eEpoch7 eBody8a eBody8n eBody8c eSig9 R w) : Calls Try.prog 51 #[.pointer o1, .agg #[.int .i64 eWriter2, .int .i64 eIndex3, .int .u64 ePrev4, .int .i64 eAtT5, .int .i64 eAtW6, .int .i64 eEpoch7, .slice eBody8a eBody8n eBody8c, .int .u64 eSig9]] w fun e w' => ∃ v, e = .returned v ∧ R v w' :=
  mfunc_ok follows (H := []) (args := [.pointer o1, .agg #[.int .i64 eWriter2, .int .i64 eIndex3, .int .u64 ePrev4, .int .i64 eAtT5, .int .i64 eAtW6, .int .i64 eEpoch7, .slice eBody8a eBody8n eBody8c, .int .u64 eSig9]]) (by rw [entry_Sum.eq]; exact h)

def entry_Sum.N (o1 : Option Addr) (eWriter2 : Int) (eIndex3 : Int) (ePrev4 : Int) (eAtT5 : Int) (eAtW6 : Int) (eEpoch7 : Int) (eBody8a : Option Addr) (eBody8n : Nat) (eBody8c : Nat) (eSig9 : Int) (R : Value → World → Prop) (w : World) : Prop :=
  ∀ (ww10 : World), Ext no w ww10 →
  Calls Try.prog 69 #[.agg #[.int .i64 eWriter2, .int .i64 eIndex3, .int .u64 ePrev4, .int .i64 eAtT5, .int .i64 eAtW6, .int .i64 eEpoch7, .slice eBody8a eBody8n eBody8c, .int .u64 eSig9]] ww10 fun ee14 ww15 => ∃ (bytes12a : Option Addr) (bytes12n : Nat) (bytes12c : Nat) (bytes13 : Int), ee14 = .returned (.tuple #[.slice bytes12a bytes12n bytes12c, .int .i64 bytes13]) ∧
  (bytes13 ≠ 0 →
    R (.tuple #[.int .u64 0, .int .i64 bytes13]) ww15) ∧
  (bytes13 = 0 →
    (o1 = none →
      R (.tuple #[.int .u64 0, .int .i64 23]) ww15) ∧
    (o1 ≠ none →
      Calls Try.prog 70 #[.pointer o1, .slice bytes12a bytes12n bytes12c] ww15 fun ee19 ww20 => ∃ (hash18 : Int), ee19 = .returned (.int .u64 hash18) ∧
      R (.tuple #[.int .u64 hash18, .int .i64 0]) ww20))

theorem entry_Sum.up (o1 : Option Addr) (eWriter2 : Int) (eIndex3 : Int) (ePrev4 : Int) (eAtT5 : Int) (eAtW6 : Int) (eEpoch7 : Int) (eBody8a : Option Addr) (eBody8n : Nat) (eBody8c : Nat) (eSig9 : Int) {R : Value → World → Prop} {w : World} (h : entry_Sum.N o1 eWriter2 eIndex3 ePrev4 eAtT5 eAtW6 eEpoch7 eBody8a eBody8n eBody8c eSig9 R w) : entry_Sum.M o1 eWriter2 eIndex3 ePrev4 eAtT5 eAtW6 eEpoch7 eBody8a eBody8n eBody8c eSig9 R w := by
  unfold entry_Sum.M
  unfold entry_Sum.N at h
  refine thenW_in fun ww10 e10 => ?_
  have hb1 := Blk.of_new e10
  have hg1 := ((Ext.refl no w)).size
  have hx10 := (Ext.refl no w).x_alloc e10
  refine ⟨eWriter2, eIndex3, ePrev4, eAtT5, eAtW6, eEpoch7, eBody8a, eBody8n, eBody8c, eSig9, ⟨hb1.celli 0 rfl rfl, hb1.celli 1 rfl rfl, hb1.celli 2 rfl rfl, hb1.celli 3 rfl rfl, hb1.celli 4 rfl rfl, hb1.celli 5 rfl rfl, hb1.celli 6 rfl rfl, hb1.celli 7 rfl rfl, trivial⟩, ?_⟩
  have h := h ww10 hx10
  refine h.mono fun ee14 ww15 h => ?_
  obtain ⟨bytes12a, bytes12n, bytes12c, bytes13, he, h⟩ := h
  refine ⟨bytes12a, bytes12n, bytes12c, bytes13, he, ?_⟩
  refine bif_of (fun c16 => ?_) (fun c16 => ?_)
  · have h := h.1 (bne_t c16)
    exact h
  · have h := h.2 (bne_f c16)
    refine bif_of (fun c17 => ?_) (fun c17 => ?_)
    · have h := h.1 (isNone_t c17)
      exact h
    · have h := h.2 (isNone_f c17)
      refine h.mono fun ee19 ww20 h => ?_
      obtain ⟨hash18, he, h⟩ := h
      refine ⟨hash18, he, ?_⟩
      exact h

theorem entry_Sum.go (o1 : Option Addr) (eWriter2 : Int) (eIndex3 : Int) (ePrev4 : Int) (eAtT5 : Int) (eAtW6 : Int) (eEpoch7 : Int) (eBody8a : Option Addr) (eBody8n : Nat) (eBody8c : Nat) (eSig9 : Int) {R : Value → World → Prop} {w : World} (h : entry_Sum.N o1 eWriter2 eIndex3 ePrev4 eAtT5 eAtW6 eEpoch7 eBody8a eBody8n eBody8c eSig9 R w) : Calls Try.prog 51 #[.pointer o1, .agg #[.int .i64 eWriter2, .int .i64 eIndex3, .int .u64 ePrev4, .int .i64 eAtT5, .int .i64 eAtW6, .int .i64 eEpoch7, .slice eBody8a eBody8n eBody8c, .int .u64 eSig9]] w fun e w' => ∃ v, e = .returned v ∧ R v w' := entry_Sum.ok o1 eWriter2 eIndex3 ePrev4 eAtT5 eAtW6 eEpoch7 eBody8a eBody8n eBody8c eSig9 (entry_Sum.up o1 eWriter2 eIndex3 ePrev4 eAtT5 eAtW6 eEpoch7 eBody8a eBody8n eBody8c eSig9 h)
theorem entry_Sum.run (o1 : Option Addr) (eWriter2 : Int) (eIndex3 : Int) (ePrev4 : Int) (eAtT5 : Int) (eAtW6 : Int) (eEpoch7 : Int) (eBody8a : Option Addr) (eBody8n : Nat) (eBody8c : Nat) (eSig9 : Int) {V : Value} {Q : World → Prop} {w : World} (h : entry_Sum.N o1 eWriter2 eIndex3 ePrev4 eAtT5 eAtW6 eEpoch7 eBody8a eBody8n eBody8c eSig9 (fun v w' => v = V ∧ Q w') w) : Calls Try.prog 51 #[.pointer o1, .agg #[.int .i64 eWriter2, .int .i64 eIndex3, .int .u64 ePrev4, .int .i64 eAtT5, .int .i64 eAtW6, .int .i64 eEpoch7, .slice eBody8a eBody8n eBody8c, .int .u64 eSig9]] w (Ret V Q) := (entry_Sum.go o1 eWriter2 eIndex3 ePrev4 eAtT5 eAtW6 eEpoch7 eBody8a eBody8n eBody8c eSig9 h).mono fun e w' ⟨v, he, hv, hq⟩ => ⟨by rw [he, hv], hq⟩

/-- entry.Sign -/
def entry_Sign.M (o1 : Option Addr) (secret2 : Int) (eWriter3 : Int) (eIndex4 : Int) (ePrev5 : Int) (eAtT6 : Int) (eAtW7 : Int) (eEpoch8 : Int) (eBody9a : Option Addr) (eBody9n : Nat) (eBody9c : Nat) (eSig10 : Int) (R : Value → World → Prop) (w : World) : Prop :=
  thenW (w.alloc (.cells #[.int .i64 eWriter3, .int .i64 eIndex4, .int .u64 ePrev5, .int .i64 eAtT6, .int .i64 eAtW7, .int .i64 eEpoch8, .slice eBody9a eBody9n eBody9c, .int .u64 eSig10] 39)) fun ww11 =>
  thenW (ww11.alloc (.cells #[.int .i64 0, .int .i64 0, .int .u64 0, .int .i64 0, .int .i64 0, .int .i64 0, .slice none 0 0, .int .u64 0] 39)) fun ww12 =>
  ∃ (xWriter13 : Int) (xIndex14 : Int) (xPrev15 : Int) (xAtT16 : Int) (xAtW17 : Int) (xEpoch18 : Int) (xBody19a : Option Addr) (xBody19n : Nat) (xBody19c : Nat) (xSig20 : Int), cellsAt ww12 (blk w.heap.size) [.int .i64 xWriter13, .int .i64 xIndex14, .int .u64 xPrev15, .int .i64 xAtT16, .int .i64 xAtW17, .int .i64 xEpoch18, .slice xBody19a xBody19n xBody19c, .int .u64 xSig20] 0 ∧
  Calls Try.prog 57 #[.agg #[.int .i64 xWriter13, .int .i64 xIndex14, .int .u64 xPrev15, .int .i64 xAtT16, .int .i64 xAtW17, .int .i64 xEpoch18, .slice xBody19a xBody19n xBody19c, .int .u64 xSig20]] ww12 fun ee23 ww24 => ∃ (text21a : Option Addr) (text21n : Nat) (text21c : Nat) (text22 : Int), ee23 = .returned (.tuple #[.slice text21a text21n text21c, .int .i64 text22]) ∧
  bif text22 != 0 then (
  canStore ww24 ((blk ww11.heap.size).add 0) ∧
  thenW (ww24.setCell ((blk ww11.heap.size).add 0) (.int .i64 0)) fun ww25 =>
  canStore ww25 ((blk ww11.heap.size).add 1) ∧
  thenW (ww25.setCell ((blk ww11.heap.size).add 1) (.int .i64 0)) fun ww26 =>
  canStore ww26 ((blk ww11.heap.size).add 2) ∧
  thenW (ww26.setCell ((blk ww11.heap.size).add 2) (.int .u64 0)) fun ww27 =>
  canStore ww27 ((blk ww11.heap.size).add 3) ∧
  thenW (ww27.setCell ((blk ww11.heap.size).add 3) (.int .i64 0)) fun ww28 =>
  canStore ww28 ((blk ww11.heap.size).add 4) ∧
  thenW (ww28.setCell ((blk ww11.heap.size).add 4) (.int .i64 0)) fun ww29 =>
  canStore ww29 ((blk ww11.heap.size).add 5) ∧
  thenW (ww29.setCell ((blk ww11.heap.size).add 5) (.int .i64 0)) fun ww30 =>
  canStore ww30 ((blk ww11.heap.size).add 6) ∧
  thenW (ww30.setCell ((blk ww11.heap.size).add 6) (.slice none 0 0)) fun ww31 =>
  canStore ww31 ((blk ww11.heap.size).add 7) ∧
  thenW (ww31.setCell ((blk ww11.heap.size).add 7) (.int .u64 0)) fun ww32 =>
  ∃ (resWriter33 : Int) (resIndex34 : Int) (resPrev35 : Int) (resAtT36 : Int) (resAtW37 : Int) (resEpoch38 : Int) (resBody39a : Option Addr) (resBody39n : Nat) (resBody39c : Nat) (resSig40 : Int), cellsAt ww32 (blk ww11.heap.size) [.int .i64 resWriter33, .int .i64 resIndex34, .int .u64 resPrev35, .int .i64 resAtT36, .int .i64 resAtW37, .int .i64 resEpoch38, .slice resBody39a resBody39n resBody39c, .int .u64 resSig40] 0 ∧
  R (.tuple #[.agg #[.int .i64 resWriter33, .int .i64 resIndex34, .int .u64 resPrev35, .int .i64 resAtT36, .int .i64 resAtW37, .int .i64 resEpoch38, .slice resBody39a resBody39n resBody39c, .int .u64 resSig40], .int .i64 text22]) ww32) else (
  Calls Try.prog 58 #[.pointer o1, .int .u64 secret2, .slice text21a text21n text21c] ww24 fun ee43 ww44 => ∃ (sign41 : Int) (sign42 : Int), ee43 = .returned (.tuple #[.int .u64 sign41, .int .i64 sign42]) ∧
  canStore ww44 (((blk w.heap.size).add 7).add 0) ∧
  thenW (ww44.setCell (((blk w.heap.size).add 7).add 0) (.int .u64 sign41)) fun ww45 =>
  bif sign42 != 0 then (
  canStore ww45 ((blk ww11.heap.size).add 0) ∧
  thenW (ww45.setCell ((blk ww11.heap.size).add 0) (.int .i64 0)) fun ww46 =>
  canStore ww46 ((blk ww11.heap.size).add 1) ∧
  thenW (ww46.setCell ((blk ww11.heap.size).add 1) (.int .i64 0)) fun ww47 =>
  canStore ww47 ((blk ww11.heap.size).add 2) ∧
  thenW (ww47.setCell ((blk ww11.heap.size).add 2) (.int .u64 0)) fun ww48 =>
  canStore ww48 ((blk ww11.heap.size).add 3) ∧
  thenW (ww48.setCell ((blk ww11.heap.size).add 3) (.int .i64 0)) fun ww49 =>
  canStore ww49 ((blk ww11.heap.size).add 4) ∧
  thenW (ww49.setCell ((blk ww11.heap.size).add 4) (.int .i64 0)) fun ww50 =>
  canStore ww50 ((blk ww11.heap.size).add 5) ∧
  thenW (ww50.setCell ((blk ww11.heap.size).add 5) (.int .i64 0)) fun ww51 =>
  canStore ww51 ((blk ww11.heap.size).add 6) ∧
  thenW (ww51.setCell ((blk ww11.heap.size).add 6) (.slice none 0 0)) fun ww52 =>
  canStore ww52 ((blk ww11.heap.size).add 7) ∧
  thenW (ww52.setCell ((blk ww11.heap.size).add 7) (.int .u64 0)) fun ww53 =>
  ∃ (resWriter54 : Int) (resIndex55 : Int) (resPrev56 : Int) (resAtT57 : Int) (resAtW58 : Int) (resEpoch59 : Int) (resBody60a : Option Addr) (resBody60n : Nat) (resBody60c : Nat) (resSig61 : Int), cellsAt ww53 (blk ww11.heap.size) [.int .i64 resWriter54, .int .i64 resIndex55, .int .u64 resPrev56, .int .i64 resAtT57, .int .i64 resAtW58, .int .i64 resEpoch59, .slice resBody60a resBody60n resBody60c, .int .u64 resSig61] 0 ∧
  R (.tuple #[.agg #[.int .i64 resWriter54, .int .i64 resIndex55, .int .u64 resPrev56, .int .i64 resAtT57, .int .i64 resAtW58, .int .i64 resEpoch59, .slice resBody60a resBody60n resBody60c, .int .u64 resSig61], .int .i64 sign42]) ww53) else (
  ∃ (Body62a : Option Addr) (Body62n : Nat) (Body62c : Nat), ww45.cell? ((blk w.heap.size).add 6) = some (.slice Body62a Body62n Body62c) ∧
  Calls Try.prog 59 #[.slice Body62a Body62n Body62c] ww45 fun ee64 ww65 => ∃ (clone63a : Option Addr) (clone63n : Nat) (clone63c : Nat), ee64 = .returned (.slice clone63a clone63n clone63c) ∧
  canStore ww65 (((blk w.heap.size).add 6).add 0) ∧
  thenW (ww65.setCell (((blk w.heap.size).add 6).add 0) (.slice clone63a clone63n clone63c)) fun ww66 =>
  ∃ (xWriter67 : Int) (xIndex68 : Int) (xPrev69 : Int) (xAtT70 : Int) (xAtW71 : Int) (xEpoch72 : Int) (xBody73a : Option Addr) (xBody73n : Nat) (xBody73c : Nat) (xSig74 : Int), cellsAt ww66 (blk w.heap.size) [.int .i64 xWriter67, .int .i64 xIndex68, .int .u64 xPrev69, .int .i64 xAtT70, .int .i64 xAtW71, .int .i64 xEpoch72, .slice xBody73a xBody73n xBody73c, .int .u64 xSig74] 0 ∧
  canStore ww66 ((blk ww11.heap.size).add 0) ∧
  thenW (ww66.setCell ((blk ww11.heap.size).add 0) (.int .i64 xWriter67)) fun ww75 =>
  canStore ww75 ((blk ww11.heap.size).add 1) ∧
  thenW (ww75.setCell ((blk ww11.heap.size).add 1) (.int .i64 xIndex68)) fun ww76 =>
  canStore ww76 ((blk ww11.heap.size).add 2) ∧
  thenW (ww76.setCell ((blk ww11.heap.size).add 2) (.int .u64 xPrev69)) fun ww77 =>
  canStore ww77 ((blk ww11.heap.size).add 3) ∧
  thenW (ww77.setCell ((blk ww11.heap.size).add 3) (.int .i64 xAtT70)) fun ww78 =>
  canStore ww78 ((blk ww11.heap.size).add 4) ∧
  thenW (ww78.setCell ((blk ww11.heap.size).add 4) (.int .i64 xAtW71)) fun ww79 =>
  canStore ww79 ((blk ww11.heap.size).add 5) ∧
  thenW (ww79.setCell ((blk ww11.heap.size).add 5) (.int .i64 xEpoch72)) fun ww80 =>
  canStore ww80 ((blk ww11.heap.size).add 6) ∧
  thenW (ww80.setCell ((blk ww11.heap.size).add 6) (.slice xBody73a xBody73n xBody73c)) fun ww81 =>
  canStore ww81 ((blk ww11.heap.size).add 7) ∧
  thenW (ww81.setCell ((blk ww11.heap.size).add 7) (.int .u64 xSig74)) fun ww82 =>
  ∃ (resWriter83 : Int) (resIndex84 : Int) (resPrev85 : Int) (resAtT86 : Int) (resAtW87 : Int) (resEpoch88 : Int) (resBody89a : Option Addr) (resBody89n : Nat) (resBody89c : Nat) (resSig90 : Int), cellsAt ww82 (blk ww11.heap.size) [.int .i64 resWriter83, .int .i64 resIndex84, .int .u64 resPrev85, .int .i64 resAtT86, .int .i64 resAtW87, .int .i64 resEpoch88, .slice resBody89a resBody89n resBody89c, .int .u64 resSig90] 0 ∧
  R (.tuple #[.agg #[.int .i64 resWriter83, .int .i64 resIndex84, .int .u64 resPrev85, .int .i64 resAtT86, .int .i64 resAtW87, .int .i64 resEpoch88, .slice resBody89a resBody89n resBody89c, .int .u64 resSig90], .int .i64 0]) ww82))

theorem entry_Sign.eq (o1 : Option Addr) (secret2 : Int) (eWriter3 : Int) (eIndex4 : Int) (ePrev5 : Int) (eAtT6 : Int) (eAtW7 : Int) (eEpoch8 : Int) (eBody9a : Option Addr) (eBody9n : Nat) (eBody9c : Nat) (eSig10 : Int) (R : Value → World → Prop) (w : World) : mfunc Try.prog [] 40 [.pointer o1, .int .u64 secret2, .agg #[.int .i64 eWriter3, .int .i64 eIndex4, .int .u64 ePrev5, .int .i64 eAtT6, .int .i64 eAtW7, .int .i64 eEpoch8, .slice eBody9a eBody9n eBody9c, .int .u64 eSig10]] R w = entry_Sign.M o1 secret2 eWriter3 eIndex4 ePrev5 eAtT6 eAtW7 eEpoch8 eBody9a eBody9n eBody9c eSig10 R w := by kernel_rfl
theorem entry_Sign.ok (o1 : Option Addr) (secret2 : Int) (eWriter3 : Int) (eIndex4 : Int) (ePrev5 : Int) (eAtT6 : Int) (eAtW7 : Int) (eEpoch8 : Int) (eBody9a : Option Addr) (eBody9n : Nat) (eBody9c : Nat) (eSig10 : Int) {R : Value → World → Prop} {w : World} (h : entry_Sign.M o1 secret2 eWriter3 eIndex4 ePrev5 eAtT6 eAtW7 eEpoch8 eBody9a eBody9n eBody9c eSig10 R w) : Calls Try.prog 40 #[.pointer o1, .int .u64 secret2, .agg #[.int .i64 eWriter3, .int .i64 eIndex4, .int .u64 ePrev5, .int .i64 eAtT6, .int .i64 eAtW7, .int .i64 eEpoch8, .slice eBody9a eBody9n eBody9c, .int .u64 eSig10]] w fun e w' => ∃ v, e = .returned v ∧ R v w' :=
  mfunc_ok follows (H := []) (args := [.pointer o1, .int .u64 secret2, .agg #[.int .i64 eWriter3, .int .i64 eIndex4, .int .u64 ePrev5, .int .i64 eAtT6, .int .i64 eAtW7, .int .i64 eEpoch8, .slice eBody9a eBody9n eBody9c, .int .u64 eSig10]]) (by rw [entry_Sign.eq]; exact h)

def entry_Sign.N (o1 : Option Addr) (secret2 : Int) (eWriter3 : Int) (eIndex4 : Int) (ePrev5 : Int) (eAtT6 : Int) (eAtW7 : Int) (eEpoch8 : Int) (eBody9a : Option Addr) (eBody9n : Nat) (eBody9c : Nat) (eSig10 : Int) (R : Value → World → Prop) (w : World) : Prop :=
  ∀ (ww12 : World) (p13 : Nat) (p14 : Nat), Ext no w ww12 → Priv w ww12 [p13, p14] →
  Calls Try.prog 57 #[.agg #[.int .i64 eWriter3, .int .i64 eIndex4, .int .u64 ePrev5, .int .i64 eAtT6, .int .i64 eAtW7, .int .i64 eEpoch8, .slice eBody9a eBody9n eBody9c, .int .u64 eSig10]] ww12 fun ee17 ww18 => ∃ (text15a : Option Addr) (text15n : Nat) (text15c : Nat) (text16 : Int), ee17 = .returned (.tuple #[.slice text15a text15n text15c, .int .i64 text16]) ∧
  Keep [p13, p14] ww12 ww18 ∧
  (text16 ≠ 0 →
    ∀ (ww27 : World), Ext (fun b => b = p14) ww18 ww27 →
    R (.tuple #[.agg #[.int .i64 0, .int .i64 0, .int .u64 0, .int .i64 0, .int .i64 0, .int .i64 0, .slice none 0 0, .int .u64 0], .int .i64 text16]) ww27) ∧
  (text16 = 0 →
    Calls Try.prog 58 #[.pointer o1, .int .u64 secret2, .slice text15a text15n text15c] ww18 fun ee30 ww31 => ∃ (sign28 : Int) (sign29 : Int), ee30 = .returned (.tuple #[.int .u64 sign28, .int .i64 sign29]) ∧
    Keep [p13, p14] ww18 ww31 ∧
    (sign29 ≠ 0 →
      ∀ (ww41 : World), Ext (fun b => b = p14 ∨ b = p13) ww31 ww41 →
      R (.tuple #[.agg #[.int .i64 0, .int .i64 0, .int .u64 0, .int .i64 0, .int .i64 0, .int .i64 0, .slice none 0 0, .int .u64 0], .int .i64 sign29]) ww41) ∧
    (sign29 = 0 →
      ∀ (ww32 : World), Ext (fun b => b = p13) ww31 ww32 →
      Calls Try.prog 59 #[.slice eBody9a eBody9n eBody9c] ww32 fun ee43 ww44 => ∃ (clone42a : Option Addr) (clone42n : Nat) (clone42c : Nat), ee43 = .returned (.slice clone42a clone42n clone42c) ∧
      Keep [p13, p14] ww32 ww44 ∧
      ∀ (ww53 : World), Ext (fun b => b = p14 ∨ b = p13) ww44 ww53 →
      R (.tuple #[.agg #[.int .i64 eWriter3, .int .i64 eIndex4, .int .u64 ePrev5, .int .i64 eAtT6, .int .i64 eAtW7, .int .i64 eEpoch8, .slice clone42a clone42n clone42c, .int .u64 sign28], .int .i64 0]) ww53))

theorem entry_Sign.up (o1 : Option Addr) (secret2 : Int) (eWriter3 : Int) (eIndex4 : Int) (ePrev5 : Int) (eAtT6 : Int) (eAtW7 : Int) (eEpoch8 : Int) (eBody9a : Option Addr) (eBody9n : Nat) (eBody9c : Nat) (eSig10 : Int) {R : Value → World → Prop} {w : World} (h : entry_Sign.N o1 secret2 eWriter3 eIndex4 ePrev5 eAtT6 eAtW7 eEpoch8 eBody9a eBody9n eBody9c eSig10 R w) : entry_Sign.M o1 secret2 eWriter3 eIndex4 ePrev5 eAtT6 eAtW7 eEpoch8 eBody9a eBody9n eBody9c eSig10 R w := by
  unfold entry_Sign.M
  unfold entry_Sign.N at h
  refine thenW_in fun ww11 e11 => ?_
  have hb1 := Blk.of_new e11
  have hg1 := ((Ext.refl no w)).size
  have hx11 := (Ext.refl no w).x_alloc e11
  refine thenW_in fun ww12 e12 => ?_
  have hb2 := Blk.of_new e12
  have hg2 := (hx11).size
  have hb1_2 := Nat.ne_of_lt hb1.lt
  have hb1 := hb1.x_alloc e12
  have hx12 := hx11.x_alloc e12
  refine ⟨eWriter3, eIndex4, ePrev5, eAtT6, eAtW7, eEpoch8, eBody9a, eBody9n, eBody9c, eSig10, ⟨hb1.celli 0 rfl rfl, hb1.celli 1 rfl rfl, hb1.celli 2 rfl rfl, hb1.celli 3 rfl rfl, hb1.celli 4 rfl rfl, hb1.celli 5 rfl rfl, hb1.celli 6 rfl rfl, hb1.celli 7 rfl rfl, trivial⟩, ?_⟩
  have h := h ww12 (w.heap.size) (ww11.heap.size) hx12 (Priv.cons hg1 hb1.lt (Priv.cons hg2 hb2.lt Priv.nil))
  refine h.mono fun ee17 ww18 h => ?_
  obtain ⟨text15a, text15n, text15c, text16, he, hk, h⟩ := h
  refine ⟨text15a, text15n, text15c, text16, he, ?_⟩
  have hb1 := hk.blk hb1 (by simp)
  have hb2 := hk.blk hb2 (by simp)
  refine bif_of (fun c19 => ?_) (fun c19 => ?_)
  · have h := h.1 (bne_t c19)
    have hm27 : Ext (fun b => b = ww11.heap.size) ww18 ww18 := ((Ext.refl no ww18)).none
    refine ⟨hb2.cani 0 rfl rfl, thenW_in fun ww20 e20 => ?_⟩
    have hx20 := hm27.x_set (q := ww11.heap.size) (i := 0) rfl (.inl rfl) e20
    have hb2 := hb2.seti 0 rfl e20
    refine ⟨hb2.cani 1 rfl rfl, thenW_in fun ww21 e21 => ?_⟩
    have hx21 := hx20.x_set (q := ww11.heap.size) (i := 1) rfl (.inl rfl) e21
    have hb2 := hb2.seti 1 rfl e21
    refine ⟨hb2.cani 2 rfl rfl, thenW_in fun ww22 e22 => ?_⟩
    have hx22 := hx21.x_set (q := ww11.heap.size) (i := 2) rfl (.inl rfl) e22
    have hb2 := hb2.seti 2 rfl e22
    refine ⟨hb2.cani 3 rfl rfl, thenW_in fun ww23 e23 => ?_⟩
    have hx23 := hx22.x_set (q := ww11.heap.size) (i := 3) rfl (.inl rfl) e23
    have hb2 := hb2.seti 3 rfl e23
    refine ⟨hb2.cani 4 rfl rfl, thenW_in fun ww24 e24 => ?_⟩
    have hx24 := hx23.x_set (q := ww11.heap.size) (i := 4) rfl (.inl rfl) e24
    have hb2 := hb2.seti 4 rfl e24
    refine ⟨hb2.cani 5 rfl rfl, thenW_in fun ww25 e25 => ?_⟩
    have hx25 := hx24.x_set (q := ww11.heap.size) (i := 5) rfl (.inl rfl) e25
    have hb2 := hb2.seti 5 rfl e25
    refine ⟨hb2.cani 6 rfl rfl, thenW_in fun ww26 e26 => ?_⟩
    have hx26 := hx25.x_set (q := ww11.heap.size) (i := 6) rfl (.inl rfl) e26
    have hb2 := hb2.seti 6 rfl e26
    refine ⟨hb2.cani 7 rfl rfl, thenW_in fun ww27 e27 => ?_⟩
    have hx27 := hx26.x_set (q := ww11.heap.size) (i := 7) rfl (.inl rfl) e27
    have hb2 := hb2.seti 7 rfl e27
    refine ⟨0, 0, 0, 0, 0, 0, none, 0, 0, 0, ⟨hb2.celli 0 rfl rfl, hb2.celli 1 rfl rfl, hb2.celli 2 rfl rfl, hb2.celli 3 rfl rfl, hb2.celli 4 rfl rfl, hb2.celli 5 rfl rfl, hb2.celli 6 rfl rfl, hb2.celli 7 rfl rfl, trivial⟩, ?_⟩
    have h := h ww27 hx27
    exact h
  · have h := h.2 (bne_f c19)
    refine h.mono fun ee30 ww31 h => ?_
    obtain ⟨sign28, sign29, he, hk, h⟩ := h
    refine ⟨sign28, sign29, he, ?_⟩
    have hb1 := hk.blk hb1 (by simp)
    have hb2 := hk.blk hb2 (by simp)
    have hm32 : Ext (fun b => b = w.heap.size) ww31 ww31 := ((Ext.refl no ww31)).none
    refine ⟨hb1.cani 7 rfl rfl, thenW_in fun ww32 e32 => ?_⟩
    have hx32 := hm32.x_set (q := w.heap.size) (i := 7) rfl (.inl rfl) e32
    have hb1 := hb1.seti 7 rfl e32
    have hb2 := hb2.oth (q := w.heap.size) (i := 7) rfl (Ne.symm hb1_2) e32
    refine bif_of (fun c33 => ?_) (fun c33 => ?_)
    · have h := h.1 (bne_t c33)
      have hm41 : Ext (fun b => b = ww11.heap.size ∨ b = w.heap.size) ww31 ww32 := (hx32).mono fun _ h _ => .inr h
      refine ⟨hb2.cani 0 rfl rfl, thenW_in fun ww34 e34 => ?_⟩
      have hx34 := hm41.x_set (q := ww11.heap.size) (i := 0) rfl (.inl (.inl rfl)) e34
      have hb2 := hb2.seti 0 rfl e34
      refine ⟨hb2.cani 1 rfl rfl, thenW_in fun ww35 e35 => ?_⟩
      have hx35 := hx34.x_set (q := ww11.heap.size) (i := 1) rfl (.inl (.inl rfl)) e35
      have hb2 := hb2.seti 1 rfl e35
      refine ⟨hb2.cani 2 rfl rfl, thenW_in fun ww36 e36 => ?_⟩
      have hx36 := hx35.x_set (q := ww11.heap.size) (i := 2) rfl (.inl (.inl rfl)) e36
      have hb2 := hb2.seti 2 rfl e36
      refine ⟨hb2.cani 3 rfl rfl, thenW_in fun ww37 e37 => ?_⟩
      have hx37 := hx36.x_set (q := ww11.heap.size) (i := 3) rfl (.inl (.inl rfl)) e37
      have hb2 := hb2.seti 3 rfl e37
      refine ⟨hb2.cani 4 rfl rfl, thenW_in fun ww38 e38 => ?_⟩
      have hx38 := hx37.x_set (q := ww11.heap.size) (i := 4) rfl (.inl (.inl rfl)) e38
      have hb2 := hb2.seti 4 rfl e38
      refine ⟨hb2.cani 5 rfl rfl, thenW_in fun ww39 e39 => ?_⟩
      have hx39 := hx38.x_set (q := ww11.heap.size) (i := 5) rfl (.inl (.inl rfl)) e39
      have hb2 := hb2.seti 5 rfl e39
      refine ⟨hb2.cani 6 rfl rfl, thenW_in fun ww40 e40 => ?_⟩
      have hx40 := hx39.x_set (q := ww11.heap.size) (i := 6) rfl (.inl (.inl rfl)) e40
      have hb2 := hb2.seti 6 rfl e40
      refine ⟨hb2.cani 7 rfl rfl, thenW_in fun ww41 e41 => ?_⟩
      have hx41 := hx40.x_set (q := ww11.heap.size) (i := 7) rfl (.inl (.inl rfl)) e41
      have hb2 := hb2.seti 7 rfl e41
      refine ⟨0, 0, 0, 0, 0, 0, none, 0, 0, 0, ⟨hb2.celli 0 rfl rfl, hb2.celli 1 rfl rfl, hb2.celli 2 rfl rfl, hb2.celli 3 rfl rfl, hb2.celli 4 rfl rfl, hb2.celli 5 rfl rfl, hb2.celli 6 rfl rfl, hb2.celli 7 rfl rfl, trivial⟩, ?_⟩
      have h := h ww41 hx41
      exact h
    · have h := h.2 (bne_f c33)
      refine ⟨eBody9a, eBody9n, eBody9c, hb1.celli 6 rfl rfl, ?_⟩
      have h := h ww32 hx32
      refine h.mono fun ee43 ww44 h => ?_
      obtain ⟨clone42a, clone42n, clone42c, he, hk, h⟩ := h
      refine ⟨clone42a, clone42n, clone42c, he, ?_⟩
      have hb1 := hk.blk hb1 (by simp)
      have hb2 := hk.blk hb2 (by simp)
      have hm45 : Ext (fun b => b = w.heap.size) ww44 ww44 := ((Ext.refl no ww44)).none
      refine ⟨hb1.cani 6 rfl rfl, thenW_in fun ww45 e45 => ?_⟩
      have hx45 := hm45.x_set (q := w.heap.size) (i := 6) rfl (.inl rfl) e45
      have hb1 := hb1.seti 6 rfl e45
      have hb2 := hb2.oth (q := w.heap.size) (i := 6) rfl (Ne.symm hb1_2) e45
      refine ⟨eWriter3, eIndex4, ePrev5, eAtT6, eAtW7, eEpoch8, clone42a, clone42n, clone42c, sign28, ⟨hb1.celli 0 rfl rfl, hb1.celli 1 rfl rfl, hb1.celli 2 rfl rfl, hb1.celli 3 rfl rfl, hb1.celli 4 rfl rfl, hb1.celli 5 rfl rfl, hb1.celli 6 rfl rfl, hb1.celli 7 rfl rfl, trivial⟩, ?_⟩
      have hm53 : Ext (fun b => b = ww11.heap.size ∨ b = w.heap.size) ww44 ww45 := (hx45).mono fun _ h _ => .inr h
      refine ⟨hb2.cani 0 rfl rfl, thenW_in fun ww46 e46 => ?_⟩
      have hx46 := hm53.x_set (q := ww11.heap.size) (i := 0) rfl (.inl (.inl rfl)) e46
      have hb2 := hb2.seti 0 rfl e46
      refine ⟨hb2.cani 1 rfl rfl, thenW_in fun ww47 e47 => ?_⟩
      have hx47 := hx46.x_set (q := ww11.heap.size) (i := 1) rfl (.inl (.inl rfl)) e47
      have hb2 := hb2.seti 1 rfl e47
      refine ⟨hb2.cani 2 rfl rfl, thenW_in fun ww48 e48 => ?_⟩
      have hx48 := hx47.x_set (q := ww11.heap.size) (i := 2) rfl (.inl (.inl rfl)) e48
      have hb2 := hb2.seti 2 rfl e48
      refine ⟨hb2.cani 3 rfl rfl, thenW_in fun ww49 e49 => ?_⟩
      have hx49 := hx48.x_set (q := ww11.heap.size) (i := 3) rfl (.inl (.inl rfl)) e49
      have hb2 := hb2.seti 3 rfl e49
      refine ⟨hb2.cani 4 rfl rfl, thenW_in fun ww50 e50 => ?_⟩
      have hx50 := hx49.x_set (q := ww11.heap.size) (i := 4) rfl (.inl (.inl rfl)) e50
      have hb2 := hb2.seti 4 rfl e50
      refine ⟨hb2.cani 5 rfl rfl, thenW_in fun ww51 e51 => ?_⟩
      have hx51 := hx50.x_set (q := ww11.heap.size) (i := 5) rfl (.inl (.inl rfl)) e51
      have hb2 := hb2.seti 5 rfl e51
      refine ⟨hb2.cani 6 rfl rfl, thenW_in fun ww52 e52 => ?_⟩
      have hx52 := hx51.x_set (q := ww11.heap.size) (i := 6) rfl (.inl (.inl rfl)) e52
      have hb2 := hb2.seti 6 rfl e52
      refine ⟨hb2.cani 7 rfl rfl, thenW_in fun ww53 e53 => ?_⟩
      have hx53 := hx52.x_set (q := ww11.heap.size) (i := 7) rfl (.inl (.inl rfl)) e53
      have hb2 := hb2.seti 7 rfl e53
      refine ⟨eWriter3, eIndex4, ePrev5, eAtT6, eAtW7, eEpoch8, clone42a, clone42n, clone42c, sign28, ⟨hb2.celli 0 rfl rfl, hb2.celli 1 rfl rfl, hb2.celli 2 rfl rfl, hb2.celli 3 rfl rfl, hb2.celli 4 rfl rfl, hb2.celli 5 rfl rfl, hb2.celli 6 rfl rfl, hb2.celli 7 rfl rfl, trivial⟩, ?_⟩
      have h := h ww53 hx53
      exact h

theorem entry_Sign.go (o1 : Option Addr) (secret2 : Int) (eWriter3 : Int) (eIndex4 : Int) (ePrev5 : Int) (eAtT6 : Int) (eAtW7 : Int) (eEpoch8 : Int) (eBody9a : Option Addr) (eBody9n : Nat) (eBody9c : Nat) (eSig10 : Int) {R : Value → World → Prop} {w : World} (h : entry_Sign.N o1 secret2 eWriter3 eIndex4 ePrev5 eAtT6 eAtW7 eEpoch8 eBody9a eBody9n eBody9c eSig10 R w) : Calls Try.prog 40 #[.pointer o1, .int .u64 secret2, .agg #[.int .i64 eWriter3, .int .i64 eIndex4, .int .u64 ePrev5, .int .i64 eAtT6, .int .i64 eAtW7, .int .i64 eEpoch8, .slice eBody9a eBody9n eBody9c, .int .u64 eSig10]] w fun e w' => ∃ v, e = .returned v ∧ R v w' := entry_Sign.ok o1 secret2 eWriter3 eIndex4 ePrev5 eAtT6 eAtW7 eEpoch8 eBody9a eBody9n eBody9c eSig10 (entry_Sign.up o1 secret2 eWriter3 eIndex4 ePrev5 eAtT6 eAtW7 eEpoch8 eBody9a eBody9n eBody9c eSig10 h)
theorem entry_Sign.run (o1 : Option Addr) (secret2 : Int) (eWriter3 : Int) (eIndex4 : Int) (ePrev5 : Int) (eAtT6 : Int) (eAtW7 : Int) (eEpoch8 : Int) (eBody9a : Option Addr) (eBody9n : Nat) (eBody9c : Nat) (eSig10 : Int) {V : Value} {Q : World → Prop} {w : World} (h : entry_Sign.N o1 secret2 eWriter3 eIndex4 ePrev5 eAtT6 eAtW7 eEpoch8 eBody9a eBody9n eBody9c eSig10 (fun v w' => v = V ∧ Q w') w) : Calls Try.prog 40 #[.pointer o1, .int .u64 secret2, .agg #[.int .i64 eWriter3, .int .i64 eIndex4, .int .u64 ePrev5, .int .i64 eAtT6, .int .i64 eAtW7, .int .i64 eEpoch8, .slice eBody9a eBody9n eBody9c, .int .u64 eSig10]] w (Ret V Q) := (entry_Sign.go o1 secret2 eWriter3 eIndex4 ePrev5 eAtT6 eAtW7 eEpoch8 eBody9a eBody9n eBody9c eSig10 h).mono fun e w' ⟨v, he, hv, hq⟩ => ⟨by rw [he, hv], hq⟩

/-- entry.Holds -/
def entry_Holds.M (o1 : Option Addr) (publicv2 : Int) (eWriter3 : Int) (eIndex4 : Int) (ePrev5 : Int) (eAtT6 : Int) (eAtW7 : Int) (eEpoch8 : Int) (eBody9a : Option Addr) (eBody9n : Nat) (eBody9c : Nat) (eSig10 : Int) (R : Value → World → Prop) (w : World) : Prop :=
  thenW (w.alloc (.cells #[.int .i64 eWriter3, .int .i64 eIndex4, .int .u64 ePrev5, .int .i64 eAtT6, .int .i64 eAtW7, .int .i64 eEpoch8, .slice eBody9a eBody9n eBody9c, .int .u64 eSig10] 39)) fun ww11 =>
  ∃ (xWriter12 : Int) (xIndex13 : Int) (xPrev14 : Int) (xAtT15 : Int) (xAtW16 : Int) (xEpoch17 : Int) (xBody18a : Option Addr) (xBody18n : Nat) (xBody18c : Nat) (xSig19 : Int), cellsAt ww11 (blk w.heap.size) [.int .i64 xWriter12, .int .i64 xIndex13, .int .u64 xPrev14, .int .i64 xAtT15, .int .i64 xAtW16, .int .i64 xEpoch17, .slice xBody18a xBody18n xBody18c, .int .u64 xSig19] 0 ∧
  Calls Try.prog 57 #[.agg #[.int .i64 xWriter12, .int .i64 xIndex13, .int .u64 xPrev14, .int .i64 xAtT15, .int .i64 xAtW16, .int .i64 xEpoch17, .slice xBody18a xBody18n xBody18c, .int .u64 xSig19]] ww11 fun ee22 ww23 => ∃ (text20a : Option Addr) (text20n : Nat) (text20c : Nat) (text21 : Int), ee22 = .returned (.tuple #[.slice text20a text20n text20c, .int .i64 text21]) ∧
  bif text21 == 0 then (
  ∃ (Sig24 : Int), ww23.cell? ((blk w.heap.size).add 7) = some (.int .u64 Sig24) ∧
  Calls Try.prog 82 #[.pointer o1, .int .u64 publicv2, .slice text20a text20n text20c, .int .u64 Sig24] ww23 fun ee26 ww27 => ∃ (verify25 : Bool), ee26 = .returned (.bool verify25) ∧
  R (.bool verify25) ww27) else (
  R (.bool false) ww23)

theorem entry_Holds.eq (o1 : Option Addr) (publicv2 : Int) (eWriter3 : Int) (eIndex4 : Int) (ePrev5 : Int) (eAtT6 : Int) (eAtW7 : Int) (eEpoch8 : Int) (eBody9a : Option Addr) (eBody9n : Nat) (eBody9c : Nat) (eSig10 : Int) (R : Value → World → Prop) (w : World) : mfunc Try.prog [] 67 [.pointer o1, .int .u64 publicv2, .agg #[.int .i64 eWriter3, .int .i64 eIndex4, .int .u64 ePrev5, .int .i64 eAtT6, .int .i64 eAtW7, .int .i64 eEpoch8, .slice eBody9a eBody9n eBody9c, .int .u64 eSig10]] R w = entry_Holds.M o1 publicv2 eWriter3 eIndex4 ePrev5 eAtT6 eAtW7 eEpoch8 eBody9a eBody9n eBody9c eSig10 R w := by kernel_rfl
theorem entry_Holds.ok (o1 : Option Addr) (publicv2 : Int) (eWriter3 : Int) (eIndex4 : Int) (ePrev5 : Int) (eAtT6 : Int) (eAtW7 : Int) (eEpoch8 : Int) (eBody9a : Option Addr) (eBody9n : Nat) (eBody9c : Nat) (eSig10 : Int) {R : Value → World → Prop} {w : World} (h : entry_Holds.M o1 publicv2 eWriter3 eIndex4 ePrev5 eAtT6 eAtW7 eEpoch8 eBody9a eBody9n eBody9c eSig10 R w) : Calls Try.prog 67 #[.pointer o1, .int .u64 publicv2, .agg #[.int .i64 eWriter3, .int .i64 eIndex4, .int .u64 ePrev5, .int .i64 eAtT6, .int .i64 eAtW7, .int .i64 eEpoch8, .slice eBody9a eBody9n eBody9c, .int .u64 eSig10]] w fun e w' => ∃ v, e = .returned v ∧ R v w' :=
  mfunc_ok follows (H := []) (args := [.pointer o1, .int .u64 publicv2, .agg #[.int .i64 eWriter3, .int .i64 eIndex4, .int .u64 ePrev5, .int .i64 eAtT6, .int .i64 eAtW7, .int .i64 eEpoch8, .slice eBody9a eBody9n eBody9c, .int .u64 eSig10]]) (by rw [entry_Holds.eq]; exact h)

def entry_Holds.N (o1 : Option Addr) (publicv2 : Int) (eWriter3 : Int) (eIndex4 : Int) (ePrev5 : Int) (eAtT6 : Int) (eAtW7 : Int) (eEpoch8 : Int) (eBody9a : Option Addr) (eBody9n : Nat) (eBody9c : Nat) (eSig10 : Int) (R : Value → World → Prop) (w : World) : Prop :=
  ∀ (ww11 : World) (p12 : Nat), Ext no w ww11 → Priv w ww11 [p12] →
  Calls Try.prog 57 #[.agg #[.int .i64 eWriter3, .int .i64 eIndex4, .int .u64 ePrev5, .int .i64 eAtT6, .int .i64 eAtW7, .int .i64 eEpoch8, .slice eBody9a eBody9n eBody9c, .int .u64 eSig10]] ww11 fun ee15 ww16 => ∃ (text13a : Option Addr) (text13n : Nat) (text13c : Nat) (text14 : Int), ee15 = .returned (.tuple #[.slice text13a text13n text13c, .int .i64 text14]) ∧
  Keep [p12] ww11 ww16 ∧
  (text14 = 0 →
    Calls Try.prog 82 #[.pointer o1, .int .u64 publicv2, .slice text13a text13n text13c, .int .u64 eSig10] ww16 fun ee19 ww20 => ∃ (verify18 : Bool), ee19 = .returned (.bool verify18) ∧
    R (.bool verify18) ww20) ∧
  (text14 ≠ 0 →
    R (.bool false) ww16)

theorem entry_Holds.up (o1 : Option Addr) (publicv2 : Int) (eWriter3 : Int) (eIndex4 : Int) (ePrev5 : Int) (eAtT6 : Int) (eAtW7 : Int) (eEpoch8 : Int) (eBody9a : Option Addr) (eBody9n : Nat) (eBody9c : Nat) (eSig10 : Int) {R : Value → World → Prop} {w : World} (h : entry_Holds.N o1 publicv2 eWriter3 eIndex4 ePrev5 eAtT6 eAtW7 eEpoch8 eBody9a eBody9n eBody9c eSig10 R w) : entry_Holds.M o1 publicv2 eWriter3 eIndex4 ePrev5 eAtT6 eAtW7 eEpoch8 eBody9a eBody9n eBody9c eSig10 R w := by
  unfold entry_Holds.M
  unfold entry_Holds.N at h
  refine thenW_in fun ww11 e11 => ?_
  have hb1 := Blk.of_new e11
  have hg1 := ((Ext.refl no w)).size
  have hx11 := (Ext.refl no w).x_alloc e11
  refine ⟨eWriter3, eIndex4, ePrev5, eAtT6, eAtW7, eEpoch8, eBody9a, eBody9n, eBody9c, eSig10, ⟨hb1.celli 0 rfl rfl, hb1.celli 1 rfl rfl, hb1.celli 2 rfl rfl, hb1.celli 3 rfl rfl, hb1.celli 4 rfl rfl, hb1.celli 5 rfl rfl, hb1.celli 6 rfl rfl, hb1.celli 7 rfl rfl, trivial⟩, ?_⟩
  have h := h ww11 (w.heap.size) hx11 (Priv.cons hg1 hb1.lt Priv.nil)
  refine h.mono fun ee15 ww16 h => ?_
  obtain ⟨text13a, text13n, text13c, text14, he, hk, h⟩ := h
  refine ⟨text13a, text13n, text13c, text14, he, ?_⟩
  have hb1 := hk.blk hb1 (by simp)
  refine bif_of (fun c17 => ?_) (fun c17 => ?_)
  · have h := h.1 (beq_t c17)
    refine ⟨eSig10, hb1.celli 7 rfl rfl, ?_⟩
    refine h.mono fun ee19 ww20 h => ?_
    obtain ⟨verify18, he, h⟩ := h
    refine ⟨verify18, he, ?_⟩
    exact h
  · have h := h.2 (beq_f c17)
    exact h

theorem entry_Holds.go (o1 : Option Addr) (publicv2 : Int) (eWriter3 : Int) (eIndex4 : Int) (ePrev5 : Int) (eAtT6 : Int) (eAtW7 : Int) (eEpoch8 : Int) (eBody9a : Option Addr) (eBody9n : Nat) (eBody9c : Nat) (eSig10 : Int) {R : Value → World → Prop} {w : World} (h : entry_Holds.N o1 publicv2 eWriter3 eIndex4 ePrev5 eAtT6 eAtW7 eEpoch8 eBody9a eBody9n eBody9c eSig10 R w) : Calls Try.prog 67 #[.pointer o1, .int .u64 publicv2, .agg #[.int .i64 eWriter3, .int .i64 eIndex4, .int .u64 ePrev5, .int .i64 eAtT6, .int .i64 eAtW7, .int .i64 eEpoch8, .slice eBody9a eBody9n eBody9c, .int .u64 eSig10]] w fun e w' => ∃ v, e = .returned v ∧ R v w' := entry_Holds.ok o1 publicv2 eWriter3 eIndex4 ePrev5 eAtT6 eAtW7 eEpoch8 eBody9a eBody9n eBody9c eSig10 (entry_Holds.up o1 publicv2 eWriter3 eIndex4 ePrev5 eAtT6 eAtW7 eEpoch8 eBody9a eBody9n eBody9c eSig10 h)
theorem entry_Holds.run (o1 : Option Addr) (publicv2 : Int) (eWriter3 : Int) (eIndex4 : Int) (ePrev5 : Int) (eAtT6 : Int) (eAtW7 : Int) (eEpoch8 : Int) (eBody9a : Option Addr) (eBody9n : Nat) (eBody9c : Nat) (eSig10 : Int) {V : Value} {Q : World → Prop} {w : World} (h : entry_Holds.N o1 publicv2 eWriter3 eIndex4 ePrev5 eAtT6 eAtW7 eEpoch8 eBody9a eBody9n eBody9c eSig10 (fun v w' => v = V ∧ Q w') w) : Calls Try.prog 67 #[.pointer o1, .int .u64 publicv2, .agg #[.int .i64 eWriter3, .int .i64 eIndex4, .int .u64 ePrev5, .int .i64 eAtT6, .int .i64 eAtW7, .int .i64 eEpoch8, .slice eBody9a eBody9n eBody9c, .int .u64 eSig10]] w (Ret V Q) := (entry_Holds.go o1 publicv2 eWriter3 eIndex4 ePrev5 eAtT6 eAtW7 eEpoch8 eBody9a eBody9n eBody9c eSig10 h).mono fun e w' ⟨v, he, hv, hq⟩ => ⟨by rw [he, hv], hq⟩

def sumE (S : OS) (e : Ent) : (Int × Int) × OS := if entRight e = true then (((hashOf S (bytesL e)).1, 0), (hashOf S (bytesL e)).2) else ((0, 1), S)
def signE (S : OS) (s : Int) (e : Ent) : (Ent × Int) × OS :=
  if entRight e = true then (if (signOf S s (textL e)).1.2 = true then (({ e with sg := (signOf S s (textL e)).1.1 }, 0), (signOf S s (textL e)).2) else ((Ent.zero, 11), (signOf S s (textL e)).2)) else ((Ent.zero, 1), S)
def holdsE (S : OS) (p : Int) (e : Ent) : Bool := entRight e && verifyOf S p (textL e) e.sg
section
variable {w w' : World} {o o' : Own} {k : Nat} {S : OS} {K : Nat → Prop}
theorem OwnB.tight {N : Nat} {a : Option Addr} {c : Nat} {l : List UInt8} (h : OwnB N w' a c l) (hN : w.heap.size ≤ N) : Row w' (grow w o) a (bytesV l) := Row.fresh h.row fun ad ha => Nat.le_trans hN (h.fr ad ha).1
theorem bClone_spec {a : Option Addr} {c : Nat} {bs : List UInt8} (h : RowAt w a (bytesV bs)) (hl : bs.length ≤ 1000000) :
    Calls Try.prog 59 #[.slice a bs.length c] w (fun e w' => ∃ a' c', e = .returned (.slice a' bs.length c') ∧ OwnB w.heap.size w' a' c' bs ∧ Ext no w w') := by
  refine (bytes_Clone.go _ _ _ (R := fun v w' => ∃ a' c', v = (.slice a' bs.length c') ∧ OwnB w.heap.size w' a' c' bs ∧ Ext no w w') ?_).mono fun e w' ⟨v, he, a, c, hv, hw⟩ => ⟨a, c, by rw [he, hv], hw⟩
  unfold bytes_Clone.N
  refine ⟨fun hn => ?_, fun hn w2 q X hb hq hq' => ?_⟩
  · subst hn
    have : bs = [] := by simpa [bytesV] using h.none_nil
    subst this
    exact ⟨none, 0, rfl, OwnB.nil _ _, Ext.refl _ _⟩
  · have hO : OwnB w.heap.size w2 (some (blk q)) 0 [] := ⟨owns_of_blk hb rfl (Nat.zero_le _), fun ad ha => by cases ha; exact ⟨hq, hq'⟩⟩
    obtain ⟨a', c', w', hr, hO', hx⟩ := hO.append (t := 24) (ty := 24) Try.underlying24 X.size (xc := c) (h.no X) (by simp; omega)
    rw [List.nil_append] at hr hO'
    exact ⟨a', _, c', w', hr, a', c', rfl, hO', X.then hx fun b hb => .inr hb⟩
theorem SumO (h : POrc w o k S) (ok : Tags w o) (hok : S.ok) (hlen : S.used.length < 1000000) {e : Ent} (hf : entRight e = true → e.fit) {ba : Option Addr} {bc : Nat} (hb : RowAt w ba (bytesV e.body)) :
    Calls Try.prog 51 #[.pointer (some (blk k)), entV e ba bc] w (Gs (fun j => j = k) w o (.tuple #[u64V (sumE S e).1.1, .int .i64 (sumE S e).1.2]) fun w' o' => POrc w' o' k (sumE S e).2) := by
  refine (entry_Sum.go (some (blk k)) e.w e.i e.pv e.t e.tw e.ep ba e.body.length bc e.sg (R := fun v w' => ∃ o', v = (.tuple #[u64V (sumE S e).1.1, .int .i64 (sumE S e).1.2]) ∧ Step (fun j => j = k) w o w' o' ∧ POrc w' o' k (sumE S e).2) ?_).mono fun x w' ⟨v, he, o', hv, hw⟩ => ⟨o', by rw [he, hv], hw⟩
  unfold entry_Sum.N
  intro w10 X10
  have s10 := Step.of_no X10 ok
  refine (EBytesK_spec hf (hb.no X10)).mono fun x w15 ⟨a, c, he, hO, X⟩ => ⟨_, _, _, _, he, ?_⟩
  have s15 := Step.of_no X s10.ok
  have s := s10.trans s15
  have h15 := h.step s id
  unfold bytesK sumE at *
  by_cases hr : entRight e = true
  · rw [if_pos hr] at hO ⊢
    rw [if_pos hr]
    refine ⟨fun h => absurd rfl h, fun _ => ⟨fun h => (by cases h), fun _ => ?_⟩⟩
    refine (HashO h15 s.ok hok hlen (OwnB.tight hO (Nat.le_refl _))).mono fun x w20 ⟨o20, he, s20, h20⟩ => ⟨_, he, o20, rfl, s.none.trans s20, h20⟩
  · rw [if_neg hr]
    rw [if_neg hr]
    exact ⟨fun _ => ⟨_, rfl, s.none, h15⟩, fun h => absurd h (by decide)⟩
theorem SignE (h : POrc w o k S) (ok : Tags w o) (hok : S.ok) (hlen : S.used.length < 1000000) (s : Int) {e : Ent} (hf : entRight e = true → e.fit) {ba : Option Addr} {bc : Nat} (hb : Row w o ba (bytesV e.body)) :
    Calls Try.prog 40 #[.pointer (some (blk k)), .int .u64 s, entV e ba bc] w (fun x w' => ∃ o' a' c', x = .returned (.tuple #[entV (signE S s e).1.1 a' c', .int .i64 (signE S s e).1.2]) ∧ Step (fun j => j = k) w o w' o' ∧ POrc w' o' k (signE S s e).2 ∧ Row w' o' a' (bytesV (signE S s e).1.1.body) ∧ (signE S s e).1.1.body.length ≤ c') := by
  refine (entry_Sign.go (some (blk k)) s e.w e.i e.pv e.t e.tw e.ep ba e.body.length bc e.sg (R := fun v w' => ∃ o' a' c', v = (.tuple #[entV (signE S s e).1.1 a' c', .int .i64 (signE S s e).1.2]) ∧ Step (fun j => j = k) w o w' o' ∧ POrc w' o' k (signE S s e).2 ∧ Row w' o' a' (bytesV (signE S s e).1.1.body) ∧ (signE S s e).1.1.body.length ≤ c') ?_).mono fun x w' ⟨v, he, o', a', c', hv, hw⟩ => ⟨o', a', c', by rw [he, hv], hw⟩
  unfold entry_Sign.N
  intro w12 p13 p14 X12 hp
  obtain ⟨hp1, hp2⟩ := hp.two
  obtain ⟨o12, s12, t13, t14⟩ := Step.priv2 X12 hp ok
  have hkl := h.lt
  refine (TextK_spec hf (hb.step s12).1).mono fun x w18 ⟨a, c, he, hO, X⟩ => ⟨_, _, _, _, he, X.kept, ?_⟩
  have s18' := Step.of_no X s12.ok
  have s18 := s12.trans s18'
  have t13 : grow w12 o12 p13 = some p13 := (s18'.own hp1.2).trans t13
  have t14 : grow w12 o12 p14 = some p14 := (s18'.own hp2.2).trans t14
  have h18 := h.step s18 id
  have l18 := X.size
  unfold textK signE at *
  by_cases hr : entRight e = true
  · rw [if_pos hr] at hO ⊢
    rw [if_pos hr]
    refine ⟨fun h => absurd rfl h, fun _ => ?_⟩
    refine (SignO h18 s18.ok hok hlen s (OwnB.tight hO (Nat.le_refl _))).mono fun x w31 ⟨o31, he, s31', h31⟩ => ⟨_, _, he, s31'.keep2 t13 (by omega) t14 (by omega), ?_⟩
    have s31 := s18.none.trans s31'
    have t13 := (s31'.own (by omega)).trans t13
    have t14 := (s31'.own (by omega)).trans t14
    have l31 := s31'.size
    cases hs : (signOf S s (textL e)).1.2
    · simp only [if_false, Bool.false_eq_true]
      refine ⟨fun _ w41 X41 => ?_, fun h => absurd h (by decide)⟩
      obtain ⟨o41, s41⟩ := Step.store2 X41 s31.ok t14 t13
      exact ⟨o41, none, 0, rfl, s31.trans' s41 fun j hj => .inr (by omega), h31.step s41 (by omega), Row.nil _ _ _, Nat.le_refl _⟩
    · simp only [if_true]
      refine ⟨fun h => absurd rfl h, fun _ w32 X32 => ?_⟩
      obtain ⟨o32, s32'⟩ := Step.store1 X32 s31.ok t13
      have s32 := s31.trans' s32' fun j hj => .inr (by omega)
      have hbl := ((entRight_iff _).1 hr).2.2.2.2.2.2.2.2.2.1
      have t13 := (s32'.own (by omega)).trans t13
      have t14 := (s32'.own (by omega)).trans t14
      have l32 := s32'.size
      refine (bClone_spec (hb.step s32).1 (by omega)).mono fun x w44 ⟨ca, cc, he, hO, X44⟩ => ⟨_, _, _, he, X44.kept, fun w53 X53 => ?_⟩
      have s44' := Step.of_no X44 s32.ok
      have s44 := s32.trans s44'.none
      have t13 := (s44'.own (by omega)).trans t13
      have t14 := (s44'.own (by omega)).trans t14
      obtain ⟨o53, s53⟩ := Step.store2 X53 s44.ok t14 t13
      exact ⟨o53, ca, cc, rfl, s44.trans' s53 fun j hj => .inr (by omega), ((h31.step s32' (by omega)).step s44' id).step s53 (by omega), (OwnB.tight hO (Nat.le_refl _)).step s53, hO.le⟩
  · rw [if_neg hr]
    rw [if_neg hr]
    refine ⟨fun _ w27 X27 => ?_, fun h => absurd h (by decide)⟩
    obtain ⟨o27, s27⟩ := Step.store1 X27 s18.ok t14
    exact ⟨o27, none, 0, rfl, s18.none.trans' s27 fun j hj => .inr (by omega), h18.step s27 (by omega), Row.nil _ _ _, Nat.le_refl _⟩
theorem HoldsO (h : POrc w o k S) (ok : Tags w o) (p : Int) {e : Ent} (hf : entRight e = true → e.fit) {ba : Option Addr} {bc : Nat} (hb : RowAt w ba (bytesV e.body)) :
    Calls Try.prog 67 #[.pointer (some (blk k)), .int .u64 p, entV e ba bc] w (Ret (.bool (holdsE S p e)) fun w' => Ext no w w') := by
  refine entry_Holds.run (some (blk k)) p e.w e.i e.pv e.t e.tw e.ep ba e.body.length bc e.sg ?_
  unfold entry_Holds.N
  intro w11 p12 X11 hp
  refine (TextK_spec hf (hb.no X11)).mono fun x w16 ⟨a, c, he, hO, X⟩ => ⟨_, _, _, _, he, X.kept, ?_⟩
  have s := (Step.of_no X11 ok).trans (Step.of_no X (Step.of_no X11 ok).ok)
  unfold textK holdsE at *
  by_cases hr : entRight e = true
  · rw [if_pos hr] at hO ⊢
    rw [hr, Bool.true_and]
    refine ⟨fun _ => ?_, fun h => absurd rfl h⟩
    exact (VerifyO (h.step s id) s.ok p e.sg (OwnB.tight hO (Nat.le_refl _))).mono fun x w20 ⟨he, X20⟩ => ⟨_, he, rfl, (X11.trans X).trans X20⟩
  · rw [if_neg hr]
    rw [show entRight e = false by simpa using hr, Bool.false_and]
    exact ⟨fun h => absurd h (by decide), fun _ => ⟨rfl, X11.trans X⟩⟩
end
end Go.Proofs.Ytnppbflccbpoeaa

/- A function's own blocks, each its own owner. -/
set_option linter.unusedSimpArgs false
set_option linter.unusedVariables false
set_option linter.unusedSectionVars false
namespace Go.Mx
section
variable {K K1 : Nat → Prop} {w w1 w' : World} {o o1 o' : Own} {p q j : Nat}
def Mine (L : List Nat) (w : World) (o : Own) : Prop := ∀ p ∈ L, p < w.heap.size ∧ o p = some p
theorem Mine.nil : Mine [] w o := fun p hp => by simp at hp
theorem Mine.step {L : List Nat} (h : Mine L w o) (s : Step K w o w' o') : Mine L w' o' := fun p hp => ⟨Nat.lt_of_lt_of_le (h p hp).1 s.size, by rw [s.own (h p hp).1]; exact (h p hp).2⟩
theorem Mine.keep {L : List Nat} (h : Mine L w o) (s : Step K w o w' o') (hk : ∀ p ∈ L, ¬ K p) : Keep L w w' := s.keep fun p hp _ k hk' => by
  rw [(h p hp).2] at hk'; cases hk'; exact hk p hp
theorem Mine.sub {L M : List Nat} (h : Mine L w o) (k : ∀ p ∈ M, p ∈ L) : Mine M w o := fun p hp => h p (k p hp)
theorem Mine.app {L M : List Nat} (h : Mine L w o) (k : Mine M w o) : Mine (L ++ M) w o := fun p hp => (List.mem_append.1 hp).elim (h p) (k p)
theorem Mine.lt {L : List Nat} (h : Mine L w o) {p : Nat} (hp : p ∈ L) : p < w.heap.size := (h p hp).1
def tags (w : World) (o : Own) (L : List Nat) : Own := fun b => if b < w.heap.size then o b else if b ∈ L then some b else none
theorem Step.priv {L : List Nat} (h : Ext no w w') (hp : Priv w w' L) (ok : Tags w o) : Step no w o w' (tags w o L) ∧ Mine L w' (tags w o L) := by
  refine ⟨⟨h.mono fun _ h _ => h.elim, fun b hb => if_pos hb, ok, fun b j hb hj => ?_⟩, fun p hq => ⟨(hp p hq).2, ?_⟩⟩
  · unfold tags at hj
    split at hj
    · rename_i hl; exact Nat.lt_of_lt_of_le (ok b j hl hj) h.size
    · split at hj
      · cases hj; exact hb
      · cases hj
  · unfold tags
    rw [if_neg (by have := (hp p hq).1; omega), if_pos hq]
/-- stores into blocks of one's own. -/
theorem Step.stores {L : List Nat} {m : Nat → Prop} (h : Ext m w w') (ok : Tags w o) (hL : Mine L w o) (hm : ∀ b, m b → b ∈ L) : Step (fun j => j ∈ L) w o w' (grow w o) :=
  Step.of_exts h ok fun b hb _ => ⟨b, (hL b (hm b hb)).2, hm b hb⟩
end
end Go.Mx

/- Entries in a row, and where their bytes lie. -/
set_option linter.unusedVariables false
set_option linter.unusedSimpArgs false
set_option maxRecDepth 20000
namespace Go.Proofs.Ytnppbflccbpoeaa
open Go Go.Mx Go.Proofs
/-- an entry, and where its bytes lie. -/
structure PE where
  e : Ent
  a : Option Addr
  c : Nat
def PE.C (x : PE) : List Value := entC x.e x.a x.c
def PE.ok (w : World) (o : Own) (x : PE) : Prop := Row w o x.a (bytesV x.e.body) ∧ x.e.body.length ≤ x.c ∧ x.e.fit
def PE.Cs (l : List PE) : List Value := l.flatMap PE.C
theorem PE.len (x : PE) : x.C.length = 8 := rfl
theorem PE.Cs_get : ∀ {l : List PE} {i : Nat} {x : PE}, l[i]? = some x → ∀ j, j < 8 → (PE.Cs l)[i * 8 + j]? = x.C[j]?
  | [], i, x, hi, j, hj => by simp at hi
  | a :: r, 0, x, hi, j, hj => by
    simp only [List.getElem?_cons_zero, Option.some.injEq] at hi
    subst hi
    simp only [PE.Cs, List.flatMap_cons, Nat.zero_mul, Nat.zero_add]
    rw [List.getElem?_append_left (by rw [PE.len]; omega)]
  | a :: r, i + 1, x, hi, j, hj => by
    simp only [List.getElem?_cons_succ] at hi
    have := PE.Cs_get hi j hj
    simp only [PE.Cs, List.flatMap_cons] at this ⊢
    rw [List.getElem?_append_right (by rw [PE.len]; omega), show (i + 1) * 8 + j - a.C.length = i * 8 + j by rw [PE.len]; omega]
    exact this
theorem PE.one (x : PE) : ∀ u ∈ x.C, u.oneCell' = true := fun u hu => by
  simp only [PE.C, entC, List.mem_cons, List.not_mem_nil, or_false] at hu
  rcases hu with rfl | rfl | rfl | rfl | rfl | rfl | rfl | rfl <;> rfl
theorem PE.ok.step {w w' : World} {o o' : Own} {K : Nat → Prop} {x : PE} (h : x.ok w o) (s : Step K w o w' o') : x.ok w' o' := ⟨h.1.step s, h.2⟩
theorem PE.loads {w : World} {la : Option Addr} {ad : Addr} {l : List PE} (hr : RowAt w la (PE.Cs l)) (ha : la = some ad) {i : Nat} {x : PE} (hi : l[i]? = some x) : cellsAt w (ad.add (i * 8)) x.C 0 := by
  subst ha
  have h : ∀ j v, x.C[j]? = some v → w.cell? ((ad.add (i * 8)).add j) = some v := fun j v hv => by
    have hj : j < 8 := by have := (List.getElem?_eq_some_iff.1 hv).1; exact this
    rw [add_add]
    exact hr.at_ ((PE.Cs_get hi j hj).trans hv)
  exact ⟨h 0 _ rfl, h 1 _ rfl, h 2 _ rfl, h 3 _ rfl, h 4 _ rfl, h 5 _ rfl, h 6 _ rfl, h 7 _ rfl, trivial⟩
theorem PE.cell {w : World} {la : Option Addr} {ad : Addr} {l : List PE} (hr : RowAt w la (PE.Cs l)) (ha : la = some ad) {i : Nat} {x : PE} (hi : l[i]? = some x) {j : Nat} {v : Value} (hv : x.C[j]? = some v) : w.cell? ((ad.add (i * 8)).add j) = some v := by
  subst ha
  have hj : j < 8 := by have := (List.getElem?_eq_some_iff.1 hv).1; exact this
  rw [add_add]
  exact hr.at_ ((PE.Cs_get hi j hj).trans hv)
end Go.Proofs.Ytnppbflccbpoeaa
